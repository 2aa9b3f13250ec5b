/- Texts put together. -/
import Derived.Test.YtflieamjacclnaaGreatDoorMHH2
import Derived.Shelf.Strconv.Itoa0
import Derived.Shelf.Strconv.Itoa1
import Derived.Shelf.LaysM
import Derived.Shelf.Strconv.Itoa2
import Derived.Shelf.Strconv.Itoa3
import Derived.Test.YtflieamjacclnaaGreatDoorProg
set_option linter.unusedVariables false
set_option linter.unusedSimpArgs false
namespace Go.Proofs.YtflieamjacclnaaGreatDoor
section
open Gw
def zdh.f (a0:PChecker) (a1:Int) (a2:Int):Option (Nd × (Option (Int × List Int))) :=
 (zcf.f a0.t a1).bind fun r5=>if decide (r5.1.kind ≠ a2) then some (r5.1,(some (130,([]:List Int)))) else some (r5.1,none)
def zdi.g (zeg:PChecker→PTerm→(List (ByteArray × Int))→Option (Int × (Option (Int × List Int)))) (a0:PChecker) (a1:PTerm) (a2:Int) (a3:List (ByteArray × Int)):Option (Int × (Option (Int × List Int))) :=
 chk (inb a2 a1.sub.length) ((zeg a0 (at_ PTerm.z a1.sub a2) a3).bind fun r16=>(zdf.f a2 r16.2).bind fun r22=>some (r16.1,r22))
def zdj.g (zef:PChecker→PTerm→(List (ByteArray × Int))→Int→Option (Option (Int × List Int))) (a0:PChecker) (a1:PTerm) (a2:Int) (a3:List (ByteArray × Int)) (a4:Int):Option (Option (Int × List Int)) :=
 chk (inb a2 a1.sub.length) ((zef a0 (at_ PTerm.z a1.sub a2) a3 a4).bind fun r8=>(zdf.f a2 r8).bind fun r12=>some r12)
def zdk.g (zeg:PChecker→PTerm→(List (ByteArray × Int))→Option (Int × (Option (Int × List Int)))) (a0:PChecker) (a1:PTerm) (a2:List (ByteArray × Int)) (a3:Int):Option (Nd × (Option (Int × List Int))) :=
 (zdi.g zeg a0 a1 0 a2).bind fun r7=>if r7.2.isSome then some (Nd.z,r7.2) else (zdh.f a0 r7.1 a3).bind fun r13=>some (r13.1,r13.2)
def zdl.g (zeg:PChecker→PTerm→(List (ByteArray × Int))→Option (Int × (Option (Int × List Int)))) (zef:PChecker→PTerm→(List (ByteArray × Int))→Int→Option (Option (Int × List Int))) (a0:PChecker) (a1:PTerm) (a2:List (ByteArray × Int)):Option (Int × (Option (Int × List Int))) :=
 if decide (a1.kind=1) then (zco.f a2 a1.name).bind fun r6=>some (r6.1,r6.2) else if decide (a1.kind=3) then (zdk.g zeg a0 a1 a2 5).bind fun r11=>if r11.2.isSome then some (0,r11.2) else (zdj.g zef a0 a1 1 a2 r11.1.l).bind fun r19=>some (r11.1.r,r19) else if decide (a1.kind=5) then (zdk.g zeg a0 a1 a2 3).bind fun r24=>some (r24.1.l,r24.2) else if decide (a1.kind=6) then (zdk.g zeg a0 a1 a2 3).bind fun r32=>some (r32.1.r,r32.2) else if decide (a1.kind=11) then (zcf.f a0.t a1.form).bind fun r40=>if !r40.2 then some (0,(some (31,([]:List Int)))) else (zdj.g zef a0 a1 0 a2 a1.form).bind fun r49=>some (a1.form,r49) else if decide (a1.kind=12) then (zdi.g zeg a0 a1 0 a2).bind fun r54=>if r54.2.isSome then some (0,r54.2) else (zdi.g zeg a0 a1 1 ((a1.name,r54.1) :: a2)).bind fun r66=>some (r66.1,r66.2) else if decide (a1.kind=9) then (zdk.g zeg a0 a1 a2 4).bind fun r73=>if r73.2.isSome then some (0,r73.2) else (zdi.g zeg a0 a1 1 ((a1.name,r73.1.l) :: a2)).bind fun r88=>if r88.2.isSome then some (0,r88.2) else (zdi.g zeg a0 a1 2 ((a1.other,r73.1.r) :: a2)).bind fun r102=>if r102.2.isNone && (decide (r102.1 ≠ r88.1)) then some (r88.1,(some (130,([]:List Int)))) else some (r88.1,r102.2) else some (0,(some (132,([]:List Int))))
def zdm.g (zeg:PChecker→PTerm→(List (ByteArray × Int))→Option (Int × (Option (Int × List Int)))) (zef:PChecker→PTerm→(List (ByteArray × Int))→Int→Option (Option (Int × List Int))) (a0:PChecker) (a1:PTerm) (a2:List (ByteArray × Int)) (a3:Int):Option (Option (Int × List Int)) :=
 if decide (a1.kind=2) then (zdh.f a0 a3 5).bind fun r6=>if r6.2.isSome then some r6.2 else (zdj.g zef a0 a1 0 ((a1.name,r6.1.l) :: a2) r6.1.r).bind fun r17=>some r17 else if decide (a1.kind=4) then (zdh.f a0 a3 3).bind fun r22=>if r22.2.isSome then some r22.2 else (zdj.g zef a0 a1 0 a2 r22.1.l).bind fun r30=>if r30.isSome then some r30 else (zdj.g zef a0 a1 1 a2 r22.1.r).bind fun r35=>some r35 else (if decide (a1.kind=7) then some (decide (a1.kind=7)) else some (decide (a1.kind=8))).bind fun (o39:Bool)=>if o39 then (zdh.f a0 a3 4).bind fun r44=>if r44.2.isSome then some r44.2 else if decide (a1.kind=7) then (zdj.g zef a0 a1 0 a2 r44.1.l).bind fun r53=>some r53 else (zdj.g zef a0 a1 0 a2 r44.1.r).bind fun r57=>some r57 else if decide (a1.kind=9) then (zdk.g zeg a0 a1 a2 4).bind fun r62=>if r62.2.isSome then some r62.2 else (zdj.g zef a0 a1 1 ((a1.name,r62.1.l) :: a2) a3).bind fun r73=>if r73.isSome then some r73 else (zdj.g zef a0 a1 2 ((a1.other,r62.1.r) :: a2) a3).bind fun r81=>some r81 else if decide (a1.kind=10) then (zdk.g zeg a0 a1 a2 2).bind fun r86=>some r86.2 else if decide (a1.kind=12) then (zdi.g zeg a0 a1 0 a2).bind fun r94=>if r94.2.isSome then some r94.2 else (zdj.g zef a0 a1 1 ((a1.name,r94.1) :: a2) a3).bind fun r102=>some r102 else (zeg a0 a1 a2).bind fun r106=>if r106.2.isNone && (decide (r106.1 ≠ a3)) then some (some (130,([]:List Int))) else some r106.2
def types_tc.p:Nat→(PChecker→PTerm→(List (ByteArray × Int))→Option (Int × (Option (Int × List Int)))) × (PChecker→PTerm→(List (ByteArray × Int))→Int→Option (Option (Int × List Int)))
 | 0=>(fun _ _ _=>none,fun _ _ _ _=>none)
 | k + 1=>(zdl.g (types_tc.p k).1 (types_tc.p k).2,zdm.g (types_tc.p k).1 (types_tc.p k).2)
def zdl.f (k:Nat):PChecker→PTerm→(List (ByteArray × Int))→Option (Int × (Option (Int × List Int))):=(types_tc.p k).1
def zdm.f (k:Nat):PChecker→PTerm→(List (ByteArray × Int))→Int→Option (Option (Int × List Int)):=(types_tc.p k).2
def zdn.b0 (a1:List Hyp) (i7:Int) (x7_0:List Int) (x7_1:List (ByteArray × Int)):Option (List Int × (List (ByteArray × Int))) :=
 chk (decide ((x7_0.length + ([(at_ Hyp.z a1 i7).form]).length) * 8 ≤ 140737488355328)) ((zcn.f x7_1 ((at_ Hyp.z a1 i7).name) ((at_ Hyp.z a1 i7).form)).bind fun r25=>some (x7_0 ++ [(at_ Hyp.z a1 i7).form],r25))
def zdn.b1 (a0:Tb) (o7:List Int × (List (ByteArray × Int))) (i31:Int):Option (Stp Unit ((List (ByteArray × Int)) × Int)) :=
 (zcf.f a0 (at_ (0:Int) o7.1 i31)).bind fun r34=>if !r34.2 then some (.ret (([]:List (ByteArray × Int)),31)) else some (.go ())
def zdn.f (k:Nat) (a0:Tb) (a1:List Hyp) (a2:PTerm) (a3:List Int):Option ((List (ByteArray × Int)) × Int) :=
 (zch.f a0 (-1)).bind fun r3=>if decide (r3.2=1) then some (([]:List (ByteArray × Int)),r3.2) else (forS (fun i s=>zdn.b0 a1 i s.1 s.2) ((a1.length:Int) - 0).toNat 0 (a3,([]:List (ByteArray × Int)))).bind fun (o7:List Int × (List (ByteArray × Int)))=>(forN (fun i s=>zdn.b1 a0 o7 i) ((o7.1.length:Int) - 0).toNat 0 ()).bind (aft fun (s31:Unit)=>(zde.f k a2).bind fun r43=>some (o7.2,r43))
def zdo.f (k:Nat) (a0:Tb) (a1:List Hyp) (a2:PTerm) (a3:Int):Option (List Int × Int) :=
 (zdn.f k a0 a1 a2 ([a3])).bind fun r6=>if decide (r6.2 ≠ 0) then some (([]:List Int),r6.2) else (zdm.f k (⟨a0⟩ : PChecker) a2 r6.1 a3).bind fun r11=>(zdg.f r11).bind fun r15=>some (r15.1,r15.2)
def zdp.f (k:Nat) (a0:Tb) (a1:List Hyp) (a2:PTerm) (a3:Int):Option Int :=
 (zdo.f k a0 a1 a2 a3).bind fun r3=>some r3.2
def zdq.f (k:Nat) (a0:Tb) (a1:List Hyp) (a2:PTerm):Option (Int × Int) :=
 (zdn.f k a0 a1 a2 ([]:List Int)).bind fun r3=>if decide (r3.2 ≠ 0) then some (0,r3.2) else (zdl.f k (⟨a0⟩ : PChecker) a2 r3.1).bind fun r8=>(zdg.f r8.2).bind fun r12=>if decide (r12.2 ≠ 0) then some (0,r12.2) else some (r8.1,0)
end
section
open Gw
def zdr.f (a0:List Hyp) (a1:ByteArray) (a2:Int):Option (List Hyp) :=
 (zcv.f a0 ([(⟨a1,a2⟩ : Hyp)])).bind fun r4=>some r4
def zds.b0 (a1:List Ln) (o4:PMaker) (i15:Int) (x15_0:PMaker):Option (Stp PMaker (PMaker × Int)) :=
 if decide (x15_0.bad ≠ 0) then some (.brk x15_0) else if decide ((at_ Ln.z a1 i15).kind=11) then (zcO.f x15_0 ({ { at_ Ln.z a1 i15 with a:=IntKind.i64.wrap (((at_ Ln.z a1 i15).a) + (o4.l.length:Int)) } with b:=IntKind.i64.wrap (((at_ Ln.z a1 i15).b) + (o4.l.length:Int)) })).bind fun r28=>some (.go r28.1) else (zcO.f x15_0 (at_ Ln.z a1 i15)).bind fun r31=>some (.go r31.1)
def zds.f (a0:PMaker) (a1:List Ln) (a2:Int):Option (PMaker × Int) :=
 (if decide (a0.bad=0) then some ((⟨a0.t,a0.l,a2⟩ : PMaker)) else some (a0)).bind fun (o4:PMaker)=>(forN (fun i s=>zds.b0 a1 o4 i s) ((a1.length:Int) - 0).toNat 0 o4).bind (aft fun (s15:PMaker)=>some (s15,IntKind.i64.wrap ((s15.l.length:Int) - 1)))
def zdt.g (zdZ:Tb→List Hyp→PTerm→Int→Option (Tb × List Ln × Int)) (a0:PMaker) (a1:List Hyp) (a2:PTerm) (a3:Int):Option (PMaker × Int) :=
 if decide (a0.bad ≠ 0) then some (a0,0) else (zdZ a0.t a1 a2 a3).bind fun r10=>(zds.f (⟨r10.1,a0.l,a0.bad⟩ : PMaker) r10.2.1 r10.2.2).bind fun r19=>some (r19.1,r19.2)
def zdu.g (zdZ:Tb→List Hyp→PTerm→Int→Option (Tb × List Ln × Int)) (a0:PMaker) (a1:List Hyp) (a2:ByteArray) (a3:Int) (a4:PTerm) (a5:Int):Option (PMaker × Int) :=
 if decide (a0.bad ≠ 0) then some (a0,0) else (zdr.f a1 a2 a3).bind fun r10=>(zdZ a0.t r10 a4 a5).bind fun r14=>if decide (r14.2.2=0) then (zcT.f r14.1 r14.2.1 a3).bind fun r30=>(zds.f (⟨r30.1,a0.l,a0.bad⟩ : PMaker) r30.2.1 r30.2.2).bind fun r34=>some (r34.1,r34.2) else (zds.f (⟨r14.1,a0.l,a0.bad⟩ : PMaker) r14.2.1 r14.2.2).bind fun r37=>some (r37.1,r37.2)
def zdv.g (zdZ:Tb→List Hyp→PTerm→Int→Option (Tb × List Ln × Int)) (k:Nat) (a0:PMaker) (a1:List Hyp) (a2:PTerm):Option (PMaker × Int × Int) :=
 if decide (a0.bad ≠ 0) then some (a0,0,0) else (zdq.f k a0.t a1 a2).bind fun r10=>(zdt.g zdZ a0 a1 a2 r10.1).bind fun r12=>some (r12.1,r10.1,r12.2)
def zdw.f (a0:PMaker) (a1:Int):Option (PMaker × Nd) :=
 (zcf.f a0.t a1).bind fun r6=>some (a0,r6.1)
def zdx.g (zdZ:Tb→List Hyp→PTerm→Int→Option (Tb × List Ln × Int)) (k:Nat) (a0:PMaker) (a1:List Hyp) (a2:PTerm) (a3:Int) (a4:Int):Option PMaker :=
 chk (inb 0 a2.sub.length) ((zdv.g zdZ k a0 a1 (at_ PTerm.z a2.sub 0)).bind fun r6=>(zcN.f r6.1 r6.2.1 a3).bind fun r9=>(zcQ.f r9.1 a4 r9.2).bind fun r12=>(zcP.f r12.1 r12.2 r6.2.2).bind fun r15=>some r15.1)
def zdy.g (zdZ:Tb→List Hyp→PTerm→Int→Option (Tb × List Ln × Int)) (k:Nat) (a0:Tb) (a1:List Hyp) (a2:PTerm) (a3:Int):Option (Tb × List Ln × Int) :=
 (zdw.f (⟨a0,([]:List Ln),0⟩ : PMaker) a3).bind fun r5=>(if decide (a2.kind=1) then (zcQ.f r5.1 10 a3).bind fun r13=>some (r13.1) else if decide (a2.kind=11) then chk (inb 0 a2.sub.length) ((zdt.g zdZ r5.1 a1 (at_ PTerm.z a2.sub 0) a3).bind fun r20=>some (r20.1)) else if decide (a2.kind=2) then chk (inb 0 a2.sub.length) ((zdu.g zdZ r5.1 a1 a2.name r5.2.l (at_ PTerm.z a2.sub 0) r5.2.r).bind fun r28=>some (r28.1)) else if decide (a2.kind=3) then chk (inb 0 a2.sub.length) ((zdv.g zdZ k r5.1 a1 (at_ PTerm.z a2.sub 0)).bind fun r35=>chk (inb 1 a2.sub.length) ((zdw.f r35.1 r35.2.1).bind fun r40=>(zdt.g zdZ r40.1 a1 (at_ PTerm.z a2.sub 1) r40.2.l).bind fun r50=>(zcP.f r50.1 r35.2.2 r50.2).bind fun r53=>some (r53.1))) else if decide (a2.kind=4) then chk (inb 0 a2.sub.length) ((zdt.g zdZ r5.1 a1 (at_ PTerm.z a2.sub 0) r5.2.l).bind fun r61=>chk (inb 1 a2.sub.length) ((zdt.g zdZ r61.1 a1 (at_ PTerm.z a2.sub 1) r5.2.r).bind fun r68=>(zcN.f r68.1 r5.2.r a3).bind fun r71=>(zcN.f r71.1 r5.2.l r71.2).bind fun r74=>(zcQ.f r74.1 5 r74.2).bind fun r85=>(zcP.f r85.1 r85.2 r61.2).bind fun r88=>(zcP.f r88.1 r88.2 r68.2).bind fun r91=>some (r91.1))) else if decide (a2.kind=5) then (zdx.g zdZ k r5.1 a1 a2 a3 3).bind fun r95=>some (r95) else if decide (a2.kind=6) then (zdx.g zdZ k r5.1 a1 a2 a3 4).bind fun r99=>some (r99) else if decide (a2.kind=10) then (zdx.g zdZ k r5.1 a1 a2 a3 9).bind fun r103=>some (r103) else if decide (a2.kind=7) then chk (inb 0 a2.sub.length) ((zdt.g zdZ r5.1 a1 (at_ PTerm.z a2.sub 0) r5.2.l).bind fun r111=>(zcN.f r111.1 r5.2.l a3).bind fun r114=>(zcQ.f r114.1 6 r114.2).bind fun r117=>(zcP.f r117.1 r117.2 r111.2).bind fun r120=>some (r120.1)) else if decide (a2.kind=8) then chk (inb 0 a2.sub.length) ((zdt.g zdZ r5.1 a1 (at_ PTerm.z a2.sub 0) r5.2.r).bind fun r128=>(zcN.f r128.1 r5.2.r a3).bind fun r131=>(zcQ.f r131.1 7 r131.2).bind fun r134=>(zcP.f r134.1 r134.2 r128.2).bind fun r137=>some (r137.1)) else if decide (a2.kind=9) then chk (inb 0 a2.sub.length) ((zdv.g zdZ k r5.1 a1 (at_ PTerm.z a2.sub 0)).bind fun r144=>(zdw.f r144.1 r144.2.1).bind fun r147=>chk (inb 1 a2.sub.length) ((zdu.g zdZ r147.1 a1 a2.name r147.2.l (at_ PTerm.z a2.sub 1) a3).bind fun r157=>chk (inb 2 a2.sub.length) ((zdu.g zdZ r157.1 a1 a2.other r147.2.r (at_ PTerm.z a2.sub 2) a3).bind fun r164=>(zcN.f r164.1 r147.2.l a3).bind fun r167=>(zcN.f r167.1 r147.2.r a3).bind fun r175=>(zcN.f r175.1 r144.2.1 a3).bind fun r178=>(zcN.f r178.1 r175.2 r178.2).bind fun r181=>(zcN.f r181.1 r167.2 r181.2).bind fun r184=>(zcQ.f r184.1 8 r184.2).bind fun r187=>(zcP.f r187.1 r187.2 r157.2).bind fun r190=>(zcP.f r190.1 r190.2 r164.2).bind fun r193=>(zcP.f r193.1 r193.2 r144.2.2).bind fun r196=>some (r196.1)))) else if decide (a2.kind=12) then chk (inb 0 a2.sub.length) ((zdv.g zdZ k r5.1 a1 (at_ PTerm.z a2.sub 0)).bind fun r203=>chk (inb 1 a2.sub.length) ((zdu.g zdZ r203.1 a1 a2.name r203.2.1 (at_ PTerm.z a2.sub 1) a3).bind fun r208=>(zcP.f r208.1 r208.2 r203.2.2).bind fun r217=>some (r217.1))) else some (r5.1)).bind fun (o11:PMaker)=>some (o11.t,o11.l,o11.bad)
def zdy.f:Nat→Tb→List Hyp→PTerm→Int→Option (Tb × List Ln × Int)
 | 0=>fun _ _ _ _=>none
 | k + 1=>zdy.g (zdy.f k) k
def zdz.f (k:Nat) (a0:Tb) (a1:List Hyp) (a2:PTerm) (a3:Int):Option (Tb × List Ln × Int) :=
 (zdp.f k a0 a1 a2 a3).bind fun r3=>if decide (r3 ≠ 0) then some (a0,([]:List Ln),r3) else (zcg.f a0).bind fun r7=>(zcu.f a1).bind fun r10=>(zdy.f k a0 r10 a2 a3).bind fun r14=>(zcU.f r14.1 r7 r14.2.1 r14.2.2).bind fun r26=>some (r26.1,r26.2.1,r26.2.2)
end
end Go.Proofs.YtflieamjacclnaaGreatDoor
section
namespace Go.Proofs
open Go.Shelf Go.RowKit Go.Sort Go.Lib
def Tryz.laysM171_ren:Go.Shelf.Ren:=⟨fun | 171=>96 | 243=>118 | 246=>138 | 283=>152 | 284=>153 | 285=>154 | 286=>155 | 129=>164 | 317=>163 | 318=>165 | 319=>166 | 320=>167 | 337=>169 | 338=>170 | n=>n,fun | 3=>3 | 9=>9 | 2=>2 | 4=>4 | 171=>223 | 0=>0 | 53=>144 | 37=>145 | 5=>5 | 173=>226 | 212=>247 | 51=>248 | 20=>20 | 213=>249 | 46=>250 | 232=>254 | 233=>255 | n=>n,fun | 17=>1 | 18=>2 | 19=>3 | n=>n⟩
theorem Tryz.laysM171:Go.Proofs.LaysM.n171 Tryz.prog Tryz.laysM171_ren:={
 mixed:=by kernel_rfl
 f129:=Tryz.func164.trans (congrArg some (by kernel_rfl))
 f171:=Tryz.func96.trans (congrArg some (by kernel_rfl))
 f243:=Tryz.func118.trans (congrArg some (by kernel_rfl))
 f246:=Tryz.func138.trans (congrArg some (by kernel_rfl))
 f283:=Tryz.func152.trans (congrArg some (by kernel_rfl))
 f284:=Tryz.func153.trans (congrArg some (by kernel_rfl))
 f285:=Tryz.func154.trans (congrArg some (by kernel_rfl))
 f286:=Tryz.func155.trans (congrArg some (by kernel_rfl))
 f317:=Tryz.func163.trans (congrArg some (by kernel_rfl))
 f318:=Tryz.func165.trans (congrArg some (by kernel_rfl))
 f319:=Tryz.func166.trans (congrArg some (by kernel_rfl))
 f320:=Tryz.func167.trans (congrArg some (by kernel_rfl))
 f337:=Tryz.func169.trans (congrArg some (by kernel_rfl))
 f338:=Tryz.func170.trans (congrArg some (by kernel_rfl))
 t0:=Tryz.underlying0
 a0:=Tryz.isAgg0
 z0:=Tryz.sizeOf0
 v0:=Tryz.zeroValue0
 t2:=Tryz.underlying2
 a2:=Tryz.isAgg2
 z2:=Tryz.sizeOf2
 v2:=Tryz.zeroValue2
 t3:=Tryz.underlying3
 a3:=Tryz.isAgg3
 z3:=Tryz.sizeOf3
 v3:=Tryz.zeroValue3
 t4:=Tryz.underlying4
 a4:=Tryz.isAgg4
 z4:=Tryz.sizeOf4
 v4:=Tryz.zeroValue4
 t5:=Tryz.underlying5
 a5:=Tryz.isAgg5
 z5:=Tryz.sizeOf5
 v5:=Tryz.zeroValue5
 t9:=Tryz.underlying9
 a9:=Tryz.isAgg9
 z9:=Tryz.sizeOf9
 v9:=Tryz.zeroValue9
 t20:=Tryz.underlying20
 a20:=Tryz.isAgg20
 z20:=Tryz.sizeOf20
 v20:=Tryz.zeroValue20
 t37:=Tryz.underlying145
 a37:=Tryz.isAgg145
 z37:=Tryz.sizeOf145
 v37:=Tryz.zeroValue145
 t46:=Tryz.underlying250
 a46:=Tryz.isAgg250
 z46:=Tryz.sizeOf250
 v46:=Tryz.zeroValue250
 t51:=Tryz.underlying248
 a51:=Tryz.isAgg248
 z51:=Tryz.sizeOf248
 v51:=Tryz.zeroValue248
 t53:=Tryz.underlying144
 a53:=Tryz.isAgg144
 z53:=Tryz.sizeOf144
 v53:=Tryz.zeroValue144
 t171:=Tryz.underlying223
 a171:=Tryz.isAgg223
 z171:=Tryz.sizeOf223
 v171:=Tryz.zeroValue223
 t173:=Tryz.underlying226
 a173:=Tryz.isAgg226
 z173:=Tryz.sizeOf226
 v173:=Tryz.zeroValue226
 t212:=Tryz.underlying247
 a212:=Tryz.isAgg247
 z212:=Tryz.sizeOf247
 v212:=Tryz.zeroValue247
 t213:=Tryz.underlying249
 a213:=Tryz.isAgg249
 z213:=Tryz.sizeOf249
 t232:=Tryz.underlying254
 a232:=Tryz.isAgg254
 z232:=Tryz.sizeOf254
 v232:=Tryz.zeroValue254
 t233:=Tryz.underlying255
 a233:=Tryz.isAgg255
 z233:=Tryz.sizeOf255
 v233:=Tryz.zeroValue255
 g17:=by kernel_rfl
 g18:=by kernel_rfl
 g19:=by kernel_rfl
 i0:=by kernel_rfl
 i2:=by kernel_rfl
 i3:=by kernel_rfl
 i4:=by kernel_rfl
 i5:=by kernel_rfl
 i9:=by kernel_rfl
 i20:=by kernel_rfl
 i37:=by kernel_rfl
 i46:=by kernel_rfl
 i51:=by kernel_rfl
 i53:=by kernel_rfl
 i171:=by kernel_rfl
 i173:=by kernel_rfl
 i212:=by kernel_rfl
 i232:=by kernel_rfl
 i233:=by kernel_rfl
 m17:=by kernel_rfl
 m18:=by kernel_rfl
 m19:=by kernel_rfl }
theorem Tryz.strconv_Itoa (n:Int) (h0 : -9223372036854775808 ≤ n) (h1:n ≤ 9223372036854775807) (w:World) (htab:Lib.TabIs Tryz.prog w "internal/strconv.uint64pow10" .u64 Lib.pow10Tab) :
  Calls Tryz.prog 96 #[.int .i64 n] w fun e w'=>e = .returned (.string ⟨(Lib.itoa n).toArray⟩) ∧ ∃ k os,w'=grow (w.drewN k) os:=Any.strconv_Itoa Tryz.laysM171 n h0 h1 w htab
end Go.Proofs
end
namespace Go.Proofs.YtflieamjacclnaaGreatDoor
section
open Gw Go.RowKit
theorem zal {P:Program} {f:Fr} {w:World} {d:Option Tmp} {ty:TypeId} {pos:String} {af:Array Edge} {gd:Option (Nat × Bool)} {t u:TypeId} {x y:Operand} {a b:ByteArray} (hx:evF f x = .string a) (hy:evF f y = .string b) (hl:a.size + b.size ≤ 1000000):Does P ⟨d,.binOp .add t x y u,ty,pos,af,gd⟩ f w (.string (a ++ b)) w:=by
 have h:(binOp .add t (.string a) (.string b)).run P w = .ok (.string (a ++ b)) w:=by
  simp only [binOp]
  exact run_string_add (w:=w) a b zcb zcb
 simp only [Does,execOp,hx,hy,Sem.run_bind,jV,Result.andThen_ok,h,Sem.run_pure]
abbrev F_strconv_Itoa:FuncId:=96
theorem ca_strconv_Itoa:zJ PP F_strconv_Itoa:=⟨_,Tryz.func96,rfl,rfl⟩
def decK:Nat→Nat→List UInt8
 | 0,_=>[]
 | k + 1,u=>if u < 10 then [UInt8.ofNat (48 + u)] else decK k (u / 10) ++ [UInt8.ofNat (48 + u % 10)]
theorem decK_eq : ∀ (k u:Nat),u < 10 ^ (k + 1)→decK (k + 1) u=Lib.decDigits u
 | 0,u,h=>by
  have h1:u < 10:=by simpa using h
  rw [Lib.decDigits_one h1]; simp [decK,h1]
 | k + 1,u,h=>by
  rw [Lib.decDigits,decK]
  by_cases h1:u < 10
  ·rw [if_pos h1,dif_pos h1]
  ·rw [if_neg h1,dif_neg h1,decK_eq k (u / 10) (by rw [Nat.pow_succ] at h; omega)]
def decN (n:Int):ByteArray:=⟨(if n < 0 then 45 :: decK 20 n.natAbs else decK 20 n.toNat).toArray⟩
theorem decN_eq {n:Int} (h0 : -9223372036854775808 ≤ n) (h1:n ≤ 9223372036854775807):decN n=⟨(Lib.itoa n).toArray⟩ := by
 unfold decN Lib.itoa
 rw [decK_eq 19 _ zcb,decK_eq 19 _ zcb]
def Pw (w:World):Prop:=Lib.TabIs PP w "internal/strconv.uint64pow10" .u64 Lib.pow10Tab
theorem gPw:PP.globalNamed "internal/strconv.uint64pow10" = some 1:=by kernel_rfl
theorem Pw.lt {w:World} (h:Pw w):1 < w.heap.size:=by
 unfold Pw Lib.TabIs World.var? at h
 rw [gPw] at h
 rcases Nat.lt_or_ge 1 w.heap.size with q | q
 ·exact q
 ·rw [Option.bind_some,Array.getElem?_eq_none q] at h; simp at h
theorem Pw.chg {S:Nat→Prop} {w w':World} (h:Pw w) (hc:Chg S w w') (hs:¬ S 1):Pw w':=by
 have hl:=h.lt
 unfold Pw Lib.TabIs World.var? at *
 rw [gPw] at h ⊢
 rw [Option.bind_some] at h ⊢
 rw [hc.block _ hl hs]; exact h
def oPw:OA where
 holds:=fun w F=>Pw w ∧ ∀ i,F i↔i=1
 loc:=fun h hc hs=>⟨h.1.chg hc (hs _ ((h.2 _).2 rfl)),h.2⟩
 lt:=fun {w F} h i hi=>by rw [(h.2 i).1 hi]; exact h.1.lt
theorem Gw.St.pw {A:Nat→Prop} {N:Oth} {w0 w:World} {L Z:List OA} (h:St A N w0 w L Z) (k:Nat) (e:Z[k]? = some oPw:=by rfl):Pw w:=(h.frz k e).elim fun _ q=>q.1
theorem grow_ext (w:World) (k:Nat) (os:Array Obj):Ext w (Go.Sort.grow (w.drewN k) os) :=
 ⟨rfl,rfl,rfl,by show w.heap.size ≤ (w.heap ++ os).size; simp,fun i hi _=>Array.getElem?_append_left hi,fun a ha=>by
  unfold World.frozen?
  rw [show (Go.Sort.grow (w.drewN k) os).heap[a.block]? = w.heap[a.block]? from Array.getElem?_append_left ha]⟩
def strconv_Itoa.f (n:Int):Option ByteArray:=chk (decide (-9223372036854775808 ≤ n) && decide (n ≤ 9223372036854775807)) (some (decN n))
theorem strconv_Itoa_st {A:Nat→Prop} {N:Oth} {w:World} {n:Int} (S:St A N w w [] [oPw]) {r:ByteArray} (H:strconv_Itoa.f n=some r):Calls PP F_strconv_Itoa #[.int .i64 n] w fun e w' => ∃ v,e = .returned v∧(v = .string r∧St A N w w' [] []):=by
 obtain ⟨hc,H⟩ := xo H
 obtain rfl:=zce H
 simp only [Bool.and_eq_true,decide_eq_true_eq] at hc
 refine (Go.Proofs.Tryz.strconv_Itoa n hc.1 hc.2 w (S.pw 0)).mono fun e w' q=>?_
 obtain ⟨rfl,k,os,rfl⟩ := q
 exact ⟨_,rfl,by rw [decN_eq hc.1 hc.2],(S.ext (grow_ext w k os)).zs []⟩
end
section
open Go.RowKit
namespace Gw
def bodyQ2 {σ ρ γ γ':Type} (A:Nat→Prop) (w0:World) (L:σ→γ→List OA) (Lr:ρ→γ'→List OA) (Zf:σ→γ→List OA) (Zr:ρ→γ'→List OA) (br:Bool) (bid:Nat) (N':Oth) (q:Stp σ ρ):Post:=fun _ e _ w=>match e with
 | .normal => ∃ s',q = .go s' ∧ ∃ c,St A N' w0 w (L s' c) (Zf s' c)
 | .ret => ∃ r,q = .ret r ∧ ∃ c,St A N' w0 w (Lr r c) (Zr r c)
 | .exit id=>br=true∧id=bid ∧ ∃ s',q = .brk s' ∧ ∃ c,St A N' w0 w (L s' c) (Zf s' c)
 | _=>False
section
variable {P:Program} {n:Nat} {dm:List Nat} {Q:Post} {f:Fr} {w:World}
theorem wc_rangeSt2 {g:Operand} {p p2:Tmp} {assign body:Code} {k:FuncId} {fi ca:Array Value} {Inv:World→Prop} {α σ ρ γ γ':Type} {enc enc2:α→Value} {xs:List α} {bd:α→σ→Option (Stp σ ρ)} {o:σ ⊕ ρ} {s0:σ} {A:Nat→Prop} {N:Oth} {w0:World} {L:σ→γ→List OA} {Lr:ρ→γ'→List OA} {Zf:σ→γ→List OA} {Zr:ρ→γ'→List OA} (c0:γ) (br:Bool) (bid:Nat)
  (hg:evF f g = .func (.func k) fi ca) (hk:zJ P k) (hs:Gives P k (fun y=>fi.toList ++ [y] ++ ca.toList) Inv (xs.map fun x=>[enc x,enc2 x])) (hp:p < n) (hp2:p2 < n)
  (hInv : ∀ N' s c W,St A N' w0 W (L s c) (Zf s c)→Inv W) (S:St A N w0 w (L s0 c0) (Zf s0 c0)) (e:forE bd xs s0=some o)
  (hr : ∀ x s c q N' rd u,bd x s=some q→St A N' w0 u (L s c) (Zf s c)→wc P rd n [] assign (thenP (fun dm' f1 w1=>dm'=[] ∧ ∃ La Za,St A N' w0 w1 La Za ∧ ∀ N' w2,St A N' w0 w2 La Za→wc P rd n [] body (bodyQ2 A w0 L Lr Zf Zr br bid N' q) f1 w2) (fun _ _ _ _=>False)) (upd (upd f p (enc x)) p2 (enc2 x)) u)
  (hdone : ∀ s c B W,o = .inl s→St A (N.done B) w0 W (L s c) (Zf s c)→(w0.heap.size ≤ B∧¬ N B∧¬ N (B + 1))→Q (B :: dm) .normal f W)
  (hret : ∀ r c B W,o = .inr r→St A (N.done B) w0 W (Lr r c) (Zr r c)→(w0.heap.size ≤ B∧¬ N B∧¬ N (B + 1))→Q (B :: dm) .ret f W)
  (hbrk:br=true → ∀ s c B W,o = .inl s→St A (N.done B) w0 W (L s c) (Zf s c)→(w0.heap.size ≤ B∧¬ N B∧¬ N (B + 1))→Q (B :: dm) (.exit bid) f W) :
  wc P none n dm (.rangeFunc g #[p,p2] assign body) Q f w:=by
 have hB0 : ∀ B,w.heap.size=B→w0.heap.size ≤ B∧¬ N B∧¬ N (B + 1):=fun B hB=>⟨hB ▸ S.size,fun q=>absurd (S.othlt _ q) zcb,fun q=>absurd (S.othlt _ q) zcb⟩
 generalize hB:w.heap.size=B at *
 have hBB:=hB0 B rfl
 -- what holds between rounds
 let NB:Oth:=N.or (fun i=>i=B∨i=B + 1)
 have drop2 : ∀ {o1 o2:Obj} {W:World} {LL Z:List OA},St A (N.loop B o1 o2) w0 W LL Z→St A NB w0 W LL Z:=fun h=>h.less (fun i hi=>hi) (fun d hd=>h.wats d (List.mem_cons_of_mem _ (List.mem_cons_of_mem _ hd)))
 have watch : ∀ {W W':World} {LL Z:List OA} {o1 o2:Obj},St A NB w0 W LL Z→Chg (· = B + 1) W W'→Ob W' B o1→Ob W' (B + 1) o2→St A (N.loop B o1 o2) w0 W' LL Z:=by
  intro W W' LL Z o1 o2 h hc h1 h2
  refine h.others hc (fun i hi=>⟨by rw [hi]; exact .inr (.inr rfl),by rw [hi]; omega⟩) (fun i hi=>hi) fun d hd=>?_
  rcases List.mem_cons.1 hd with rfl | hd
  ·exact h1
  rcases List.mem_cons.1 hd with rfl | hd
  ·exact h2
  ·exact (h.wats d hd).chg hc (fun (q:d.1=B + 1)=>hBB.2.2 (q ▸ N.ok d hd))
 have turn : ∀ {W W':World} {LL Z:List OA},St A NB w0 W LL Z→Chg (· = B + 1) W W'→St A NB w0 W' LL Z:=by
  intro W W' LL Z h hc
  refine h.others hc (fun i hi=>⟨by rw [hi]; exact .inr (.inr rfl),by rw [hi]; omega⟩) (fun i hi=>hi) fun d hd=>?_
  exact (h.wats d hd).chg hc (fun (q:d.1=B + 1)=>hBB.2.2 (q ▸ N.ok d hd))
 have over : ∀ {W:World} {LL Z:List OA},St A NB w0 W LL Z→Ob W B (.deferred (some []))→St A (N.done B) w0 W LL Z:=by
  intro W LL Z h h1
  refine h.less (fun i hi=>hi) fun d hd=>?_
  rcases List.mem_cons.1 hd with rfl | hd
  ·exact h1
  ·exact h.wats d hd
 refine wc_range (ps:=[p,p2]) B hB hg hk hs (by intro q hq; simp only [List.mem_cons,List.not_mem_nil,or_false] at hq; rcases hq with rfl | rfl <;> assumption) zcc
  (fun i W => ∃ s,forE bd (xs.drop i) s=some o ∧ ∃ c,St A NB w0 W (L s c) (Zf s c))
  (fun c W=>match c with | .ret => ∃ r,o = .inr r ∧ ∃ c,St A NB w0 W (Lr r c) (Zr r c) | .exit id=>br=true∧id=bid ∧ ∃ s,o = .inl s ∧ ∃ c,St A NB w0 W (L s c) (Zf s c) | _=>False)
  (fun i W ⟨s,_,c,h⟩ => hInv _ _ _ _ h) (fun i W W' ⟨s,h1,c,h2⟩ hc=>⟨s,h1,c,turn h2 hc⟩) ?_ ?_ ?_ ?_ ?_
 ·intro c W W' h hc
  cases c with
  | ret=>obtain ⟨r,h1,c,h2⟩ := h; exact ⟨r,h1,c,turn h2 hc⟩
  | exit id=>obtain ⟨hb,h0,s,h1,c,h2⟩ := h; exact ⟨hb,h0,s,h1,c,turn h2 hc⟩
  | _=>exact h
 ·intro w' hx hlt
  refine ⟨s0,by simpa using e,c0,?_⟩
  exact S.more hx (fun i hi=>by rcases hi with rfl | rfl <;> constructor <;> omega)
 ·rintro i x W o1 o2 hxi ⟨s,he,c,h⟩ h1 h2
  rw [List.getElem?_map] at hxi
  cases hq:xs[i]? with
  | none=>rw [hq] at hxi; cases hxi
  | some x0 =>
   rw [hq] at hxi
   obtain rfl:=zce hxi
   have hlt:i < xs.length:=(List.getElem?_eq_some_iff.1 hq).1
   have hdr:xs.drop i=x0 :: xs.drop (i + 1):=by rw [List.drop_eq_getElem_cons hlt]; congr 1; exact (List.getElem?_eq_some_iff.1 hq).2
   rw [hdr] at he
   obtain ⟨q,hbd,hn⟩ := forE_s he
   refine wc_mono (hr x0 s c q _ _ W hbd (watch h (Chg.refl _ _) h1 h2)) ?_
   rintro dm' ex f1 w1 hp1
   cases ex with
   | normal =>
    obtain ⟨rfl,La,Za,h3,h4⟩ := hp1
    refine ⟨rfl,h3.wats (B,o1) (by simp [Oth.loop]),h3.wats (B + 1,o2) (by simp [Oth.loop]),fun w2 o2' hc h5 h6=>?_⟩
    refine wc_mono (h4 _ w2 (watch (drop2 h3) hc h5 h6)) ?_
    rintro dm2 ex f2 w3 hp2
    cases ex with
    | normal =>
     obtain ⟨s',rfl,c',h7⟩ := hp2
     exact ⟨h7.wats (B,o1) (by simp [Oth.loop]),h7.wats (B + 1,o2') (by simp [Oth.loop]),s',hn,c',drop2 h7⟩
    | ret =>
     obtain ⟨r,rfl,c',h7⟩ := hp2
     exact ⟨h7.wats (B,o1) (by simp [Oth.loop]),h7.wats (B + 1,o2') (by simp [Oth.loop]),r,hn,c',drop2 h7⟩
    | exit id =>
     obtain ⟨hbr,h0,s',rfl,c',h7⟩ := hp2
     exact ⟨h7.wats (B,o1) (by simp [Oth.loop]),h7.wats (B + 1,o2') (by simp [Oth.loop]),hbr,h0,s',hn,c',drop2 h7⟩
    | _=>exact hp2.elim
   | _=>exact hp1.elim
 ·rintro W ⟨s,he,c,h⟩ h1
  rw [List.length_map,List.drop_length] at he
  exact hdone s c B W (forE_0 he) (over h h1) hBB
 ·intro c W h h1
  cases c with
  | ret=>obtain ⟨r,h2,c,h3⟩ := h; exact hret r c B W h2 (over h3 h1) hBB
  | exit id=>obtain ⟨hb,rfl,s,h2,c,h3⟩ := h; exact hbrk hb s c B W h2 (over h3 h1) hBB
  | _=>trivial
end
end Gw
end
section
open Gw Go.RowKit
def bwd {α:Type} (l:List α):List (Int × α):=(l.zipIdx.map fun q=>((q.2:Int),q.1)).reverse
theorem bwd_len {α:Type} (l:List α):(bwd l).length=l.length:=by simp [bwd]
theorem bwd_at {α:Type} {l:List α} {x:Nat} (h:x < l.length):(bwd l)[x]? = some (((l.length - 1 - x:Nat):Int),l[l.length - 1 - x]):=by
 unfold bwd
 rw [List.getElem?_reverse (by simpa using h)]
 simp [List.getElem?_zipIdx,show l.length - 1 - x < l.length by omega]
theorem kp (w:World) (s:SlV):Calls PP v8 #[s.v] w fun e w' => ∃ v,e = .returned v∧(∃ c,v = .func (.func yT) #[] #[.pointer (some ⟨c,0,none⟩)]∧Blk w' c T_L_string [s.v]∧w.heap.size ≤ c∧Ext w w'):=by
 refine zz (n:=4) kk rfl rfl zcc ?_
 have E:=Ext.refl w
 refine zd (za ?_)
 refine wl_box (v:=s.v) rfl (by rw [SlV.cells]) zca fun b1 w1 h1=>?_
 have l_b1:w.heap.size ≤ b1:=by have:=h1.at_; have:=E.size; omega
 have B1:=h1.blk
 replace E:=E.thenExt h1.ext
 refine zi (zE (v := .nilFunc) rfl) zca (zb (zd (za (zi (does_funcl) zca (zi (does_as_f rfl) zca (zb (zx ?_)))))))
 exact ⟨_,(zS (zf rfl)),b1,rfl,B1,l_b1,E⟩
theorem jn {l:List ByteArray} {s:SlV} (hlen:l.length ≤ 140737488355328) (c:Nat):Gives PP yT (fun y=>[y,.pointer (some ⟨c,0,none⟩)]) (fun W=>Blk W c T_L_string [s.v]∧Rd W 1 s (l.map SC)) ((bwd l).map fun q=>[Value.int .i64 q.1,.string q.2]):=by
 intro y J Jx W hInv hJ hJx hY h0
 have hat : ∀ i:Nat,((bwd l).map fun q=>[Value.int .i64 q.1,.string q.2])[i]? = ((bwd l)[i]?).map fun q=>[Value.int .i64 q.1,.string q.2]:=by simp
 have hln:((bwd l).map fun q=>[Value.int .i64 q.1,.string q.2]).length=l.length:=by rw [List.length_map,bwd_len]
 rw [hln]
 refine zz (n:=19) jT rfl rfl zcc (zd (za (zi (zl on_L_string rfl ((hInv _ _ h0).1.cell rfl)) zca ?_)))
 refine zi (xg yJ rfl (hInv _ _ h0).2) zca (zi (zaK rfl rfl (c:=(l.length:Int) - 1) rfl zcb zcb) zca (zi (zh rfl) zca (zb ?_)))
 refine zP ?_
 refine xY (α:=Nat) [3,7,8,9,10,11,12,13,14,15,16,17,18] (fun x fr W=>fr 3 = .int .i64 ((l.length:Int) - 1 - x)∧J x W∧x ≤ l.length) (fun x=>l.length - x) 0 ⟨by simp [upd_same],h0,by omega⟩ ?_
 rintro x g u ⟨s3,hj,hx⟩
 refine zd (zd (za (zi (zg s3) zca (zi (uc rfl rfl) zca (zb ?_)))))
 refine zG rfl (fun hc=>?_) (fun hc=>?_)
 rotate_left
 ·refine yn ?_
  have h2:=of_decide_eq_false hc
  have e:x=l.length:=by omega
  rw [e] at hj
  exact ⟨_,rets0,.inl hj⟩
 have h2:=of_decide_eq_true hc
 have hxl:x < l.length:=by omega
 have hR:=(hInv _ _ hj).2
 rw [show (l.length:Int) - 1 - x=((l.length - 1 - x:Nat):Int) by omega] at s3
 have hl:l[(((l.length - 1 - x:Nat):Int)).toNat]? = some l[l.length - 1 - x]:=List.getElem?_eq_getElem zcb
 refine zB (zd ?_)
 refine zP (zd (za (zi (zaJ rfl) zca (zi (zg s3) zca (zi (zl on_L_string rfl ((hInv _ _ hj).1.cell rfl)) zca (zi (zg s3) zca ?_))))))
 refine zi (xa yJ rfl rfl hR zcb zcb) zca ?_
 refine zi (zl xq rfl (hR.one hl rfl)) zca ?_
 refine wl_yield rfl rfl zca (hY x _ u hj (by rw [hat,bwd_at hxl]; rfl)) ?_ 
 intro yb u2 hyb
 refine zi (xk rfl) zca (zb ?_)
 refine zG rfl (fun hc2=>?_) (fun hc2=>?_)
 ·refine zx ?_
  rcases hyb with ⟨rfl,_⟩ | ⟨rfl,hjx⟩
  ·cases hc2
  ·exact ⟨_,rets0,.inr hjx⟩
 rcases hyb with ⟨rfl,hj2⟩ | ⟨rfl,_⟩
 rotate_left
 ·cases hc2
 refine zB (za (zi (zg s3) zca (zi (zaK rfl rfl (c:=(l.length:Int) - 1 - (x + 1:Nat)) zcb zcb zcb) zca (zi (zh rfl) zca (zb ?_)))))
 exact ⟨rfl,((((((((((((((Dif.self _ _ _).upd rfl _).upd rfl _).upd rfl _).upd rfl _).upd rfl _).upd rfl _).upd rfl _).upd rfl _).upd rfl _).upd rfl _).upd rfl _).upd rfl _).upd rfl _),x + 1,⟨by simp [upd_same],hj2,by omega⟩,by omega⟩
theorem jw (w:World) (s:SlV):Calls PP vE #[s.v] w fun e w' => ∃ v,e = .returned v∧(∃ c,v = .func (.func yC) #[] #[.pointer (some ⟨c,0,none⟩)]∧Blk w' c ur [s.v]∧w.heap.size ≤ c∧Ext w w'):=by
 refine zz (n:=4) ju rfl rfl zcc ?_
 have E:=Ext.refl w
 refine zd (za ?_)
 refine wl_box (v:=s.v) rfl (by rw [SlV.cells]) zca fun b1 w1 h1=>?_
 have l_b1:w.heap.size ≤ b1:=by have:=h1.at_; have:=E.size; omega
 have B1:=h1.blk
 replace E:=E.thenExt h1.ext
 refine zi (zE (v := .nilFunc) rfl) zca (zb (zd (za (zi (does_funcl) zca (zi (does_as_f rfl) zca (zb (zx ?_)))))))
 exact ⟨_,(zS (zf rfl)),b1,rfl,B1,l_b1,E⟩
theorem uC {l:List Ln} {s:SlV} (hlen:l.length ≤ 140737488355328) (c:Nat):Gives PP yC (fun y=>[y,.pointer (some ⟨c,0,none⟩)]) (fun W=>Blk W c ur [s.v]∧Rd W 4 s (l.map Ln.C)) ((bwd l).map fun q=>[Value.int .i64 q.1,.agg (Ln.C q.2).toArray]):=by
 intro y J Jx W hInv hJ hJx hY h0
 have hat : ∀ i:Nat,((bwd l).map fun q=>[Value.int .i64 q.1,.agg (Ln.C q.2).toArray])[i]? = ((bwd l)[i]?).map fun q=>[Value.int .i64 q.1,.agg (Ln.C q.2).toArray]:=by simp
 have hln:((bwd l).map fun q=>[Value.int .i64 q.1,.agg (Ln.C q.2).toArray]).length=l.length:=by rw [List.length_map,bwd_len]
 rw [hln]
 refine zz (n:=19) jc rfl rfl zcc (zd (za (zi (zl yB rfl ((hInv _ _ h0).1.cell rfl)) zca ?_)))
 refine zi (xg zW rfl (hInv _ _ h0).2) zca (zi (zaK rfl rfl (c:=(l.length:Int) - 1) rfl zcb zcb) zca (zi (zh rfl) zca (zb ?_)))
 refine zP ?_
 refine xY (α:=Nat) [3,7,8,9,10,11,12,13,14,15,16,17,18] (fun x fr W=>fr 3 = .int .i64 ((l.length:Int) - 1 - x)∧J x W∧x ≤ l.length) (fun x=>l.length - x) 0 ⟨by simp [upd_same],h0,by omega⟩ ?_
 rintro x g u ⟨s3,hj,hx⟩
 refine zd (zd (za (zi (zg s3) zca (zi (uc rfl rfl) zca (zb ?_)))))
 refine zG rfl (fun hc=>?_) (fun hc=>?_)
 rotate_left
 ·refine yn ?_
  have h2:=of_decide_eq_false hc
  have e:x=l.length:=by omega
  rw [e] at hj
  exact ⟨_,rets0,.inl hj⟩
 have h2:=of_decide_eq_true hc
 have hxl:x < l.length:=by omega
 have hR:=(hInv _ _ hj).2
 rw [show (l.length:Int) - 1 - x=((l.length - 1 - x:Nat):Int) by omega] at s3
 have hl:l[(((l.length - 1 - x:Nat):Int)).toNat]? = some l[l.length - 1 - x]:=List.getElem?_eq_getElem zcb
 refine zB (zd ?_)
 refine zP (zd (za (zi (zaJ rfl) zca (zi (zg s3) zca (zi (zl yB rfl ((hInv _ _ hj).1.cell rfl)) zca (zi (zg s3) zca ?_))))))
 refine zi (xa zW rfl rfl hR zcb zcb) zca ?_
 refine zi (zm zaA rfl (hR.at hl) (Ln.len _)) zca ?_
 refine wl_yield rfl rfl zca (hY x _ u hj (by rw [hat,bwd_at hxl]; rfl)) ?_ 
 intro yb u2 hyb
 refine zi (xk rfl) zca (zb ?_)
 refine zG rfl (fun hc2=>?_) (fun hc2=>?_)
 ·refine zx ?_
  rcases hyb with ⟨rfl,_⟩ | ⟨rfl,hjx⟩
  ·cases hc2
  ·exact ⟨_,rets0,.inr hjx⟩
 rcases hyb with ⟨rfl,hj2⟩ | ⟨rfl,_⟩
 rotate_left
 ·cases hc2
 refine zB (za (zi (zg s3) zca (zi (zaK rfl rfl (c:=(l.length:Int) - 1 - (x + 1:Nat)) zcb zcb zcb) zca (zi (zh rfl) zca (zb ?_)))))
 exact ⟨rfl,((((((((((((((Dif.self _ _ _).upd rfl _).upd rfl _).upd rfl _).upd rfl _).upd rfl _).upd rfl _).upd rfl _).upd rfl _).upd rfl _).upd rfl _).upd rfl _).upd rfl _).upd rfl _),x + 1,⟨by simp [upd_same],hj2,by omega⟩,by omega⟩
end
section
open Gw
def zdA.f (a0:Int):Option ByteArray :=
 (strconv_Itoa.f a0).bind fun r1=>some r1
def zdB.f (a0:Int):Option ByteArray :=
 (zdA.f a0).bind fun r1=>chk (decide ((⟨#[108]⟩ : ByteArray).size + r1.size ≤ 1000000)) (some ((⟨#[108]⟩ : ByteArray) ++ r1))
def zdC.f (a0:ByteArray):Option PTerm :=
 some (⟨1,a0,ByteArray.empty,0,[]⟩ : PTerm)
def zdD.f (a0:Int) (a1:List PTerm):Option PTerm :=
 some (⟨a0,ByteArray.empty,ByteArray.empty,0,a1⟩ : PTerm)
def zdE.b0  (i7:Int) (y7:ByteArray) (x7_0:PTerm):Option (Stp PTerm Empty) :=
 some (.go (⟨2,y7,ByteArray.empty,0,[x7_0]⟩ : PTerm))
def zdE.f (a0:PTerm) (a1:List ByteArray):Option PTerm :=
 (forE (fun (x:Int × ByteArray) (s:PTerm)=>zdE.b0 x.1 x.2 s) (bwd a1) a0).bind (fin (fun (s7:PTerm)=>some s7) (fun (z:Empty)=>z.elim))
def zdF.f (a0:Int):Option PTerm :=
 (zdC.f (⟨#[97]⟩ : ByteArray)).bind fun r3=>(zdC.f (⟨#[98]⟩ : ByteArray)).bind fun r7=>(zdC.f (⟨#[99]⟩ : ByteArray)).bind fun r11=>if decide (a0=1) then (zdE.f r3 ([(⟨#[97]⟩ : ByteArray),(⟨#[98]⟩ : ByteArray)])).bind fun r28=>some r28 else if decide (a0=2) then (zdD.f 3 ([r3,r11])).bind fun r37=>(zdD.f 3 ([r7,r11])).bind fun r44=>(zdD.f 3 ([r37,r44])).bind fun r51=>(zdE.f r51 ([(⟨#[97]⟩ : ByteArray),(⟨#[98]⟩ : ByteArray),(⟨#[99]⟩ : ByteArray)])).bind fun r86=>some r86 else if decide (a0=3) then (zdD.f 5 ([r3])).bind fun r95=>(zdE.f r95 ([(⟨#[97]⟩ : ByteArray)])).bind fun r102=>some r102 else if decide (a0=4) then (zdD.f 6 ([r3])).bind fun r111=>(zdE.f r111 ([(⟨#[97]⟩ : ByteArray)])).bind fun r118=>some r118 else if decide (a0=5) then (zdD.f 4 ([r3,r7])).bind fun r127=>(zdE.f r127 ([(⟨#[97]⟩ : ByteArray),(⟨#[98]⟩ : ByteArray)])).bind fun r134=>some r134 else if decide (a0=6) then (zdD.f 7 ([r3])).bind fun r143=>(zdE.f r143 ([(⟨#[97]⟩ : ByteArray)])).bind fun r150=>some r150 else if decide (a0=7) then (zdD.f 8 ([r3])).bind fun r159=>(zdE.f r159 ([(⟨#[97]⟩ : ByteArray)])).bind fun r166=>some r166 else if decide (a0=8) then (zdC.f (⟨#[100]⟩ : ByteArray)).bind fun r172=>(zdD.f 3 ([r3,r172])).bind fun r179=>(zdC.f (⟨#[101]⟩ : ByteArray)).bind fun r183=>(zdD.f 3 ([r7,r183])).bind fun r190=>(zdD.f 9 ([r11,r179,r190])).bind fun r197=>(zdE.f (⟨r197.kind,(⟨#[100]⟩ : ByteArray),(⟨#[101]⟩ : ByteArray),r197.form,r197.sub⟩ : PTerm) ([(⟨#[97]⟩ : ByteArray),(⟨#[98]⟩ : ByteArray),(⟨#[99]⟩ : ByteArray)])).bind fun r244=>some r244 else (zdD.f 10 ([r3])).bind fun r252=>(zdE.f r252 ([(⟨#[97]⟩ : ByteArray)])).bind fun r259=>some r259
def zdG.b0  (i25:Int) (y25:Ln) (x25_0:PTerm):Option (Stp PTerm Empty) :=
 (if decide (y25.kind=10) then (zdA.f y25.form).bind fun r35=>chk (decide ((⟨#[104]⟩ : ByteArray).size + r35.size ≤ 1000000)) ((zdC.f ((⟨#[104]⟩ : ByteArray) ++ r35)).bind fun r39=>some (r39)) else if decide (y25.kind=11) then (zdB.f y25.a).bind fun r47=>(zdC.f r47).bind fun r50=>(zdB.f y25.b).bind fun r65=>(zdC.f r65).bind fun r68=>(zdD.f 3 ([r50,r68])).bind fun r75=>some (r75) else (zdF.f y25.kind).bind fun r80=>(zdD.f 11 ([r80])).bind fun r87=>some ((⟨r87.kind,r87.name,r87.other,y25.form,r87.sub⟩ : PTerm))).bind fun (o32:PTerm)=>(zdB.f i25).bind fun r96=>some (.go (⟨12,r96,ByteArray.empty,0,[o32,x25_0]⟩ : PTerm))
def zdG.f (k:Nat) (a0:Tb) (a1:List Int) (a2:List Ln):Option (Tb × PTerm × Int) :=
 (zcK.f k a0 a1 a2).bind fun r3=>if decide (r3.2 ≠ 0) then some (r3.1,(⟨0,ByteArray.empty,ByteArray.empty,0,[]⟩ : PTerm),r3.2) else if decide (1024 < (a2.length:Int)) then some (r3.1,(⟨0,ByteArray.empty,ByteArray.empty,0,[]⟩ : PTerm),150) else (zdB.f (IntKind.i64.wrap ((a2.length:Int) - 1))).bind fun r13=>(zdC.f r13).bind fun r16=>(forE (fun (x:Int × Ln) (s:PTerm)=>zdG.b0 x.1 x.2 s) (bwd a2) r16).bind (fin (fun (s25:PTerm)=>(zcq.f s25).bind fun r115=>(if (!(decide (65536 < r115))) then zcZ.f k s25 else some 0).bind fun r118=>if (decide (65536 < r115)) || (decide (1024 < r118)) then some (r3.1,(⟨0,ByteArray.empty,ByteArray.empty,0,[]⟩ : PTerm),150) else some (r3.1,s25,0)) (fun (z:Empty)=>z.elim))
end
section
open Gw
def zdH.f (a0:Tb) (a1:ByteArray):Option (Tb × Int × Int) :=
 (zcj.f a0 ({ Nd.z with kind:=1,name:=a1 })).bind fun r1=>some (r1.1,r1.2.1,r1.2.2)
def zdI.f (a0:Int):Option Int :=
 some a0
def zdJ.b0 (a0:PTerm) (a1:PTerm) (zec:PTerm→PTerm→Option Bool) (x6_0:Int):Option (Stp Int Bool) :=
 if decide (x6_0 < (a0.sub.length:Int)) then chk (inb x6_0 a0.sub.length) (chk (inb x6_0 a1.sub.length) ((zec (at_ PTerm.z a0.sub x6_0) (at_ PTerm.z a1.sub x6_0)).bind fun r15=>if !r15 then some (.ret false) else some (.go (IntKind.i64.wrap (x6_0 + 1))))) else some (.brk x6_0)
def zdJ.g (zec:PTerm→PTerm→Option Bool) (k:Nat) (a0:PTerm) (a1:PTerm):Option Bool :=
 if ((((decide (a0.kind ≠ a1.kind)) || (decide (a0.name ≠ a1.name))) || (decide (a0.other ≠ a1.other))) || (decide (a0.form ≠ a1.form))) || (decide ((a0.sub.length:Int) ≠ (a1.sub.length:Int))) then some false else (iter (fun s=>zdJ.b0 a0 a1 zec s) k 0).bind (aft fun (s6:Int)=>some true)
def zdJ.f:Nat→PTerm→PTerm→Option Bool
 | 0=>fun _ _=>none
 | k + 1=>zdJ.g (zdJ.f k) k
def zdK.b0 (a1:List Ln) (a0:List Ln) (i2:Int):Option (Stp Unit Bool) :=
 chk (inb i2 a1.length) (if !decide (at_ Ln.z a0 i2=at_ Ln.z a1 i2) then some (.ret false) else some (.go ()))
def zdK.f (a0:List Ln) (a1:List Ln):Option Bool :=
 if decide ((a0.length:Int) ≠ (a1.length:Int)) then some false else (forN (fun i s=>zdK.b0 a1 a0 i) ((a0.length:Int) - 0).toNat 0 ()).bind (aft fun (s2:Unit)=>some true)
def zdL.f (k:Nat)  : Option Bool :=
 (zcm.f).bind fun r1=>(zdH.f r1 (⟨#[112]⟩ : ByteArray)).bind fun r5=>(zci.f r5.1 r5.2.1 r5.2.1).bind fun r8=>(zcV.f k r8.1 ([r5.2.1]) ([{ Ln.z with kind:=10,form:=r5.2.1 }]) r5.2.1).bind fun r17=>(zdz.f k r17.1 ([]) (⟨2,(⟨#[120]⟩ : ByteArray),ByteArray.empty,0,[(⟨1,(⟨#[120]⟩ : ByteArray),ByteArray.empty,0,[]⟩ : PTerm)]⟩ : PTerm) r8.2.1).bind fun r24=>(zcL.f k r24.1 ([]) r17.2.1).bind fun r28=>(zdG.f k r28.1 ([r5.2.1]) ([{ Ln.z with kind:=10,form:=r5.2.1 }])).bind fun r37=>if decide ((r17.2.1.length:Int) ≠ 5) then some false else chk (inb 3 r17.2.1.length) ((zcI.f k r37.1 1 ((at_ Ln.z r17.2.1 3).form)).bind fun r46=>(zdI.f r17.2.2).bind fun r55=>(if (decide (r55=0)) then zdI.f r24.2.2 else some 0).bind fun r58=>(if ((decide (r55=0)) && (decide (r58=0))) then zdK.f r17.2.1 r24.2.1 else some false).bind fun r60=>(if (((decide (r55=0)) && (decide (r58=0))) && r60) then zdI.f r28.2.2 else some 0).bind fun r62=>(if (((((decide (r55=0)) && (decide (r58=0))) && r60) && (decide (r62=0))) && (decide (r28.2.1=r8.2.1))) then zdI.f r37.2.2 else some 0).bind fun r64=>(if ((((((decide (r55=0)) && (decide (r58=0))) && r60) && (decide (r62=0))) && (decide (r28.2.1=r8.2.1))) && (decide (r64=0))) then zdJ.f k r37.2.1 (⟨12,(⟨#[108,48]⟩ : ByteArray),ByteArray.empty,0,[(⟨1,(⟨#[104,48]⟩ : ByteArray),ByteArray.empty,0,[]⟩ : PTerm),(⟨1,(⟨#[108,48]⟩ : ByteArray),ByteArray.empty,0,[]⟩ : PTerm)]⟩ : PTerm) else some false).bind fun r66=>(if (((((((decide (r55=0)) && (decide (r58=0))) && r60) && (decide (r62=0))) && (decide (r28.2.1=r8.2.1))) && (decide (r64=0))) && r66) then zdI.f r46.2.2 else some 0).bind fun r68=>(if (((((((((decide (r55=0)) && (decide (r58=0))) && r60) && (decide (r62=0))) && (decide (r28.2.1=r8.2.1))) && (decide (r64=0))) && r66) && (decide (r68=0))) && r46.2.1) then zcK.f k r46.1 ([]) ([]) else some (r46.1,0)).bind fun r70=>(if (((((((((decide (r55=0)) && (decide (r58=0))) && r60) && (decide (r62=0))) && (decide (r28.2.1=r8.2.1))) && (decide (r64=0))) && r66) && (decide (r68=0))) && r46.2.1) then zdI.f r70.2 else some 0).bind fun r73=>some ((((((((((decide (r55=0)) && (decide (r58=0))) && r60) && (decide (r62=0))) && (decide (r28.2.1=r8.2.1))) && (decide (r64=0))) && r66) && (decide (r68=0))) && r46.2.1) && (decide (r73=160))))
end
section
open Gw
def zdM.f (a0:List Nd):Option (Tb × Tb) :=
 (zcB.f a0).bind fun r1=>if !r1.2.2 then (zcm.f).bind fun r7=>some (r7,(some [])) else some (r1.1,r1.2.1)
end
section
open Gw
section
variable {A:Nat→Prop} {N:Oth} {w0 w:World} {L Z:List OA}
theorem bigA_snoc {w:World} {μ α:Type} {R:μ→α→OA} {m:μ} {x:α} {ms:List μ} {l:List α} {F:Nat→Prop} (h:((bigA R ms l).and (R m x)).holds w F) : ∃ G,(bigA R (ms ++ [m]) (l ++ [x])).holds w G ∧ ∀ i,G i→F i:=by
 obtain ⟨G,H,g,hh,q⟩ := h
 exact ⟨_,bigA_push hh g,fun i hi=>(q i).2 hi⟩
theorem Gw.St.lenTm (h:St A N w0 w L Z) (k:Nat) {ms:List Term} {l:List PTerm} (e:Z[k]? = some (bigA xh ms l):=by rfl):ms.length=l.length:=(h.frz k e).elim fun _ h=>zbP h
theorem Gw.St.snocTm {ms:List Term} {l:List PTerm} (h:St A N w0 w L Z) (k1 k2:Nat) {x:PTerm} {s:SlV} (e1:Z[k1]? = some (bigA xh ms l):=by rfl) (e2:Z[k2]? = some (zn s x.sub):=by rfl):St A N w0 w L (bigA xh (ms ++ [mT x s]) (l ++ [x]) :: Z):=by
 have h1:=h.part k2 (a:=zn s x.sub) (b:=xh (mT x s) x) (fun F q=>⟨F,fTerm_mk q,fun _ q=>q⟩) e2
 have h2:=h1.andZ (k1 + 1) 0 (a:=bigA xh ms l) (b:=xh (mT x s) x) (by simpa using e1) rfl
 have h3:=h2.part 0 (a:=(bigA xh ms l).and (xh (mT x s) x)) (b:=bigA xh (ms ++ [mT x s]) (l ++ [x])) (fun F q=>bigA_snoc q)
 refine h3.pickZ fun z hz=>?_
 rcases List.mem_cons.1 hz with rfl | hz
 ·exact List.mem_cons_self ..
 ·exact List.mem_cons_of_mem _ (List.mem_cons_of_mem _ (List.mem_cons_of_mem _ hz))
end
end
section
open Gw
def zdN.b0  (x5_0:Int) (x5_1:ByteArray):Option (Stp (Int × ByteArray) ByteArray) :=
 if (decide (0 < x5_0)) || (decide (x5_1=(⟨#[]⟩ : ByteArray))) then chk (decide ((strOfNums ([IntKind.u8.wrap (IntKind.u64.wrap (48 + (Int.tmod x5_0 10)))])).size + x5_1.size ≤ 1000000)) (some (.go (IntKind.u64.wrap (Int.tdiv x5_0 10),(strOfNums ([IntKind.u8.wrap (IntKind.u64.wrap (48 + (Int.tmod x5_0 10)))])) ++ x5_1))) else some (.brk (x5_0,x5_1))
def zdN.f (k:Nat) (a0:Int):Option ByteArray :=
 (if decide (a0 < 0) then some ((IntKind.u64.wrap (0 - (IntKind.u64.wrap a0)),(⟨#[45]⟩ : ByteArray))) else some ((IntKind.u64.wrap a0,(⟨#[]⟩ : ByteArray)))).bind fun (o1:Int × ByteArray)=>(iter (fun s=>zdN.b0 s.1 s.2) k (o1.1,(⟨#[]⟩ : ByteArray))).bind (aft fun (s5:Int × ByteArray)=>chk (decide (o1.2.size + s5.2.size ≤ 1000000)) (some (o1.2 ++ s5.2)))
end
section
open Gw
def zdO.b0 (a0:PTerm) (zeb:PTerm→Option PTerm) (x9_0:Int) (x9_1:PTerm):Option (Stp (Int × PTerm) PTerm) :=
 if decide (x9_0 < (a0.sub.length:Int)) then chk (inb x9_0 a0.sub.length) ((zeb (at_ PTerm.z a0.sub x9_0)).bind fun r19=>chk (decide ((x9_1.sub.length + 1) * 72 ≤ 140737488355328)) (some (.go (IntKind.i64.wrap (x9_0 + 1),(⟨x9_1.kind,x9_1.name,x9_1.other,x9_1.form,x9_1.sub ++ [r19]⟩ : PTerm))))) else some (.brk (x9_0,x9_1))
def zdO.g (zeb:PTerm→Option PTerm) (k:Nat) (a0:PTerm):Option PTerm :=
 (iter (fun s=>zdO.b0 a0 zeb s.1 s.2) k (0,(⟨a0.kind,a0.name,a0.other,a0.form,([]:List PTerm)⟩ : PTerm))).bind (aft fun (s9:Int × PTerm)=>some s9.2)
def zdO.f:Nat→PTerm→Option PTerm
 | 0=>fun _=>none
 | k + 1=>zdO.g (zdO.f k) k
def zdP.b0 (k:Nat) (a1:List Int) (i19:Int) (x19_0:List Hyp):Option (List Hyp) :=
 (zdN.f k (at_ (0:Int) a1 i19)).bind fun r25=>chk (decide ((⟨#[104]⟩ : ByteArray).size + r25.size ≤ 1000000)) (chk (decide ((x19_0.length + ([(⟨(⟨#[104]⟩ : ByteArray) ++ r25,at_ (0:Int) a1 i19⟩ : Hyp)]).length) * 24 ≤ 140737488355328)) (some (x19_0 ++ [(⟨(⟨#[104]⟩ : ByteArray) ++ r25,at_ (0:Int) a1 i19⟩ : Hyp)])))
def zdP.f (k:Nat) (a0:Tb) (a1:List Int) (a2:List Ln) (a3:Int):Option (Tb × Bool) :=
 (zcL.f k a0 a1 a2).bind fun r1=>(zdI.f r1.2.2).bind fun r4=>if (decide (r4 ≠ 0)) || (decide (r1.2.1 ≠ a3)) then some (r1.1,false) else (zdG.f k r1.1 a1 a2).bind fun r8=>(zdI.f r8.2.2).bind fun r15=>if decide (r15=150) then some (r8.1,true) else (forS (fun i s=>zdP.b0 k a1 i s) ((a1.length:Int) - 0).toNat 0 ([]:List Hyp)).bind fun (o19:List Hyp)=>(zdI.f r8.2.2).bind fun r36=>(if (decide (r36=0)) then zdp.f k r8.1 o19 r8.2.1 a3 else some 0).bind fun r39=>(if (decide (r36=0)) then zdI.f r39 else some 0).bind fun r41=>some (r8.1,(decide (r36=0)) && (decide (r41=0)))
def zdQ.b0 (a1:List Hyp) (i22:Int) (x22_0:List Int):Option (List Int) :=
 chk (decide ((x22_0.length + ([(at_ Hyp.z a1 i22).form]).length) * 8 ≤ 140737488355328)) (some (x22_0 ++ [(at_ Hyp.z a1 i22).form]))
def zdQ.f (k:Nat) (a0:List Nd) (a1:List Hyp) (a2:PTerm) (a3:Int):Option Bool :=
 (zdM.f a0).bind fun r3=>(zdO.f k a2).bind fun r8=>(zdz.f k r3.1 a1 r8 a3).bind fun r12=>(zdI.f r12.2.2).bind fun r16=>if decide (r16 ≠ 0) then (if (decide ((r12.2.1.length:Int)=0)) then zdL.f k else some false).bind fun r20=>some ((decide ((r12.2.1.length:Int)=0)) && r20) else (forS (fun i s=>zdQ.b0 a1 i s) ((a1.length:Int) - 0).toNat 0 ([]:List Int)).bind fun (o22:List Int)=>(zdP.f k r12.1 o22 r12.2.1 a3).bind fun r36=>(if r36.2 then zdL.f k else some false).bind fun r39=>some (r36.2 && r39)
end
section
open Gw Go.RowKit
set_option maxHeartbeats 4000000
set_option maxRecDepth 20000
variable {A:Nat→Prop} {N:Oth} {w:World}
theorem formula_From_st {a0:List Nd} {s_0:SlV} (S:St A N w w [] [fS 4 Nd.C s_0 a0]) {r:Tb × Int} (H:zcw.f a0=some r) :
  Calls PP F_formula_From #[s_0.v] w fun e w' => ∃ v,e = .returned v∧(∃ ao0:Option Addr,v = .tuple #[.pointer ao0,.int .i64 r.2]∧St A N w w' [oT ao0 r.1] []):=by
 unfold zcw.f at H
 refine zz (n:=35) fn_formula_From rfl rfl zcc (zd (za ?_))
 replace S:=S.add (Ext.refl _) (oT.nil _) (fun _ x=>x.elim)
 refine wd (xc rfl) (wd (zh rfl) (zb (zd (za ?_))))
 obtain ⟨r1,er1,H⟩ := zr H
 obtain ⟨B3,MB3,SB3,back⟩ := S.calln 0 ((.nil))
 refine zu (zq kb) zca (km SB3 er1) ?_
 rintro _ w2 ⟨a4,rfl,S2⟩
 replace S:=back _ _ _ _ S2 rfl
 clear back S2 SB3
 refine wd (xc rfl) (zb (zd (zd (za (wd (zA rfl) (wd (xg xe rfl (S.rd 0)) (wd (zg rfl) (zb ?_))))))))
 obtain ⟨o5,e5,Ho5⟩ := zr H
 clear H
 refine x6 [2,3,5,6,7,8,12,13,14,15,16,17,18,19,20,21,22,23,24,25,26,27,28,29,30,31,32,33] (fun fr W => ∃ s5:Tb,o5 = .inl s5∧St A N w W [oT a4 s5,oT none none] [fS 4 Nd.C s_0 a0]) ?_ ?_
 ·refine zP ?_
  refine xY (α:=Nat × Int × Tb) [2,3,5,6,7,8,12,13,14,15,16,17,18,19,20,21,22,23,24,25,26,27,28,29,30,31,32,33] (fun x fr W=>(x.1:Int)=(a0.length:Int) - x.2.1∧0 ≤ x.2.1∧forN (fun i s=>zcw.b0 a0 i s) x.1 x.2.1 x.2.2=some o5∧fr 12 = .int .i64 x.2.1∧St A N w W [oT a4 (x.2.2),oT none none] [fS 4 Nd.C s_0 a0]) (fun x=>x.1) (((a0.length:Int) - 0).toNat,0,r1) ⟨(by dsimp only; have hle:=Int.natCast_nonneg (a0.length); omega),(Int.le_refl _),(by dsimp only; exact e5),rfl,S⟩ ?_
  rintro ⟨m5,i5,x5_0⟩ g5 u5 ⟨hm5,hl5,e5,q5_i,S⟩
  try dsimp only at hm5
  try dsimp only at hl5
  try dsimp only at e5
  try dsimp only at S
  try dsimp only at q5_i
  refine zd (za (wd (xQ q5_i rfl) (zb (zd ?_))))
  refine zG rfl (fun hc6=>?_) (fun hc6=>?_)
  rotate_left
  ·refine yn ?_
   have hge:(a0.length:Int) ≤ i5:=Int.not_lt.1 (of_decide_eq_false hc6)
   obtain rfl:m5=0:=by omega
   replace e5:=zaZ e5
   exact ⟨rfl,((Dif.self _ _ _).upd rfl _),x5_0,e5,S⟩
  refine zB ?_
  have hlt5:i5 < (a0.length:Int):=of_decide_eq_true hc6
  obtain ⟨m5,rfl⟩ : ∃ m,m5=m + 1:=⟨m5 - 1,by omega⟩
  obtain ⟨q5,H,e5⟩ := zba e5
  unfold zcw.b0 at H
  try dsimp only at H
  have hb5:=(S.len 0)
  refine zd ?_
  refine zP (zd (za (wd (zg q5_i) (wd (xa xe rfl q5_i (S.rd 0) (And.intro (show 0 ≤ i5 by omega) (show i5 < (a0.length:Int) from hlt5)).1 (And.intro (show 0 ≤ i5 by omega) (show i5 < (a0.length:Int) from hlt5)).2) (wd (zm x7 rfl ((S.rd 0).at (ym Nd.z (And.intro (show 0 ≤ i5 by omega) (show i5 < (a0.length:Int) from hlt5)))) (Nd.len _)) ?_)))))
  refine xd uD zca fun b9 w8 hw8=>?_
  replace S:=S.new hw8
  refine wd (zh rfl) ?_
  refine zI x7 rfl rfl (S.blk 0) (Nd.len _) (by rw [Nd.len]; decide) (Nd.one _) (zT (Nd.len _)) fun w10 B hw10 zw10=>?_
  replace S:=S.store 0 B hw10
  clear B
  refine zb (zd (za (wd (zk rfl) (wd (zm x7 rfl ((S.blk 0).all _ (Nd.len _)) (Nd.len _)) ?_))))
  obtain ⟨r11,er11,H⟩ := zr H
  replace S:=S.front 1
  obtain ⟨B13,MB13,SB13,back⟩ := S.calln 1 ((.nil))
  refine zu (zq vQ) zca (je SB13 er11) ?_
  rintro _ w12 ⟨rfl,S2⟩
  replace S:=back _ _ _ _ S2 rfl
  clear back S2 SB13
  refine wd (zV rfl) (wd (zt rfl rfl) (wd (zt rfl rfl) (wd (zh rfl) (wd (zh rfl) (zb (zd (zd (za ?_))))))))
  refine wd (zg rfl) (wd (zU rfl rfl) (wd (zL rfl) ?_))
  refine wg (fun hg=>zg rfl) ?_
  refine wg (fun hg=>zg rfl) ?_
  refine wg (fun hg=>xm (zw hg) (zw hg)) (wd (xt rfl (fun hp=>(zw (xE hp)))) (zb ?_))
  refine zG rfl (fun hc14=>?_) (fun hc14=>?_)
  ·replace H:=if_t hc14 H
   refine za (wd (zh rfl) (zb (zd (za (wd (zg rfl) (wd (xm rfl rfl) (zb ?_)))))))
   refine zG rfl (fun hc15=>?_) (fun hc15=>?_)
   ·replace H:=if_t hc15 H
    refine zd (za (wd (zg rfl) ?_))
    replace S:=S.add (Ext.refl _) (oT.nil _) (fun _ x=>x.elim)
    refine wd (xc rfl) (wd (zh rfl) (zb (zx ?_)))
    refine ⟨_,(xn (zf rfl) (zf rfl)),?_⟩
    replace S:=S.arr [0] []
    obtain rfl:=zce H
    obtain rfl:=e5
    obtain rfl:=jX Ho5
    exact ⟨none,rfl,S⟩
   replace H:=if_f hc15 H
   refine zB (za (wd (xK q5_i rfl (c:=i5 + 1) rfl zcb zcb) (wd (zg rfl) (zb ?_))))
   replace S:=S.arr [0,2] [0]
   obtain rfl:=zce H
   exact ⟨rfl,(by repeat first | exact Dif.refl _ _ | exact Dif.self _ _ _ | refine Dif.upd ?_ rfl _ | refine Dif.mask ?_ rfl _),(m5,i5 + 1,r11.1),⟨(by dsimp only; omega),(by dsimp only; omega),e5,rfl,S⟩,by dsimp only; omega⟩
  ·replace H:=if_f hc14 H
   refine zB (zd (za (wd (zg rfl) (wd (xm rfl rfl) (zb ?_)))))
   refine zG rfl (fun hc16=>?_) (fun hc16=>?_)
   ·replace H:=if_t hc16 H
    refine zd (za (wd (zg rfl) ?_))
    replace S:=S.add (Ext.refl _) (oT.nil _) (fun _ x=>x.elim)
    refine wd (xc rfl) (wd (zh rfl) (zb (zx ?_)))
    refine ⟨_,(xn (zf rfl) (zf rfl)),?_⟩
    replace S:=S.arr [0] []
    obtain rfl:=zce H
    obtain rfl:=e5
    obtain rfl:=jX Ho5
    exact ⟨none,rfl,S⟩
   replace H:=if_f hc16 H
   refine zB (za (wd (xK q5_i rfl (c:=i5 + 1) rfl zcb zcb) (wd (zg rfl) (zb ?_))))
   replace S:=S.arr [0,2] [0]
   obtain rfl:=zce H
   exact ⟨rfl,(by repeat first | exact Dif.refl _ _ | exact Dif.self _ _ _ | refine Dif.upd ?_ rfl _ | refine Dif.mask ?_ rfl _),(m5,i5 + 1,r11.1),⟨(by dsimp only; omega),(by dsimp only; omega),e5,rfl,S⟩,by dsimp only; omega⟩
 rintro g17 u18 ⟨s5,rfl,S⟩
 have H:=Ho5
 dsimp only [aft] at H
 refine zd (za (wd (zk rfl) (wd (xc rfl) (wd (zh rfl) (zb (zx ?_))))))
 refine ⟨_,(xn (zf rfl) (zf rfl)),?_⟩
 replace S:=S.arr [0] []
 obtain rfl:=zce H
 exact ⟨a4,rfl,S⟩
theorem ref03_T_Has_st {a0:Tb} {a_0:Option Addr} {a1:Int} (S:St A N w w [] [oR a_0 a0]) {r:Bool} (H:zcx.f a0 a1=some r) :
  Calls PP F_ref03_T_Has #[.pointer a_0,.int .i64 a1] w fun e w' => ∃ v,e = .returned v∧(v = .bool r∧St A N w w' [] []):=by
 unfold zcx.f at H
 refine zz (n:=16) fn_ref03_T_Has rfl rfl zcc (zd (za (wd (zo rfl) (zb (zd (za (wd (zg rfl) ?_)))))))
 refine wd (uc rfl rfl) (wd (zL rfl) ?_)
 refine wg (fun hg=>zg rfl) ?_
 refine wg (fun hg=>zk rfl) ?_
 obtain ⟨ht1,H⟩ := xo H
 obtain ⟨p2,s3,hp4,S⟩ := S.seeR 0 ht1
 replace S:=S
 refine wg (fun hg=>zC (((zw hg):_=Value.pointer a_0).trans (congrArg Value.pointer hp4))) ?_
 refine wg (fun hg=>ze kJ (zw hg) (o':=0) rfl) ?_
 refine wg (fun hg=>zl xy (zw hg) ((S.blkZ 0).cell (RTab.get_n _))) ?_
 refine wg (fun hg=>xg xe (zw hg) (S.rd 1)) ?_
 refine wg (fun hg=>xQ (zw hg) (zw hg)) (wd (xt rfl (fun hp=>(zw (xE hp)))) (wd (zo rfl) ?_))
 replace S:=S.zs [2]
 refine zb (zx ?_)
 refine ⟨_,(zS (zf rfl)),?_⟩
 replace S:=S.arr [] []
 obtain rfl:=zce H
 exact ⟨rfl,S⟩
theorem ref03_T_Find_st {a0:Tb} {a_0:Option Addr} {a1:Nd} (S:St A N w w [] [oR a_0 a0]) {r:Int × Bool} (H:zcy.f a0 a1=some r) :
  Calls PP F_ref03_T_Find #[.pointer a_0,.agg (Nd.C a1).toArray] w fun e w' => ∃ v,e = .returned v∧(v = .tuple #[.int .i64 r.1,.bool r.2]∧St A N w w' [] []):=by
 unfold zcy.f at H
 refine zz (n:=26) fn_ref03_T_Find rfl rfl zcc (zd (za ?_))
 refine zX rfl zca fun b2 w1 hw1=>?_
 replace S:=S.new hw1
 refine wd (zh rfl) (wd (zo rfl) (zb (zd (zd (za (wd (zh rfl) (zb ?_)))))))
 obtain ⟨ht3,H⟩ := xo H
 obtain ⟨o4,e4,Ho4⟩ := zr H
 clear H
 refine x6 [4,5,6,7,8,9,10,11,12,13,14,15,16,17,18,19,20,21,22,23,24,25] (fun fr W => ∃ s4:Unit,o4 = .inl s4∧St A N w W [oB b2 T_Nd (Nd.C a1)] [oR a_0 a0]) ?_ ?_
 ·refine zP ?_
  refine xY (α:=Nat × Int × Unit) [4,5,6,7,8,9,10,11,12,13,14,15,16,17,18,19,20,21,22,23,24,25] (fun x fr W=>(x.1:Int)=((a0.getD []).length:Int) - x.2.1∧0 ≤ x.2.1∧forN (fun i s=>zcy.b0 a0 a1 i) x.1 x.2.1 x.2.2=some o4∧fr 6 = .int .i64 x.2.1∧St A N w W [oB b2 T_Nd (Nd.C a1)] [oR a_0 a0]) (fun x=>x.1) ((((a0.getD []).length:Int) - 0).toNat,0,()) ⟨(by dsimp only; have hle:=Int.natCast_nonneg ((a0.getD []).length); omega),(Int.le_refl _),(by dsimp only; exact e4),rfl,S⟩ ?_
  rintro ⟨m4,i4,_⟩ g4 u4 ⟨hm4,hl4,e4,q4_i,S⟩
  try dsimp only at hm4
  try dsimp only at hl4
  try dsimp only at e4
  try dsimp only at S
  try dsimp only at q4_i
  refine zd (zd (za (wd (zg q4_i) (wd (zk rfl) ?_))))
  obtain ⟨p5,s6,hp7,S⟩ := S.seeR 0 ht3
  replace S:=S
  refine wd (zC (congrArg Value.pointer hp7)) (wd (ze kJ rfl (o':=0) rfl) (wd (zl xy rfl ((S.blkZ 0).cell (RTab.get_n _))) (wd (xg xe rfl (S.rd 1)) (wd (xQ rfl rfl) ?_))))
  replace S:=S.zs [2]
  refine zb ?_
  refine zG rfl (fun hc8=>?_) (fun hc8=>?_)
  rotate_left
  ·refine yn ?_
   have hge:((a0.getD []).length:Int) ≤ i4:=Int.not_lt.1 (of_decide_eq_false hc8)
   obtain rfl:m4=0:=by omega
   replace e4:=zaZ e4
   exact ⟨rfl,((((((((Dif.self _ _ _).upd rfl _).upd rfl _).upd rfl _).upd rfl _).upd rfl _).upd rfl _).upd rfl _),(),e4,S⟩
  refine zB ?_
  have hlt4:i4 < ((a0.getD []).length:Int):=of_decide_eq_true hc8
  obtain ⟨m4,rfl⟩ : ∃ m,m4=m + 1:=⟨m4 - 1,by omega⟩
  obtain ⟨q4,H,e4⟩ := zba e4
  unfold zcy.b0 at H
  try dsimp only at H
  have hb4:=(S.lenRZ 0)
  refine zd ?_
  refine zP (zd ?_)
  refine yz 8 (Ext u4) hmix zcd zcd (Ext.drawn _) (zy (fun v K=>zk rfl) ?_)
  obtain ⟨p9,s10,hp11,S⟩ := S.seeR 0 ht3
  replace S:=S
  refine zy (fun v K=>zC (congrArg Value.pointer hp11)) (zy (fun v K=>ze kJ rfl (o':=0) rfl) (zy (fun v K=>zl xy rfl (((S.ext K).blkZ 0).cell (RTab.get_n _))) (zy (fun v K=>zg q4_i) (zy (fun v K=>xa xe rfl rfl ((S.ext K).rd 1) (And.intro (show 0 ≤ i4 by omega) (show i4 < ((a0.getD []).length:Int) from hlt4)).1 (And.intro (show 0 ≤ i4 by omega) (show i4 < ((a0.getD []).length:Int) from hlt4)).2) (zy (fun v K=>zm x7 rfl (((S.ext K).rd 1).at (ym Nd.z (And.intro (show 0 ≤ i4 by omega) (show i4 < ((a0.getD []).length:Int) from hlt4)))) (Nd.len _)) ?_)))))
  refine zy (fun v K=>zm x7 rfl (((S.ext K).blk 0).all _ (Nd.len _)) (Nd.len _)) ?_
  refine vD fun w13 K=>?_
  replace S:=S.ext K
  clear K
  refine wd (does_eqv eg_Nd (eq_Nd _ _) zca rfl rfl) ?_
  replace S:=S.zs [2]
  refine zb ?_
  refine zG rfl (fun hc14=>?_) (fun hc14=>?_)
  ·replace H:=if_t hc14 H
   refine zd (za (wd (zg q4_i) (wd (zh rfl) (wd (zo rfl) (zb (zx ?_))))))
   refine ⟨_,(xn (zf rfl) (zf rfl)),?_⟩
   replace S:=S.arr [] []
   obtain rfl:=zce H
   obtain rfl:=e4
   obtain rfl:=jX Ho4
   exact ⟨rfl,S⟩
  replace H:=if_f hc14 H
  refine zB (za (wd (zg q4_i) (wd (xK rfl rfl (c:=i4 + 1) rfl zcb zcb) (wd (zh rfl) (zb ?_)))))
  obtain rfl:=zce H
  exact ⟨rfl,(by repeat first | exact Dif.refl _ _ | exact Dif.self _ _ _ | refine Dif.upd ?_ rfl _ | refine Dif.mask ?_ rfl _),(m4,i4 + 1,()),⟨(by dsimp only; omega),(by dsimp only; omega),e4,rfl,S⟩,by dsimp only; omega⟩
 rintro g15 u16 ⟨s4,rfl,S⟩
 have H:=Ho4
 dsimp only [aft] at H
 refine zd (za (wd (zh rfl) (wd (zo rfl) (zb (zx ?_)))))
 refine ⟨_,(xn (zf rfl) (zf rfl)),?_⟩
 replace S:=S.arr [] []
 obtain rfl:=zce H
 exact ⟨rfl,S⟩
theorem ref03_T_Put_st {a0:Tb} {a_0:Option Addr} {a1:Nd} (S:St A N w w [oR a_0 a0] []) {r:Tb × Int × Int} (H:zcz.f a0 a1=some r) :
  Calls PP F_ref03_T_Put #[.pointer a_0,.agg (Nd.C a1).toArray] w fun e w' => ∃ v,e = .returned v∧(v = .tuple #[.int .i64 r.2.1,.int .i64 r.2.2]∧St A N w w' [oR a_0 r.1] []):=by
 unfold zcz.f at H
 refine zz (n:=90) fn_ref03_T_Put rfl rfl zcc (zd (za ?_))
 refine zX rfl zca fun b2 w1 hw1=>?_
 replace S:=S.new hw1
 refine wd (zh rfl) (wd (zh rfl) (zb (zd (zd (za (wd (ze zaY rfl (o':=0) rfl) (wd (zl jh rfl ((S.blk 0).cell (Nd.get_kind _))) (zb ?_))))))))
 obtain ⟨o3,e3,Ho3⟩ := zr H
 replace H:=e3; clear e3
 refine x6 [4,5,10,11,12,13,14,15,16,17,18,19,20,21,22,23,24,25,26,27,28,29,30,31,32,33,34,35,36,37,38,39,40,41,42,43,44,45,46,47,48,49,50,51,52,53,54,55,56,57,58,59] (fun fr W => ∃ s3:Tb,o3 = .inl s3∧St A N w W [oB b2 T_Nd (Nd.C a1),oR a_0 s3] []) ?_ ?_
 ·refine zP (zd (za (wd (zU rfl rfl) (wd (zo rfl) (zb ?_)))))
  refine zG rfl (fun hc4=>?_) (fun hc4=>?_)
  ·replace H:=if_t hc4 H
   refine zd (zd (za (wd (ze yY rfl (o':=2) rfl) (wd (zl zR rfl ((S.blk 0).cell (Nd.get_l _))) (wd (xm rfl rfl) (wd (zL rfl) ?_))))))
   refine wg (fun hg=>ze yS rfl (o':=3) rfl) ?_
   refine wg (fun hg=>zl zR (zw hg) ((S.blk 0).cell (Nd.get_r _))) ?_
   refine wg (fun hg=>xm (zw hg) rfl) (wd (xO rfl (fun hp=>(zw (xE hp)))) (zb ?_))
   refine zG rfl (fun hc5=>?_) (fun hc5=>?_)
   ·replace H:=if_t hc5 H
    refine zd (za (wd (zh rfl) (wd (zh rfl) (zb (zx ?_)))))
    refine ⟨_,(xn (zf rfl) (zf rfl)),?_⟩
    replace S:=S.arr [1] []
    obtain rfl:=zce H
    obtain rfl:=jX Ho3
    exact ⟨rfl,S⟩
   replace H:=if_f hc5 H
   refine zB (zd (za (wd (ze jS rfl (o':=1) rfl) (wd (zl xq rfl ((S.blk 0).cell (Nd.get_name _))) ?_))))
   obtain ⟨r6,er6,H⟩ := zr H
   obtain ⟨B8,MB8,SB8,back⟩ := S.calln 0 ((.nil))
   refine zu (zq ca_ref03_Word) zca (ref03_Word_st SB8 er6) ?_
   rintro _ w7 ⟨rfl,S2⟩
   replace S:=back _ _ _ _ S2 rfl
   clear back S2 SB8
   refine wd (xk rfl) (zb ?_)
   refine zG rfl (fun hc9=>?_) (fun hc9=>?_)
   ·replace H:=if_t hc9 H
    refine zd (za (wd (zh rfl) (wd (zh rfl) (zb (zx ?_)))))
    refine ⟨_,(xn (zf rfl) (zf rfl)),?_⟩
    replace S:=S.arr [1] []
    obtain rfl:=zce H
    obtain rfl:=jX Ho3
    exact ⟨rfl,S⟩
   replace H:=if_f hc9 H
   refine zB ?_
   obtain rfl:=zce H
   exact ⟨rfl,(by repeat first | exact Dif.refl _ _ | exact Dif.self _ _ _ | refine Dif.upd ?_ rfl _ | refine Dif.mask ?_ rfl _),a0,rfl,S⟩
  ·replace H:=if_f hc4 H
   refine zd (za (wd (zU rfl rfl) (wd (zo rfl) (zb ?_))))
   refine zG rfl (fun hc10=>?_) (fun hc10=>?_)
   ·replace H:=if_t hc10 H
    refine zd (za (wd (ze jS rfl (o':=1) rfl) (wd (zl xq rfl ((S.blk 0).cell (Nd.get_name _))) (wd (zan rfl rfl) (wd (zL rfl) ?_)))))
    refine wg (fun hg=>ze yY rfl (o':=2) rfl) ?_
    refine wg (fun hg=>zl zR (zw hg) ((S.blk 0).cell (Nd.get_l _))) ?_
    refine wg (fun hg=>xm (zw hg) rfl) (wd (xO rfl (fun hp=>(zw (xE hp)))) (wd (zL rfl) ?_))
    refine wg (fun hg=>ze yS rfl (o':=3) rfl) ?_
    refine wg (fun hg=>zl zR (zw hg) ((S.blk 0).cell (Nd.get_r _))) ?_
    refine wg (fun hg=>xm (zw hg) rfl) (wd (xO rfl (fun hp=>(zw (xE hp)))) (zb ?_))
    refine zG rfl (fun hc11=>?_) (fun hc11=>?_)
    ·replace H:=if_t hc11 H
     refine zd (za (wd (zh rfl) (wd (zh rfl) (zb (zx ?_)))))
     refine ⟨_,(xn (zf rfl) (zf rfl)),?_⟩
     replace S:=S.arr [1] []
     obtain rfl:=zce H
     obtain rfl:=jX Ho3
     exact ⟨rfl,S⟩
    replace H:=if_f hc11 H
    refine zB ?_
    obtain rfl:=zce H
    exact ⟨rfl,(by repeat first | exact Dif.refl _ _ | exact Dif.self _ _ _ | refine Dif.upd ?_ rfl _ | refine Dif.mask ?_ rfl _),a0,rfl,S⟩
   ·replace H:=if_f hc10 H
    refine zd (zd (za (wd (zU rfl rfl) (wd (zo rfl) (zb ?_)))))
    obtain ⟨o12,e12,Ho12⟩ := zr H
    replace H:=e12; clear e12
    refine x6 [39,41,42] (fun fr W=>fr 39 = .bool o12∧St A N w W [oB b2 T_Nd (Nd.C a1),oR a_0 a0] []) ?_ ?_
    ·refine zG rfl (fun hc13=>?_) (fun hc13=>?_)
     ·replace H:=if_t hc13 H
      refine zB ?_
      obtain rfl:=zce H
      exact ⟨rfl,(Dif.refl _ _),rfl,S⟩
     ·replace H:=if_f hc13 H
      refine zd (za (wd (zU rfl rfl) (wd (zo rfl) (zb ?_))))
      refine zG rfl (fun hc14=>?_) (fun hc14=>?_)
      ·replace H:=if_t hc14 H
       refine zB ?_
       obtain rfl:=zce H
       exact ⟨rfl,(((Dif.refl _ _).upd rfl _).upd rfl _),rfl,S⟩
      ·replace H:=if_f hc14 H
       refine za (wd (zU rfl rfl) (wd (zo rfl) (zb ?_)))
       obtain rfl:=zce H
       exact ⟨rfl,(((((Dif.refl _ _).upd rfl _).upd rfl _).upd rfl _).upd rfl _),rfl,S⟩
    rintro g15 u16 ⟨p12_39,S⟩
    have H:=Ho12
    refine zG p12_39 (fun hc17=>?_) (fun hc17=>?_)
    rotate_left
    ·replace H:=if_f hc17 H
     refine zd (za (wd (zh rfl) (wd (zh rfl) (zb (zx ?_)))))
     refine ⟨_,(xn (zf rfl) (zf rfl)),?_⟩
     replace S:=S.arr [1] []
     obtain rfl:=zce H
     obtain rfl:=jX Ho3
     exact ⟨rfl,S⟩
    replace H:=if_t hc17 H
    refine zd (za (wd (ze jS rfl (o':=1) rfl) (wd (zl xq rfl ((S.blk 0).cell (Nd.get_name _))) (wd (zan rfl rfl) (wd (zL rfl) ?_)))))
    refine wg (fun hg=>zk rfl) ?_
    refine wg (fun hg=>ze yY rfl (o':=2) rfl) ?_
    refine wg (fun hg=>zl zR (zw hg) ((S.blk 0).cell (Nd.get_l _))) ?_
    obtain ⟨r18,er18,H⟩ := zr H
    refine yh (j:=3) (pol:=false) rfl rfl rfl zca (fun hg=>zK ca_ref03_T_Has (zM (zw hg) (zM (zw hg) rfl))) zca (fun hg=>(have ⟨M,SS⟩ := S.lend ((.o 1 rfl .nil)); quiet (ref03_T_Has_st SS (if_t (by simpa using hg) er18)) (fun v w' h=>⟨h.1,_,_,h.2⟩))) fun w19 hw19=>?_
    replace S:=S.ext hw19
    refine wg (fun hg=>xk (zw hg)) (wd (xO rfl (fun hp=>(zw (xE hp)))) (wd (zL rfl) ?_))
    refine wg (fun hg=>zk rfl) ?_
    refine wg (fun hg=>ze yS rfl (o':=3) rfl) ?_
    refine wg (fun hg=>zl zR (zw hg) ((S.blk 0).cell (Nd.get_r _))) ?_
    obtain ⟨r20,er20,H⟩ := zr H
    refine yh (j:=10) (pol:=false) rfl rfl rfl zca (fun hg=>zK ca_ref03_T_Has (zM (zw hg) (zM (zw hg) rfl))) zca (fun hg=>(have ⟨M,SS⟩ := S.lend ((.o 1 rfl .nil)); quiet (ref03_T_Has_st SS (if_t (by simpa using hg) er20)) (fun v w' h=>⟨h.1,_,_,h.2⟩))) fun w21 hw21=>?_
    replace S:=S.ext hw21
    refine wg (fun hg=>xk (zw hg)) (wd (xO rfl (fun hp=>(zw (xE hp)))) (zb ?_))
    refine zG rfl (fun hc22=>?_) (fun hc22=>?_)
    ·replace H:=if_t hc22 H
     refine zd (za (wd (zh rfl) (wd (zh rfl) (zb (zx ?_)))))
     refine ⟨_,(xn (zf rfl) (zf rfl)),?_⟩
     replace S:=S.arr [1] []
     obtain rfl:=zce H
     obtain rfl:=jX Ho3
     exact ⟨rfl,S⟩
    replace H:=if_f hc22 H
    refine zB ?_
    obtain rfl:=zce H
    exact ⟨rfl,(by repeat first | exact Dif.refl _ _ | exact Dif.self _ _ _ | refine Dif.upd ?_ rfl _ | refine Dif.mask ?_ rfl _),a0,rfl,S⟩
 rintro g23 u24 ⟨s3,rfl,S⟩
 have H:=Ho3
 dsimp only [aft] at H
 refine zd (za (wd (zk rfl) (wd (zm x7 rfl ((S.blk 0).all _ (Nd.len _)) (Nd.len _)) ?_)))
 obtain ⟨r25,er25,H⟩ := zr H
 obtain ⟨B27,MB27,SB27,back⟩ := S.calln 0 ((.o 1 rfl .nil))
 refine zu (zq ca_ref03_T_Find) zca (ref03_T_Find_st SB27 er25) ?_
 rintro _ w26 ⟨rfl,S2⟩
 replace S:=back _ _ _ _ S2 rfl
 clear back S2 SB27
 refine wd (zV rfl) (wd (zt rfl rfl) (wd (zt rfl rfl) (wd (zh rfl) (wd (zo rfl) (zb (zd (zd (za ?_))))))))
 refine wd (zL rfl) (zb ?_)
 refine zG rfl (fun hc28=>?_) (fun hc28=>?_)
 ·replace H:=if_t hc28 H
  refine zd (za (wd (zg rfl) (wd (zh rfl) (wd (zh rfl) (zb (zx ?_))))))
  refine ⟨_,(xn (zf rfl) (zf rfl)),?_⟩
  replace S:=S.arr [1] []
  obtain rfl:=zce H
  exact ⟨rfl,S⟩
 replace H:=if_f hc28 H
 refine zB (zd (zd (za (wd (zk rfl) ?_))))
 obtain ⟨ht29,H⟩ := xo H
 obtain ⟨p30,s31,hp32,S⟩ := S.openR 1 ht29
 replace S:=S
 refine wd (zC (congrArg Value.pointer hp32)) (wd (ze kJ rfl (o':=0) rfl) (wd (zl xy rfl ((S.blk 0).cell (RTab.get_n _))) (wd (xg xe rfl (S.rdO 1)) (wd (uc rfl rfl) ?_))))
 replace S:=((S.front 1).front 1).shutR hp32
 refine zb ?_
 refine zG rfl (fun hc33=>?_) (fun hc33=>?_)
 ·replace H:=if_t hc33 H
  refine zd (za (wd (zh rfl) (wd (zh rfl) (zb (zx ?_)))))
  refine ⟨_,(xn (zf rfl) (zf rfl)),?_⟩
  replace S:St A N w w26 [oR a_0 (some (s3.getD []))] []:=S.arr [0] []
  obtain rfl:=zce H
  exact ⟨rfl,S⟩
 replace H:=if_f hc33 H
 refine zB (zd ?_)
 obtain ⟨p34,s35,hp36,S⟩ := S.openR 0 rfl
 replace S:St A N w w26 [oB p34 T_RTab (RTab.C ⟨s35⟩),oS T_Nd 4 Nd.C s35 (s3.getD []),oB b2 T_Nd (Nd.C a1)] []:=S
 obtain ⟨ha37,H⟩ := xo H
 have ha37:=of_decide_eq_true ha37
 have hSO:=S.sl 1
 have hSlt:=hSO.lt
 have SH : ∀ v,Chg s35.fp w26 v→St A (N.or s35.fp) w v [oB p34 T_RTab (RTab.C ⟨s35⟩),oB b2 T_Nd (Nd.C a1)] []:=fun v hc=>S.away 1 (hc:=hc)
 refine wc_draw 8 ⟨fun L v=>Chg s35.fp w26 v∧(L 7=false→Ext w26 v),fun L a b=>Chg s35.fp a b∧(L 7=true→Ext a b),fun i v u=>match i with
  | 0=>v=Value.pointer a_0
  | 1=>v=Value.pointer a_0
  | 2=>v=Value.pointer (some ⟨p34,0,none⟩)
  | 3=>v=Value.pointer (some ⟨p34,0,none⟩)
  | 4=>v=s35.v
  | 5=>v=Value.agg (Nd.C a1).toArray
  | 6 => ∃ b sl,v=SlV.v sl∧sl=⟨some ⟨b,0,none⟩,1,1⟩ ∧ Blk u b T_Nd (Nd.C a1)∧¬ s35.fp b
  | 7 => ∃ s',v=SlV.v s'∧Own u 0 T_Nd 4 s' (((s3.getD []) ++ [a1]).map Nd.C) ∧ ∀ i,s'.fp i→s35.fp i∨w26.heap.size ≤ i
  | _=>True⟩ hmix zcd ?_ ⟨(Ext.drawn _).mono (fun _ _ x=>x.elim),fun _=>Ext.drawn _⟩ ⟨?_,?_,?_,?_,?_,?_,?_,?_,trivial⟩ ?_
 ·intro L i v a b hLi hle hv
  match i,hLi,hv with
  | 0,_,hv=>exact hv
  | 1,_,hv=>exact hv
  | 2,_,hv=>exact hv
  | 3,_,hv=>exact hv
  | 4,_,hv=>exact hv
  | 5,_,hv=>exact hv
  | 6,_,⟨b,sl,e1,e2,hb,hn⟩ => exact ⟨b,sl,e1,e2,hb.chg hle.1 hn,hn⟩
  | 7,hLi,⟨s',e1,ho,hg⟩ => exact ⟨s',e1,ho.ext (hle.2 hLi),hg⟩
  | _ + 8,_,_=>exact trivial
 ·rintro L g v hL hT 
  refine wd (zk rfl) (zb (ob ⟨hT.1,fun h=>hT.2 h⟩ ⟨Chg.refl _ _,fun _=>Ext.refl _⟩ rfl))
 ·rintro L g v hL hT 
  refine wd (zk rfl) (zb (ob ⟨hT.1,fun h=>hT.2 h⟩ ⟨Chg.refl _ _,fun _=>Ext.refl _⟩ rfl))
 ·rintro L g v hL hT hv1
  refine wd (zC ((hv1:_=Value.pointer a_0).trans (congrArg Value.pointer hp36))) (zb (ob ⟨hT.1,fun h=>hT.2 h⟩ ⟨Chg.refl _ _,fun _=>Ext.refl _⟩ rfl))
 ·rintro L g v hL hT hv2
  refine wd (ze kJ hv2 (o':=0) rfl) (zb (ob ⟨hT.1,fun h=>hT.2 h⟩ ⟨Chg.refl _ _,fun _=>Ext.refl _⟩ rfl))
 ·rintro L g v hL hT hv3
  refine wd (zl xy hv3 (((SH v hT.1).blk 0).cell (RTab.get_n _))) (zb (ob ⟨hT.1,fun h=>hT.2 h⟩ ⟨Chg.refl _ _,fun _=>Ext.refl _⟩ rfl))
 ·rintro L g v hL hT 
  refine wd (zm x7 rfl (((SH v hT.1).blk 1).all _ (Nd.len _)) (Nd.len _)) (zb (ob ⟨hT.1,fun h=>hT.2 h⟩ ⟨Chg.refl _ _,fun _=>Ext.refl _⟩ rfl))
 ·rintro L g v hL hT hv5
  refine wl_lit1 xe el_Nd.zero hv5 rfl (Nd.len _) zca zca fun b v' sl hn hq=>zb (ob ⟨hT.1.thenExt hn.ext,fun h=>(hT.2 h).trans hn.ext⟩ ⟨hn.ext.mono (fun _ _ x=>x.elim),fun _=>hn.ext⟩ ⟨b,sl,rfl,hq,hn.blk,fun e=>by have:=hSlt _ e; have:=hn.at_; have:=hT.1.size; omega⟩)
 ·rintro L g v hL hT hv4 ⟨b,sl,hv6,hq,hb,hnb⟩
  refine wl_push (C:=Nd.C) xe el_Nd hv4 hv6 (hSO.ext (hT.2 hL)) hb hq (Nd.len _) (Nd.one _) ha37 zcb zca fun s' v' ho hc hg=>zb (ob ⟨hT.1.trans hc,fun h=>(by cases h)⟩ ⟨hc,fun h=>(by rw [hL] at h; cases h)⟩ ⟨s',rfl,ho,fun i e=>(hg i e).imp id (fun h=>Nat.le_trans hT.1.size h)⟩)
 rintro L g w38 hLm hT hv40_0 hv40_1 hv40_2 hv40_3 hv40_4 hv40_5 ⟨b,sl,hv40_6,hq,hb,hnb⟩ ⟨s39,hv40_7,O,gO⟩
 replace S:=S.push 1 O (by rw [List.length_append,List.length_singleton]; omega) hT.1 gO
 clear O gO SH hSO hSlt
 refine wd (zC ((hv40_0:_=Value.pointer a_0).trans (congrArg Value.pointer hp36))) (wd (ze kJ rfl (o':=0) rfl) ?_)
 refine yI xy rfl hv40_7 (S.blk 1) (by rw [RTab.len]; decide) (SlV.one _ _ rfl) (RTab.set_n _ _) fun w41 B hw41 zw41=>?_
 replace S:=S.store 1 B hw41
 clear B
 replace S:=((S.front 1).front 1).shutR hp36
 refine zb (zd (za (wd (zk rfl) ?_)))
 obtain ⟨p42,s43,hp44,S⟩ := S.openR 0 rfl
 replace S:=S
 refine wd (zC (congrArg Value.pointer hp44)) (wd (ze kJ rfl (o':=0) rfl) (wd (zl xy rfl ((S.blk 0).cell (RTab.get_n _))) (wd (xg xe rfl (S.rdO 1)) (wd (jD rfl rfl) (wd (zh rfl) ?_)))))
 refine wd (zh rfl) ?_
 replace S:=((S.front 1).front 1).shutR hp44
 refine zb (zx ?_)
 refine ⟨_,(xn (zf rfl) (zf rfl)),?_⟩
 replace S:=S.arr [0] []
 obtain rfl:=zce H
 exact ⟨rfl,S⟩
theorem ref03_From_st {a0:List Nd} {s_0:SlV} (S:St A N w w [] [fS 4 Nd.C s_0 a0]) {r:Tb × Int} (H:zcA.f a0=some r) :
  Calls PP F_ref03_From #[s_0.v] w fun e w' => ∃ v,e = .returned v∧(∃ ao0:Option Addr,v = .tuple #[.pointer ao0,.int .i64 r.2]∧St A N w w' [oR ao0 r.1] []):=by
 unfold zcA.f at H
 refine zz (n:=32) fn_ref03_From rfl rfl zcc (zd (za ?_))
 replace S:=S.add (Ext.refl _) (oR.nil _) (fun _ x=>x.elim)
 refine wd (xc rfl) (wd (zh rfl) (zb (zd (za (wd (yi bu_RTab Bld.nil) ?_)))))
 refine zX rfl zca fun b2 w1 hw1=>?_
 replace S:St A N w w1 [oR (some ⟨b2,0,none⟩) (some []),oR none none] [fS 4 Nd.C s_0 a0]:=((S.nil T_Nd 4 Nd.C).new hw1).shutR rfl
 refine wd (xc rfl) (zb (zd (zd (za (wd (zh rfl) (zb ?_))))))
 obtain ⟨o3,e3,Ho3⟩ := zr H
 clear H
 refine x6 [2,3,5,6,7,10,11,12,13,14,15,16,17,18,19,20,21,22,23,24,25,26,27,28,29,30] (fun fr W => ∃ s3:Tb,o3 = .inl s3∧St A N w W [oR (some ⟨b2,0,none⟩) s3,oR none none] [fS 4 Nd.C s_0 a0]) ?_ ?_
 ·refine zP ?_
  refine xY (α:=Nat × Int × Tb) [2,3,5,6,7,10,11,12,13,14,15,16,17,18,19,20,21,22,23,24,25,26,27,28,29,30] (fun x fr W=>(x.1:Int)=(a0.length:Int) - x.2.1∧0 ≤ x.2.1∧forN (fun i s=>zcA.b0 a0 i s) x.1 x.2.1 x.2.2=some o3∧fr 5 = .int .i64 x.2.1∧St A N w W [oR (some ⟨b2,0,none⟩) (x.2.2),oR none none] [fS 4 Nd.C s_0 a0]) (fun x=>x.1) (((a0.length:Int) - 0).toNat,0,(some [])) ⟨(by dsimp only; have hle:=Int.natCast_nonneg (a0.length); omega),(Int.le_refl _),(by dsimp only; exact e3),rfl,S⟩ ?_
  rintro ⟨m3,i3,x3_0⟩ g3 u3 ⟨hm3,hl3,e3,q3_i,S⟩
  try dsimp only at hm3
  try dsimp only at hl3
  try dsimp only at e3
  try dsimp only at S
  try dsimp only at q3_i
  refine zd (zd (za (wd (zg q3_i) (wd (zA rfl) (wd (xg xe rfl (S.rd 0)) (wd (xQ rfl rfl) (zb ?_)))))))
  refine zG rfl (fun hc4=>?_) (fun hc4=>?_)
  rotate_left
  ·refine yn ?_
   have hge:(a0.length:Int) ≤ i3:=Int.not_lt.1 (of_decide_eq_false hc4)
   obtain rfl:m3=0:=by omega
   replace e3:=zaZ e3
   exact ⟨rfl,(((((Dif.self _ _ _).upd rfl _).upd rfl _).upd rfl _).upd rfl _),x3_0,e3,S⟩
  refine zB ?_
  have hlt3:i3 < (a0.length:Int):=of_decide_eq_true hc4
  obtain ⟨m3,rfl⟩ : ∃ m,m3=m + 1:=⟨m3 - 1,by omega⟩
  obtain ⟨q3,H,e3⟩ := zba e3
  unfold zcA.b0 at H
  try dsimp only at H
  have hb3:=(S.len 0)
  refine zd ?_
  refine zP (zd (za (wd (zk rfl) (wd (zA rfl) (wd (zg q3_i) (wd (xa xe rfl rfl (S.rd 0) (And.intro (show 0 ≤ i3 by omega) (show i3 < (a0.length:Int) from hlt3)).1 (And.intro (show 0 ≤ i3 by omega) (show i3 < (a0.length:Int) from hlt3)).2) ?_))))))
  refine wd (zm x7 rfl ((S.rd 0).at (ym Nd.z (And.intro (show 0 ≤ i3 by omega) (show i3 < (a0.length:Int) from hlt3)))) (Nd.len _)) ?_
  obtain ⟨r6,er6,H⟩ := zr H
  obtain ⟨B8,MB8,SB8,back⟩ := S.calln 1 ((.nil))
  refine zu (zq ca_ref03_T_Put) zca (ref03_T_Put_st SB8 er6) ?_
  rintro _ w7 ⟨rfl,S2⟩
  replace S:=back _ _ _ _ S2 rfl
  clear back S2 SB8
  refine wd (zV rfl) (wd (zt rfl rfl) (wd (zt rfl rfl) (wd (zh rfl) (wd (zh rfl) (zb (zd (zd (za ?_))))))))
  refine wd (zg rfl) (wd (xm rfl rfl) (zb ?_))
  refine zG rfl (fun hc9=>?_) (fun hc9=>?_)
  ·replace H:=if_t hc9 H
   refine zd (za (wd (zg rfl) ?_))
   replace S:=S.add (Ext.refl _) (oR.nil _) (fun _ x=>x.elim)
   refine wd (xc rfl) (wd (zh rfl) (zb (zx ?_)))
   refine ⟨_,(xn (zf rfl) (zf rfl)),?_⟩
   replace S:=S.arr [0] []
   obtain rfl:=zce H
   obtain rfl:=e3
   obtain rfl:=jX Ho3
   exact ⟨none,rfl,S⟩
  replace H:=if_f hc9 H
  refine zB (zd (za (wd (zg rfl) (wd (zg q3_i) (wd (xm rfl rfl) (zb ?_))))))
  refine zG rfl (fun hc10=>?_) (fun hc10=>?_)
  ·replace H:=if_t hc10 H
   refine zd (za ?_)
   replace S:=S.add (Ext.refl _) (oR.nil _) (fun _ x=>x.elim)
   refine wd (xc rfl) (wd (zh rfl) (zb (zx ?_)))
   refine ⟨_,(xn (zf rfl) (zf rfl)),?_⟩
   replace S:=S.arr [0] []
   obtain rfl:=zce H
   obtain rfl:=e3
   obtain rfl:=jX Ho3
   exact ⟨none,rfl,S⟩
  replace H:=if_f hc10 H
  refine zB (za (wd (zg q3_i) (wd (xK rfl rfl (c:=i3 + 1) rfl zcb zcb) (wd (zh rfl) (zb ?_)))))
  obtain rfl:=zce H
  exact ⟨rfl,(by repeat first | exact Dif.refl _ _ | exact Dif.self _ _ _ | refine Dif.upd ?_ rfl _ | refine Dif.mask ?_ rfl _),(m3,i3 + 1,r6.1),⟨(by dsimp only; omega),(by dsimp only; omega),e3,rfl,S⟩,by dsimp only; omega⟩
 rintro g11 u12 ⟨s3,rfl,S⟩
 have H:=Ho3
 dsimp only [aft] at H
 refine zd (za (wd (zk rfl) (wd (xc rfl) (wd (zh rfl) (zb (zx ?_))))))
 refine ⟨_,(xn (zf rfl) (zf rfl)),?_⟩
 replace S:=S.arr [0] []
 obtain rfl:=zce H
 exact ⟨(some ⟨b2,0,none⟩),rfl,S⟩
theorem law03_Both_st {a0:List Nd} {s_0:SlV} (S:St A N w w [] [fS 4 Nd.C s_0 a0]) {r:Tb × Tb × Bool} (H:zcB.f a0=some r) :
  Calls PP F_law03_Both #[s_0.v] w fun e w' => ∃ v,e = .returned v∧(∃ ao0:Option Addr,∃ ao1:Option Addr,v = .tuple #[.pointer ao0,.pointer ao1,.bool r.2.2]∧St A N w w' [oT ao0 r.1,oR ao1 r.2.1] []):=by
 unfold zcB.f at H
 refine zz (n:=27) fn_law03_Both rfl rfl zcc (zd (za ?_))
 replace S:=S.add (Ext.refl _) (oT.nil _) (fun _ x=>x.elim)
 refine wd (xc rfl) ?_
 replace S:=S.add (Ext.refl _) (oR.nil _) (fun _ x=>x.elim)
 refine wd (xc rfl) (wd (zo rfl) (zb (zd (za ?_))))
 refine xD (C:=Nd.C) (l:=([]:List Nd)) (vs:=[]) xe el_Nd.zero rfl rfl (fun a _=>Nd.len a) zca rfl zca fun b2 w1 s3 hBw1 hw1=>?_
 replace S:=S.lit hBw1 hw1 zcc
 refine wd (zA rfl) ?_
 obtain ⟨ha6,H⟩ := xo H
 have ha6:=of_decide_eq_true ha6
 refine wl_appendm (C:=Nd.C) xe el_Nd rfl rfl (S.sl 0) (S.rd 0) Nd.one ha6 zcb zca fun s5 w4 O hw4 gw4=>?_
 replace S:=S.push 0 O (by first | (simp; done) | (simp; omega)) hw4 gw4
 clear O
 refine wd (xP rfl) (zb (zd (za (wd (zA rfl) ?_))))
 obtain ⟨r7,er7,H⟩ := zr H
 obtain ⟨B9,MB9,SB9,back⟩ := S.calln 0 ((.z 0 rfl .nil))
 refine zu (zq ca_ref03_From) zca (ref03_From_st SB9 er7) ?_
 rintro _ w8 ⟨a10,rfl,S2⟩
 replace S:=back _ _ _ _ S2 rfl
 clear back S2 SB9
 refine wd (zV rfl) (wd (zt rfl rfl) (wd (zt rfl rfl) (wd (xc rfl) (wd (zh rfl) (zb (zd (zd (za ?_))))))))
 refine wd (zg rfl) (wd (xm rfl rfl) (zb ?_))
 refine zG rfl (fun hc11=>?_) (fun hc11=>?_)
 ·replace H:=if_t hc11 H
  refine zd (za ?_)
  replace S:=S.add (Ext.refl _) (oT.nil _) (fun _ x=>x.elim)
  refine wd (xc rfl) ?_
  replace S:=S.add (Ext.refl _) (oR.nil _) (fun _ x=>x.elim)
  refine wd (xc rfl) (wd (zo rfl) (zb (zx ?_)))
  refine ⟨_,(rets3 (zf rfl) (zf rfl) (zf rfl)),?_⟩
  replace S:=S.arr [1,0] []
  obtain rfl:=zce H
  exact ⟨none,none,rfl,S⟩
 replace H:=if_f hc11 H
 refine zB (zd (za (wd (zA rfl) ?_)))
 obtain ⟨r12,er12,H⟩ := zr H
 obtain ⟨B14,MB14,SB14,back⟩ := S.calln 0 ((.s 1 rfl .nil))
 refine zu (zq ca_formula_From) zca (formula_From_st SB14 er12) ?_
 rintro _ w13 ⟨a15,rfl,S2⟩
 replace S:=back _ _ _ _ S2 rfl
 clear back S2 SB14
 refine wd (zV rfl) (wd (zt rfl rfl) (wd (zt rfl rfl) (wd (xc rfl) (wd (zh rfl) (zb (zd (za ?_)))))))
 refine wd (zk rfl) (wd (zk rfl) (wd (xc rfl) (wd (xc rfl) (wd (zo rfl) (zb (zx ?_))))))
 refine ⟨_,(rets3 (zf rfl) (zf rfl) (zf rfl)),?_⟩
 replace S:=S.arr [0,1] []
 obtain rfl:=zce H
 exact ⟨a15,a10,rfl,S⟩
end
section
open Gw Go.RowKit
set_option maxHeartbeats 4000000
set_option maxRecDepth 20000
theorem hilbert_pattern_is_gst {zea:PPattern→Int→ByteArray→Option (PPattern × ByteArray × Bool)} (zdS : ∀ {A:Nat→Prop} {N:Oth} {w:World} {a0:PPattern} {a_0:Option Addr} {g_0_1:Option Addr} {a1:Int} {a2:ByteArray} (S:St A N w w [oPa a_0 g_0_1 a0] []) {r:PPattern × ByteArray × Bool} (H:zea a0 a1 a2=some r),Calls PP vh #[.pointer a_0,.int .i64 a1,.string a2] w fun e w' => ∃ v,e = .returned v∧(v = .tuple #[.string r.2.1,.bool r.2.2]∧St A N w w' [oPa a_0 g_0_1 r.1] [])) {A:Nat→Prop} {N:Oth} {w:World} {a0:PPattern} {a_0:Option Addr} {g_0_1:Option Addr} {a1:Int} {a2:ByteArray} (S:St A N w w [oPa a_0 g_0_1 a0] []) {r:PPattern × ByteArray × Bool} (H:zcC.g zea a0 a1 a2=some r) :
  Calls PP vh #[.pointer a_0,.int .i64 a1,.string a2] w fun e w' => ∃ v,e = .returned v∧(v = .tuple #[.string r.2.1,.bool r.2.2]∧St A N w w' [oPa a_0 g_0_1 r.1] []):=by
 unfold zcC.g at H
 refine zz (n:=86) fn_hilbert_pattern_is rfl rfl zcc (zd (za (wd (xZ rfl) (wd (zo rfl) (zb (zd ?_))))))
 refine yz 5 (Ext w) hmix zcd zcd (Ext.drawn _) (zy (fun v K=>xl rfl) ?_)
 obtain ⟨hi1,H⟩ := xo H
 refine zy (fun v K=>vH yH rfl rfl (zO hi1).1 (zO hi1).2) (zy (fun v K=>xl rfl) ?_)
 obtain ⟨hi2,H⟩ := xo H
 refine zy (fun v K=>does_sliceStr yH rfl rfl (of_decide_eq_true hi2).1 (of_decide_eq_true hi2).2) (zy (fun v K=>zh rfl) ?_)
 refine vD fun w3 K=>?_
 replace S:=S.ext K
 clear K
 refine wd (xZ rfl) (zb (zd (za (wd (zk rfl) ?_))))
 obtain ⟨p4,m6,hp5,S⟩ := S.open_oPa 0
 replace S:=S
 refine wd (zC (congrArg Value.pointer hp5)) (wd (ze fl_Pattern_t rfl (o':=0) rfl) (wd (zl xA rfl ((S.blk 0).cell (Pattern.get_t _))) (wd (zg rfl) ?_)))
 obtain ⟨r7,er7,H⟩ := zr H
 obtain ⟨B9,MB9,SB9,back⟩ := S.calln 0 ((.o 1 rfl .nil))
 refine zu (zq yv) zca (yx SB9 er7) ?_
 rintro _ w8 ⟨rfl,S2⟩
 replace S:=back _ _ _ _ S2 rfl
 clear back S2 SB9
 refine wd (zV rfl) (wd (zt rfl rfl) (wd (zt rfl rfl) ?_))
 refine xd uD zca fun b11 w10 hw10=>?_
 replace S:=S.new hw10
 refine zI x7 rfl rfl (S.blk 0) (Nd.len _) (by rw [Nd.len]; decide) (Nd.one _) (zT (Nd.len _)) fun w12 B hw12 zw12=>?_
 replace S:=S.store 0 B hw12
 clear B
 refine wd (zo rfl) ?_
 replace S:=((S.front 3).front 3).front 3
 replace S:=S.shut_oPa hp5
 refine zb (zd (za (wd (zh rfl) (zb (zd (zd (za (wd (zg rfl) (zb ?_)))))))))
 obtain ⟨o13,e13,Ho13⟩ := zr H
 replace H:=e13; clear e13
 refine x6 [6,7,12,13,14,30,31,32,33,34,35,36,37,38,39,40,41,42,43,44,45,46,47,48,49,50,51,52,53,54,55,56,57,58,59,60,61,62,63,64] (fun fr W => ∃ s13:Int × PPattern,o13 = .inl s13∧fr 12 = .int .i64 s13.1∧St A N w W [oPa a_0 g_0_1 s13.2,oB b11 T_Nd (Nd.C r7.1)] []) ?_ ?_
 ·refine zP (zd (za (wd (zU rfl rfl) (wd (zo rfl) (zb ?_)))))
  refine zG rfl (fun hc14=>?_) (fun hc14=>?_)
  ·replace H:=if_t hc14 H
   refine za (wd (zh rfl) (zb ?_))
   obtain rfl:=zce H
   exact ⟨rfl,((((Dif.refl _ _).upd rfl _).upd rfl _).upd rfl _),(5,a0),rfl,rfl,S⟩
  ·replace H:=if_f hc14 H
   refine zd (za (wd (zU rfl rfl) (wd (zo rfl) (zb ?_))))
   refine zG rfl (fun hc15=>?_) (fun hc15=>?_)
   ·replace H:=if_t hc15 H
    refine za (wd (zh rfl) (zb ?_))
    obtain rfl:=zce H
    exact ⟨rfl,((((((Dif.refl _ _).upd rfl _).upd rfl _).upd rfl _).upd rfl _).upd rfl _),(3,a0),rfl,rfl,S⟩
   ·replace H:=if_f hc15 H
    refine zd (za (wd (zU rfl rfl) (wd (zo rfl) (zb ?_))))
    refine zG rfl (fun hc16=>?_) (fun hc16=>?_)
    rotate_left
    ·replace H:=if_f hc16 H
     refine zd (za (wd (zU rfl rfl) (wd (zo rfl) (zb ?_))))
     refine zG rfl (fun hc17=>?_) (fun hc17=>?_)
     ·replace H:=if_t hc17 H
      refine zd ?_
      refine yz 5 (Ext w12) hmix zcd zcd (Ext.drawn _) (zy (fun v K=>xl rfl) (zy (fun v K=>ze zaY rfl (o':=0) rfl) (zy (fun v K=>zl jh rfl (((S.ext K).blk 1).cell (Nd.get_kind _))) (zy (fun v K=>zU rfl rfl) (zy (fun v K=>xZ rfl) ?_)))))
      refine vD fun w18 K=>?_
      replace S:=S.ext K
      clear K
      refine wd (zo rfl) (zb (zx ?_))
      refine ⟨_,(xn (zf rfl) (zf rfl)),?_⟩
      replace S:=S.arr [0] []
      obtain rfl:=zce H
      obtain rfl:=jX Ho13
      exact ⟨rfl,S⟩
     ·replace H:=if_f hc17 H
      refine zd (za (wd (zk rfl) ?_))
      obtain ⟨p19,m21,hp20,S⟩ := S.open_oPa 0
      replace S:=S
      refine wd (zC (congrArg Value.pointer hp20)) (wd (ze fl_Pattern_seen rfl (o':=1) rfl) (wd (zl on_M_uint8_int rfl ((S.blk 0).cell (Pattern.get_seen _))) (wd (zg rfl) (wd (does_lookup_ok (C:=(Value.int .u8)) (D:=(Value.int .i64)) (key:=sb a2 0) (zv:=0) un_M_uint8_int key_uint8 zv_int rfl rfl (S.map 2)) (wd (zV rfl) (wd (zt rfl rfl) (wd (zt rfl rfl) (wd (zh rfl) (wd (zo rfl) ?_)))))))))
      replace S:=((S.front 2).front 2).front 2
      replace S:=S.shut_oPa hp20
      refine zb (zd (za (wd (zk rfl) ?_)))
      obtain ⟨p22,m24,hp23,S⟩ := S.open_oPa 0
      replace S:=S
      refine wd (zC (congrArg Value.pointer hp23)) (wd (ze fl_Pattern_seen rfl (o':=1) rfl) (wd (zl on_M_uint8_int rfl ((S.blk 0).cell (Pattern.get_seen _))) (wd (zg rfl) (wd (zg rfl) ?_))))
      refine zaG (C:=(Value.int .u8)) (D:=(Value.int .i64)) (key:=sb a2 0) (v:=a1) un_M_uint8_int key_uint8 rfl rfl rfl (S.map 2) fun w25 hmw25 hcw25 hsw25=>?_
      replace S:=((S.mapSet 2 ⟨hmw25,hcw25,hsw25⟩).front 2).front 2
      replace S:=S.shut_oPa hp23
      refine zb (zd (za (wd (xl rfl) (wd (zL rfl) (wd (xk rfl) (wd (zL rfl) ?_))))))
      refine wg (fun hg=>zg rfl) ?_
      refine wg (fun hg=>zg rfl) ?_
      refine wg (fun hg=>zU (zw hg) (zw hg)) (wd (xO rfl (fun hp=>(zw (xE hp)))) (wd (xZ rfl) (wd (zo rfl) (zb (zx ?_)))))
      refine ⟨_,(xn (zf rfl) (zf rfl)),?_⟩
      replace S:=S.arr [0] []
      obtain rfl:=zce H
      obtain rfl:=jX Ho13
      exact ⟨rfl,S⟩
    replace H:=if_t hc16 H
    refine za (wd (zh rfl) (zb ?_))
    obtain rfl:=zce H
    exact ⟨rfl,((((((((Dif.refl _ _).upd rfl _).upd rfl _).upd rfl _).upd rfl _).upd rfl _).upd rfl _).upd rfl _),(4,a0),rfl,rfl,S⟩
 rintro g26 u27 ⟨s13,rfl,p13_12,S⟩
 have H:=Ho13
 dsimp only [aft] at H
 refine zd (zd (za (wd (ze zaY rfl (o':=0) rfl) (wd (zl jh rfl ((S.blk 1).cell (Nd.get_kind _))) (wd (zg p13_12) (wd (xm rfl rfl) (zb ?_)))))))
 refine zG rfl (fun hc28=>?_) (fun hc28=>?_)
 ·replace H:=if_t hc28 H
  refine zd (za (wd (xZ rfl) (wd (zo rfl) (zb (zx ?_)))))
  refine ⟨_,(xn (zf rfl) (zf rfl)),?_⟩
  replace S:=S.arr [0] []
  obtain rfl:=zce H
  exact ⟨rfl,S⟩
 replace H:=if_f hc28 H
 refine zB (zd (za (wd (zk rfl) (wd (ze yY rfl (o':=2) rfl) (wd (zl zR rfl ((S.blk 1).cell (Nd.get_l _))) (wd (xl rfl) ?_))))))
 obtain ⟨r29,er29,H⟩ := zr H
 obtain ⟨B31,MB31,SB31,back⟩ := S.calln 1 ((.nil))
 refine zu (zq uH) zca (zdS SB31 er29) ?_
 rintro _ w30 ⟨rfl,S2⟩
 replace S:=back _ _ _ _ S2 rfl
 clear back S2 SB31
 refine wd (zV rfl) (wd (zt rfl rfl) (wd (zt rfl rfl) (wd (xZ rfl) (wd (zo rfl) (zb (zd (zd (za (wd (zL rfl) (wd (xk rfl) (zb ?_)))))))))))
 refine zG rfl (fun hc32=>?_) (fun hc32=>?_)
 ·replace H:=if_t hc32 H
  refine zd (za (wd (xZ rfl) (wd (zo rfl) (zb (zx ?_)))))
  refine ⟨_,(xn (zf rfl) (zf rfl)),?_⟩
  replace S:=S.arr [0] []
  obtain rfl:=zce H
  exact ⟨rfl,S⟩
 replace H:=if_f hc32 H
 refine zB (zd (za (wd (zk rfl) (wd (ze yS rfl (o':=3) rfl) (wd (zl zR rfl ((S.blk 1).cell (Nd.get_r _))) (wd (xl rfl) ?_))))))
 obtain ⟨r33,er33,H⟩ := zr H
 obtain ⟨B35,MB35,SB35,back⟩ := S.calln 1 ((.nil))
 refine zu (zq uH) zca (zdS SB35 er33) ?_
 rintro _ w34 ⟨rfl,S2⟩
 replace S:=back _ _ _ _ S2 rfl
 clear back S2 SB35
 refine wd (zt rfl rfl) (wd (zt rfl rfl) (wd (xZ rfl) (wd (zo rfl) (zb (zx ?_)))))
 refine ⟨_,(xn (zf rfl) (zf rfl)),?_⟩
 replace S:=S.arr [0] []
 obtain rfl:=zce H
 exact ⟨rfl,S⟩
variable {A:Nat→Prop} {N:Oth} {w:World}
theorem hilbert_pattern_is_st {a0:PPattern} {a_0:Option Addr} {g_0_1:Option Addr} {a1:Int} {a2:ByteArray} (S:St A N w w [oPa a_0 g_0_1 a0] []) {k:Nat} {r:PPattern × ByteArray × Bool} (H:zcC.f k a0 a1 a2=some r) :
  Calls PP vh #[.pointer a_0,.int .i64 a1,.string a2] w fun e w' => ∃ v,e = .returned v∧(v = .tuple #[.string r.2.1,.bool r.2.2]∧St A N w w' [oPa a_0 g_0_1 r.1] []):=by
 have main : ∀ (k:Nat) {A:Nat→Prop} {N:Oth} {w:World} {a0:PPattern} {a_0:Option Addr} {g_0_1:Option Addr} {a1:Int} {a2:ByteArray} (S:St A N w w [oPa a_0 g_0_1 a0] []) {r:PPattern × ByteArray × Bool} (H:zcC.f k a0 a1 a2=some r),Calls PP vh #[.pointer a_0,.int .i64 a1,.string a2] w fun e w' => ∃ v,e = .returned v∧(v = .tuple #[.string r.2.1,.bool r.2.2]∧St A N w w' [oPa a_0 g_0_1 r.1] []):=by
  intro k
  induction k with
  | zero=>intro A N w a0 a_0 g_0_1 a1 a2 S r H; cases H
  | succ k ih=>intro A N w a0 a_0 g_0_1 a1 a2 S r H; exact hilbert_pattern_is_gst ih S H
 exact main k S H
theorem hilbert_fits_st {a0:Tb} {a_0:Option Addr} {a1:Int} {a2:Int} (S:St A N w w [oT a_0 a0] []) {k:Nat} {r:Tb × Bool} (H:zcD.f k a0 a1 a2=some r) :
  Calls PP F_hilbert_fits #[.pointer a_0,.int .i64 a1,.int .i64 a2] w fun e w' => ∃ v,e = .returned v∧(v = .bool r.2∧St A N w w' [oT a_0 r.1] []):=by
 unfold zcD.f at H
 refine zz (n:=25) fn_hilbert_fits rfl rfl zcc (zd (za (wd (zo rfl) (zb (zd (za (wd (zg rfl) ?_)))))))
 obtain ⟨r1,er1,H⟩ := zr H
 obtain ⟨B3,MB3,SB3,back⟩ := S.calln 0 ((.nil))
 refine zu (zq ca_hilbert_scheme) zca (hilbert_scheme_st SB3 er1) ?_
 rintro _ w2 ⟨rfl,S2⟩
 replace S:=back _ _ _ _ S2 rfl
 clear back S2 SB3
 refine wd (xZ rfl) (zb (zd (zd (za (wd (xl rfl) (wd (vi rfl rfl) (zb ?_)))))))
 refine zG rfl (fun hc4=>?_) (fun hc4=>?_)
 ·replace H:=if_t hc4 H
  refine zd (za (wd (zo rfl) (zb (zx ?_))))
  refine ⟨_,(zS (zf rfl)),?_⟩
  obtain rfl:=zce H
  exact ⟨rfl,S⟩
 replace H:=if_f hc4 H
 refine zB (zd (za (wd (zk rfl) ?_)))
 refine wl_makeMap (C:=(Value.int .u8)) (D:=(Value.int .i64)) zca fun m5 w6 hmw6 hxw6 hlw6=>?_
 replace S:=S.newM hmw6 hxw6 hlw6
 refine wd (Does.to (v' := .agg (Pattern.C (⟨a_0,(some m5)⟩ : Pattern)).toArray) (xF (vs:=[(0,.pointer a_0),(1,.map (some m5))]) bu_Pattern (yl rfl (yl rfl rfl)) (Bld.one rfl rfl (by rw [Pattern.len]; decide) (Pattern.set_t _ _) (Bld.one rfl rfl (by rw [Pattern.len]; decide) (Pattern.set_seen _ _) Bld.nil))) rfl) ?_
 refine zX rfl zca fun b8 w7 hw7=>?_
 replace S:=((S.new hw7).front 1).front 2
 replace S:=(S.front 2).shut_oPa rfl
 refine wd (zg rfl) (wd (xl rfl) ?_)
 obtain ⟨r9,er9,H⟩ := zr H
 obtain ⟨B11,MB11,SB11,back⟩ := S.calln 1 ((.nil))
 refine zu (zq uH) zca (hilbert_pattern_is_st SB11 er9) ?_
 rintro _ w10 ⟨rfl,S2⟩
 replace S:=back _ _ _ _ S2 rfl
 clear back S2 SB11
 refine wd (zV rfl) (wd (zt rfl rfl) (wd (zt rfl rfl) (wd (xZ rfl) (wd (zo rfl) (zb (zd (za (wd (zL rfl) (wd (zo rfl) (zb (zx ?_)))))))))))
 obtain ⟨p12,m14,hp13,S⟩ := S.open_oPa 0
 replace S:=S
 refine ⟨_,(zS (zf rfl)),?_⟩
 replace S:=S.arr [1] []
 obtain rfl:=zce H
 exact ⟨rfl,S⟩
theorem hilbert_has_1_st {a0:Int} {a1:Int} {b_1:Nat} (S:St A N w w [] [oB b_1 xB [.int .i64 a1]]) {r:Bool} (H:zcE.f a0 a1=some r) :
  Calls PP jH #[.int .i64 a0,.pointer (some ⟨b_1,0,none⟩)] w fun e w' => ∃ v,e = .returned v∧(v = .bool r∧St A N w w' [] []):=by
 unfold zcE.f at H
 refine zz (n:=11) fn_hilbert_has_1 rfl rfl zcc (zd (za (wd (zo rfl) (zb (zd (za (wd (zg rfl) (wd (xQ rfl rfl) (wd (zL rfl) ?_)))))))))
 refine wg (fun hg=>zg rfl) ?_
 refine wg (fun hg=>zl zR rfl ((S.blkZ 0).cell rfl)) ?_
 refine wg (fun hg=>uc (zw hg) (zw hg)) (wd (xO rfl (fun hp=>(zw (xE hp)))) (wd (zo rfl) (zb (zx ?_))))
 refine ⟨_,(zS (zf rfl)),?_⟩
 replace S:=S.arr [] []
 obtain rfl:=zce H
 exact ⟨rfl,S⟩
theorem uz {a0:List Int} {s_0:SlV} {a1_0:Int} {b_1:Nat} (S:St A N w w [] [fS 1 IC s_0 a0,oB b_1 xB [.int .i64 a1_0]]) {r:Int} (H:zcF.f a0 a1_0=some r) :
  Calls PP uU #[s_0.v,.func (.func jH) #[] #[.pointer (some ⟨b_1,0,none⟩)]] w fun e w' => ∃ v,e = .returned v∧(v = .int .i64 r∧St A N w w' [] []):=by
 unfold zcF.f at H
 refine zz (n:=19) zaE rfl rfl zcc (zd (za (wd (zh rfl) (zb (zd (zd (za (wd (zA rfl) (wd (xg xG rfl (S.rd 0)) (wd (zg rfl) (zb ?_)))))))))))
 obtain ⟨o1,e1,Ho1⟩ := zr H
 clear H
 refine x6 [4,5,8,9,10,11,12,13,14,15,16,17,18] (fun fr W => ∃ s1:Unit,o1 = .inl s1∧St A N w W [] [fS 1 IC s_0 a0,oB b_1 xB [.int .i64 a1_0]]) ?_ ?_
 ·refine zP ?_
  refine xY (α:=Nat × Int × Unit) [4,5,8,9,10,11,12,13,14,15,16,17,18] (fun x fr W=>(x.1:Int)=(a0.length:Int) - x.2.1∧0 ≤ x.2.1∧forN (fun i s=>zcF.b0 a0 a1_0 i) x.1 x.2.1 x.2.2=some o1∧fr 8 = .int .i64 x.2.1∧St A N w W [] [fS 1 IC s_0 a0,oB b_1 xB [.int .i64 a1_0]]) (fun x=>x.1) (((a0.length:Int) - 0).toNat,0,()) ⟨(by dsimp only; have hle:=Int.natCast_nonneg (a0.length); omega),(Int.le_refl _),(by dsimp only; exact e1),rfl,S⟩ ?_
  rintro ⟨m1,i1,_⟩ g1 u1 ⟨hm1,hl1,e1,q1_i,S⟩
  try dsimp only at hm1
  try dsimp only at hl1
  try dsimp only at e1
  try dsimp only at S
  try dsimp only at q1_i
  refine zd (za (wd (xQ q1_i rfl) (zb (zd ?_))))
  refine zG rfl (fun hc2=>?_) (fun hc2=>?_)
  rotate_left
  ·refine yn ?_
   have hge:(a0.length:Int) ≤ i1:=Int.not_lt.1 (of_decide_eq_false hc2)
   obtain rfl:m1=0:=by omega
   replace e1:=zaZ e1
   exact ⟨rfl,((Dif.self _ _ _).upd rfl _),(),e1,S⟩
  refine zB ?_
  have hlt1:i1 < (a0.length:Int):=of_decide_eq_true hc2
  obtain ⟨m1,rfl⟩ : ∃ m,m1=m + 1:=⟨m1 - 1,by omega⟩
  obtain ⟨q1,H,e1⟩ := zba e1
  unfold zcF.b0 at H
  try dsimp only at H
  have hb1:=(S.len 0)
  refine zd ?_
  refine zP (zd (za (wd (zg q1_i) (wd (zh rfl) (zb (zd (za (wd (zaJ rfl) (wd (zA rfl) (wd (zg rfl) (wd (xa xG rfl rfl (S.rd 0) (And.intro (show 0 ≤ i1 by omega) (show i1 < (a0.length:Int) from hlt1)).1 (And.intro (show 0 ≤ i1 by omega) (show i1 < (a0.length:Int) from hlt1)).2) (wd (zl zR rfl ((S.rd 0).one (ym (0:Int) (And.intro (show 0 ≤ i1 by omega) (show i1 < (a0.length:Int) from hlt1))) rfl)) ?_))))))))))))
  obtain ⟨r4,er4,H⟩ := zr H
  obtain ⟨B6,MB6,SB6,back⟩ := S.calln 0 ((.z 1 rfl .nil))
  refine zu (kH ca_hilbert_has_1 rfl) zca (hilbert_has_1_st SB6 er4) ?_
  rintro _ w5 ⟨rfl,S2⟩
  replace S:=back _ _ _ _ S2 rfl
  clear back S2 SB6
  refine zb ?_
  refine zG rfl (fun hc7=>?_) (fun hc7=>?_)
  ·replace H:=if_t hc7 H
   refine zd (za (wd (zg rfl) (wd (zh rfl) (zb (zx ?_)))))
   refine ⟨_,(zS (zf rfl)),?_⟩
   replace S:=S.arr [] []
   obtain rfl:=zce H
   obtain rfl:=e1
   obtain rfl:=jX Ho1
   exact ⟨rfl,S⟩
  replace H:=if_f hc7 H
  refine zB (za (wd (xK q1_i rfl (c:=i1 + 1) rfl zcb zcb) (wd (zg rfl) (zb ?_))))
  obtain rfl:=zce H
  exact ⟨rfl,((((((((((((Dif.self _ _ _).upd rfl _).upd rfl _).upd rfl _).upd rfl _).upd rfl _).upd rfl _).upd rfl _).upd rfl _).upd rfl _).upd rfl _).upd rfl _),(m1,i1 + 1,()),⟨(by dsimp only; omega),(by dsimp only; omega),e1,rfl,S⟩,by dsimp only; omega⟩
 rintro g8 u9 ⟨s1,rfl,S⟩
 have H:=Ho1
 dsimp only [aft] at H
 refine zd (za (wd (zh rfl) (zb (zx ?_))))
 refine ⟨_,(zS (zf rfl)),?_⟩
 replace S:=S.arr [] []
 obtain rfl:=zce H
 exact ⟨rfl,S⟩
theorem ua {a0:List Int} {s_0:SlV} {a1_0:Int} {b_1:Nat} (S:St A N w w [] [fS 1 IC s_0 a0,oB b_1 xB [.int .i64 a1_0]]) {r:Bool} (H:zcG.f a0 a1_0=some r) :
  Calls PP uq #[s_0.v,.func (.func jH) #[] #[.pointer (some ⟨b_1,0,none⟩)]] w fun e w' => ∃ v,e = .returned v∧(v = .bool r∧St A N w w' [] []):=by
 unfold zcG.f at H
 refine zz (n:=9) kN rfl rfl zcc (zd (za (wd (zo rfl) (zb (zd (za (wd (zA rfl) (wd (zaJ rfl) ?_))))))))
 obtain ⟨r1,er1,H⟩ := zr H
 obtain ⟨B3,MB3,SB3,back⟩ := S.calln 0 ((.z 0 rfl (.z 1 rfl .nil)))
 refine zu (zq zaC) zca (uz SB3 er1) ?_
 rintro _ w2 ⟨rfl,S2⟩
 replace S:=back _ _ _ _ S2 rfl
 clear back S2 SB3
 refine wd (uc rfl rfl) (wd (zo rfl) (zb (zx ?_)))
 refine ⟨_,(zS (zf rfl)),?_⟩
 replace S:=S.arr [] []
 obtain rfl:=zce H
 exact ⟨rfl,S⟩
theorem kn {a0:Tb} {a_0:Option Addr} {a1:List Int} {s_1:SlV} (S:St A N w w [] [oT a_0 a0,fS 1 IC s_1 a1]) {r:Int} (H:zcH.f a0 a1=some r) :
  Calls PP F_hilbert_has #[.pointer a_0,s_1.v] w fun e w' => ∃ v,e = .returned v∧(v = .int .i64 r∧St A N w w' [] []):=by
 unfold zcH.f at H
 refine zz (n:=14) fn_hilbert_has rfl rfl zcc (zd (za (wd (zh rfl) (zb (zd (zd (za (wd (zk rfl) ?_))))))))
 obtain ⟨r1,er1,H⟩ := zr H
 obtain ⟨B3,MB3,SB3,back⟩ := S.calln 0 ((.z 0 rfl .nil))
 refine zu (zq ca_formula_Table_Copy) zca (formula_Table_Copy_st SB3 er1) ?_
 rintro _ w2 ⟨a4,rfl,hnilw2,S2⟩
 replace S:=back _ _ _ _ S2 rfl
 clear back S2 SB3
 refine wd (does_isnilp vO rfl rfl hnilw2) (zb ?_)
 refine zG rfl (fun hc5=>?_) (fun hc5=>?_)
 ·replace H:=if_t hc5 H
  refine zd (za (wd (zh rfl) (zb (zx ?_))))
  refine ⟨_,(zS (zf rfl)),?_⟩
  replace S:=S.arr [] []
  obtain rfl:=zce H
  exact ⟨rfl,S⟩
 replace H:=if_f hc5 H
 refine zB (zd (za (wd (zk rfl) ?_)))
 obtain ⟨r6,er6,H⟩ := zr H
 obtain ⟨B8,MB8,SB8,back⟩ := S.calln 0 ((.z 0 rfl .nil))
 refine zu (zq uX) zca (jd SB8 er6) ?_
 rintro _ w7 ⟨rfl,S2⟩
 replace S:=back _ _ _ _ S2 rfl
 clear back S2 SB8
 refine xd ze_int zca fun b10 w9 hw9=>?_
 replace S:=S.new hw9
 refine yI zR rfl rfl (S.blk 0) zcc rfl rfl fun w11 B hw11 zw11=>?_
 replace S:=S.store 0 B hw11
 clear B
 refine zb (zd (zd (za (wd (zA rfl) (wd (does_funcl) ?_)))))
 obtain ⟨r12,er12,H⟩ := zr H
 obtain ⟨B14,MB14,SB14,back⟩ := S.calln 0 ((.z 1 rfl (.o 0 rfl .nil)))
 refine zu (zq kG) zca (ua SB14 er12) ?_
 rintro _ w13 ⟨rfl,S2⟩
 replace S:=back _ _ _ _ S2 rfl
 clear back S2 SB14
 refine zb ?_
 refine zG rfl (fun hc15=>?_) (fun hc15=>?_)
 ·replace H:=if_t hc15 H
  refine zd (za (wd (zh rfl) (zb (zx ?_))))
  refine ⟨_,(zS (zf rfl)),?_⟩
  replace S:=S.arr [] []
  obtain rfl:=zce H
  exact ⟨rfl,S⟩
 replace H:=if_f hc15 H
 refine zB (zd (za (wd (zh rfl) (zb (zx ?_)))))
 refine ⟨_,(zS (zf rfl)),?_⟩
 replace S:=S.arr [] []
 obtain rfl:=zce H
 exact ⟨rfl,S⟩
theorem hilbert_Is_st {a0:Tb} {a_0:Option Addr} {a1:Int} {a2:Int} (S:St A N w w [oT a_0 a0] []) {k:Nat} {r:Tb × Bool × Int} (H:zcI.f k a0 a1 a2=some r) :
  Calls PP F_hilbert_Is #[.pointer a_0,.int .i64 a1,.int .i64 a2] w fun e w' => ∃ v,e = .returned v∧(v = .tuple #[.bool r.2.1,.int .i64 r.2.2]∧St A N w w' [oT a_0 r.1] []):=by
 unfold zcI.f at H
 refine zz (n:=20) fn_hilbert_Is rfl rfl zcc (zd (za (wd (zo rfl) (wd (zh rfl) (zb (zd (zd (za (wd (zk rfl) (wd (zg rfl) ?_))))))))))
 refine xD (C:=IC) (l:=[a2]) (vs:=[.int .i64 a2]) xG kI.zero rfl rfl (fun _ _=>rfl) zca rfl zca fun b2 w1 s3 hBw1 hw1=>?_
 replace S:=S.lit hBw1 hw1 zcc
 obtain ⟨r4,er4,H⟩ := zr H
 obtain ⟨B6,MB6,SB6,back⟩ := S.calln 0 ((.o 1 rfl (.s 0 rfl .nil)))
 refine zu (zq ke) zca (kn SB6 er4) ?_
 rintro _ w5 ⟨rfl,S2⟩
 replace S:=back _ _ _ _ S2 rfl
 clear back S2 SB6
 refine wd (zh rfl) (zb (zd (za (wd (zg rfl) (wd (xm rfl rfl) (zb ?_))))))
 refine zG rfl (fun hc7=>?_) (fun hc7=>?_)
 ·replace H:=if_t hc7 H
  refine zd (za (wd (zg rfl) (wd (zo rfl) (wd (zh rfl) (zb (zx ?_))))))
  refine ⟨_,(xn (zf rfl) (zf rfl)),?_⟩
  replace S:=S.arr [1] []
  obtain rfl:=zce H
  exact ⟨rfl,S⟩
 replace H:=if_f hc7 H
 refine zB (zd (za (wd (zk rfl) (wd (zg rfl) (wd (zg rfl) ?_)))))
 obtain ⟨r8,er8,H⟩ := zr H
 replace S:=S.front 1
 obtain ⟨B10,MB10,SB10,back⟩ := S.calln 1 ((.nil))
 refine zu (zq ca_hilbert_fits) zca (hilbert_fits_st SB10 er8) ?_
 rintro _ w9 ⟨rfl,S2⟩
 replace S:=back _ _ _ _ S2 rfl
 clear back S2 SB10
 refine wd (zo rfl) (wd (zh rfl) (zb (zx ?_)))
 refine ⟨_,(xn (zf rfl) (zf rfl)),?_⟩
 replace S:=S.arr [0] []
 obtain rfl:=zce H
 exact ⟨rfl,S⟩
end
section
open Go.RowKit
namespace Gw
section
variable {P:Program} {rd:Option Nat} {n:Nat} {dm:List Nat} {ops:Array Oper} {Q:Post} {f:Fr} {w:World} {rest:List Oper} {ty:TypeId} {pos:String} {af:Array Edge}
theorem wl_gturn2 {dd:Tmp} {op:Op} {j:Nat} {pol c t:Bool} {v:Value} {oj:Oper} {dj:Tmp} {g:FuncId} {args:Array Value} {R:World→Prop} (hj:ops[j]? = some oj) (hdj:oj.dst=some dj) (ht:f dj=gv c (.bool t)) (hdn:dj < n)
  (he:(c && (t == pol))=true→Enters P ⟨some dd,op,ty,pos,af,some (j,pol)⟩ f w g args) (hd:dd < n)
  (hc:(c && (t == pol))=true→Calls P g args w fun e w' => ∃ v',e = .returned v'∧(v'=v∧R w')) (h0:(c && (t == pol))=false→R w)
  (h : ∀ w',R w'→wl P rd n dm ops rest Q (upd f dd (gv (c && (t == pol)) v)) w'):wl P rd n dm ops (⟨some dd,op,ty,pos,af,some (j,pol)⟩ :: rest) Q f w:=fun a ha=>by
 refine wpListIn_step fun K hK=>?_
 rw [zaN ha rfl hj hdj ht hdn]
 cases hcc:(c && (t == pol)) with
 | true =>
  rw [if_pos rfl]
  refine op_wp ha (he hcc) zcc (show _∧_ from ⟨fun h=>(by cases h),?_⟩)
  refine CallsIn.mono (show CallsIn (fen rd) _ P g args w _ from callsIn_wide.2 (hc hcc)) ?_
  rintro e w' ⟨v',rfl,rfl,hx⟩
  have h2:=h w' hx
  rw [hcc,zw rfl] at h2
  exact hK _ _ (h2 _ (ha.put hd _))
 | false =>
  rw [if_neg zcc]
  have h2:=h w (h0 hcc)
  rw [hcc,gv_f] at h2
  exact ⟨fun _ _=>trivial,hK _ _ (h2 _ (ha.put hd _))⟩
theorem wl_gturn {dd:Tmp} {op:Op} {j:Nat} {pol t:Bool} {v:Value} {oj:Oper} {dj:Tmp} {g:FuncId} {args:Array Value} {R:World→Prop} (hj:ops[j]? = some oj) (hdj:oj.dst=some dj) (ht:f dj = .bool t) (hdn:dj < n)
  (he:(t == pol)=true→Enters P ⟨some dd,op,ty,pos,af,some (j,pol)⟩ f w g args) (hd:dd < n)
  (hc:(t == pol)=true→Calls P g args w fun e w' => ∃ v',e = .returned v'∧(v'=v∧R w')) (h0:(t == pol)=false→R w)
  (h : ∀ w',R w'→wl P rd n dm ops rest Q (upd f dd (gv (t == pol) v)) w'):wl P rd n dm ops (⟨some dd,op,ty,pos,af,some (j,pol)⟩ :: rest) Q f w :=
 wl_gturn2 (c:=true) hj hdj (by rw [ht]; exact gv_t _) hdn he hd hc h0 h
end
end Gw
end
section
open Gw Go.RowKit
set_option maxHeartbeats 4000000
set_option maxRecDepth 20000
variable {A:Nat→Prop} {N:Oth} {w:World}
theorem hilbert_right_st {a0:Tb} {a_0:Option Addr} {a1:List (Int × Int)} {m_1:Nat} {a2:List Ln} {s_2:SlV} {a3:Int} (S:St A N w w [oT a_0 a0] [oMI m_1 a1,fS 4 Ln.C s_2 a2]) {k:Nat} {r:Tb × Bool} (H:zcJ.f k a0 a1 a2 a3=some r) :
  Calls PP F_hilbert_right #[.pointer a_0,.map (some m_1),s_2.v,.int .i64 a3] w fun e w' => ∃ v,e = .returned v∧(v = .bool r.2∧St A N w w' [oT a_0 r.1] []):=by
 unfold zcJ.f at H
 refine zz (n:=86) fn_hilbert_right rfl rfl zcc (zd (za (wd (zo rfl) (zb (zd (za (wd (zA rfl) (wd (zg rfl) ?_))))))))
 obtain ⟨hi1,H⟩ := xo H
 refine wd (xa zW rfl rfl (S.rd 1) (zO hi1).1 (zO hi1).2) (wd (zm zaA rfl ((S.rd 1).at (ym Ln.z (zO hi1))) (Ln.len _)) ?_)
 refine xd ze_Ln zca fun b3 w2 hw2=>?_
 replace S:=S.new hw2
 refine zI zaA rfl rfl (S.blk 0) (Ln.len _) (by rw [Ln.len]; decide) (Ln.one _) (zT (Ln.len _)) fun w4 B hw4 zw4=>?_
 replace S:=S.store 0 B hw4
 clear B
 refine zb (zd (zd (za (wd (ze jR rfl (o':=0) rfl) (wd (zl y4 rfl ((S.blk 0).cell (Ln.get_kind _))) (wd (xm rfl rfl) (zb ?_)))))))
 refine zG rfl (fun hc5=>?_) (fun hc5=>?_)
 ·replace H:=if_t hc5 H
  refine zd (za (wd (ze jR rfl (o':=0) rfl) (wd (zl y4 rfl ((S.blk 0).cell (Ln.get_kind _))) (wd (zU rfl rfl) (wd (zL rfl) ?_)))))
  refine wg (fun hg=>does_mv_m rfl) ?_
  refine wg (fun hg=>ze yP rfl (o':=1) rfl) ?_
  refine wg (fun hg=>zl zR (zw hg) ((S.blk 0).cell (Ln.get_form _))) ?_
  refine wg (fun hg=>does_lookup1 (C:=(Value.int .i64)) (D:=(Value.int .i64)) (key:=(at_ Ln.z a2 a3).form) (zv:=0) un_M_int_int key_int zv_int (zw hg) (zw hg) (S.mapZ 0)) ?_
  refine wg (fun hg=>kU (zw hg) rfl) (wd (xt rfl (fun hp=>(zw (xE hp)))) (wd (zL rfl) ?_))
  refine wg (fun hg=>zk rfl) ?_
  refine wg (fun hg=>ze jR rfl (o':=0) rfl) ?_
  refine wg (fun hg=>zl y4 (zw hg) ((S.blk 0).cell (Ln.get_kind _))) ?_
  refine wg (fun hg=>ze yP rfl (o':=1) rfl) ?_
  refine wg (fun hg=>zl zR (zw hg) ((S.blk 0).cell (Ln.get_form _))) ?_
  obtain ⟨r6,er6,H⟩ := zr H
  replace S:=S.front 1
  obtain ⟨B8,MB8,SB8,back⟩ := S.calln 1 ((.nil))
  refine wl_gturn (R:=fun W=>St A N w W [oT a_0 r6.1,oB b3 T_Ln (Ln.C (at_ Ln.z a2 a3))] [oMI m_1 a1,fS 4 Ln.C s_2 a2]) (j:=10) (pol:=false) rfl rfl rfl zca (fun hg=>zK ca_hilbert_fits (zM (zw hg) (zM (zw hg) (zM (zw hg) rfl)))) zca (fun hg=>zaX (hilbert_fits_st SB8 (if_t (by simpa using hg) er6)) fun _ _ ⟨hv,S2⟩ => ⟨hv,back _ _ _ _ S2 rfl⟩) (fun hg=>by obtain rfl:=zce (if_f (by simpa using hg) er6); exact S) fun w7 S2=>?_
  replace S:St A N w w7 [oT a_0 r6.1,oB b3 T_Ln (Ln.C (at_ Ln.z a2 a3))] [oMI m_1 a1,fS 4 Ln.C s_2 a2]:=S2
  clear back S2 SB8
  refine wd (xO rfl (fun hp=>(zw (xE hp)))) (wd (zo rfl) (zb (zd (za (wd (ze zbu rfl (o':=2) rfl) (wd (zl zR rfl ((S.blk 1).cell (Ln.get_a _))) (wd (zU rfl rfl) (wd (zL rfl) ?_))))))))
  refine wg (fun hg=>ze kV rfl (o':=3) rfl) ?_
  refine wg (fun hg=>zl zR (zw hg) ((S.blk 1).cell (Ln.get_b _))) ?_
  refine wg (fun hg=>zU (zw hg) rfl) (wd (xt rfl (fun hp=>(zw (xE hp)))) (wd (zL rfl) ?_))
  refine wg (fun hg=>zL rfl) (wd (xt rfl (fun hp=>(zw (xE hp)))) (wd (zo rfl) (zb (zx ?_))))
  refine ⟨_,(zS (zf rfl)),?_⟩
  replace S:=S.arr [0] []
  obtain rfl:=zce H
  exact ⟨rfl,S⟩
 replace H:=if_f hc5 H
 refine zB (zd (zd (za (wd (ze zbu rfl (o':=2) rfl) (wd (zl zR rfl ((S.blk 0).cell (Ln.get_a _))) (wd (ze kV rfl (o':=3) rfl) (wd (zl zR rfl ((S.blk 0).cell (Ln.get_b _))) (wd (does_min rfl rfl) (wd (xQ rfl rfl) (wd (zL rfl) ?_))))))))))
 refine wg (fun hg=>ze zbu rfl (o':=2) rfl) ?_
 refine wg (fun hg=>zl zR (zw hg) ((S.blk 0).cell (Ln.get_a _))) ?_
 refine wg (fun hg=>ze kV rfl (o':=3) rfl) ?_
 refine wg (fun hg=>zl zR (zw hg) ((S.blk 0).cell (Ln.get_b _))) ?_
 refine wg (fun hg=>does_max (zw hg) (zw hg)) ?_
 refine wg (fun hg=>zg rfl) ?_
 refine wg (fun hg=>uc (zw hg) (zw hg)) (wd (xO rfl (fun hp=>(zw (xE hp)))) (zb ?_))
 refine zG rfl (fun hc9=>?_) (fun hc9=>?_)
 ·replace H:=if_t hc9 H
  refine zd (za (wd (zo rfl) (zb (zx ?_))))
  refine ⟨_,(zS (zf rfl)),?_⟩
  replace S:=S.arr [1] []
  obtain rfl:=zce H
  exact ⟨rfl,S⟩
 replace H:=if_f hc9 H
 refine zB (zd (za (wd (zk rfl) (wd (zA rfl) (wd (ze zbu rfl (o':=2) rfl) (wd (zl zR rfl ((S.blk 0).cell (Ln.get_a _))) ?_))))))
 obtain ⟨hi10,H⟩ := xo H
 refine wd (xa zW rfl rfl (S.rd 1) (zO hi10).1 (zO hi10).2) (wd (ze yP rfl (o':=_) rfl) (wd (zl zR rfl (((S.rd 1).at (ym Ln.z (zO hi10))).get (Ln.get_form _))) ?_))
 obtain ⟨r11,er11,H⟩ := zr H
 obtain ⟨B13,MB13,SB13,back⟩ := S.calln 0 ((.o 1 rfl .nil))
 refine zu (zq yv) zca (yx SB13 er11) ?_
 rintro _ w12 ⟨rfl,S2⟩
 replace S:=back _ _ _ _ S2 rfl
 clear back S2 SB13
 refine wd (zV rfl) (wd (zt rfl rfl) (wd (zt rfl rfl) ?_))
 refine xd uD zca fun b15 w14 hw14=>?_
 replace S:=S.new hw14
 refine zI x7 rfl rfl (S.blk 0) (Nd.len _) (by rw [Nd.len]; decide) (Nd.one _) (zT (Nd.len _)) fun w16 B hw16 zw16=>?_
 replace S:=S.store 0 B hw16
 clear B
 refine wd (zo rfl) (zb (zd ?_))
 refine yz 10 (Ext w16) hmix zcd zcd (Ext.drawn _) (zy (fun v K=>zm x7 rfl (((S.ext K).blk 0).all _ (Nd.len _)) (Nd.len _)) (zy (fun v K=>zA rfl) (zy (fun v K=>ze kV rfl (o':=3) rfl) (zy (fun v K=>zl zR rfl (((S.ext K).blk 1).cell (Ln.get_b _))) ?_))))
 obtain ⟨hi17,H⟩ := xo H
 refine zy (fun v K=>xa zW rfl rfl ((S.ext K).rd 1) (zO hi17).1 (zO hi17).2) (zy (fun v K=>ze yP rfl (o':=_) rfl) (zy (fun v K=>zl zR rfl ((((S.ext K).rd 1).at (ym Ln.z (zO hi17))).get (Ln.get_form _))) (zy (fun v K=>ze yP rfl (o':=1) rfl) (zy (fun v K=>zl zR rfl (((S.ext K).blk 1).cell (Ln.get_form _))) (zy (fun v K=>yi bu_Nd (Bld.one rfl rfl (by rw [Nd.len]; decide) (Nd.set_kind _ _) (Bld.one rfl rfl (by rw [Nd.len]; decide) (Nd.set_l _ _) (Bld.one rfl rfl (by rw [Nd.len]; decide) (Nd.set_r _ _) Bld.nil)))) ?_)))))
 refine vD fun w18 K=>?_
 replace S:=S.ext K
 clear K
 refine wd (does_eqv eg_Nd (eq_Nd _ _) zca rfl rfl) (wd (zo rfl) (zb (zx ?_)))
 refine ⟨_,(zS (zf rfl)),?_⟩
 replace S:=S.arr [2] []
 obtain rfl:=zce H
 exact ⟨rfl,S⟩
theorem jm {a0:Tb} {a_0:Option Addr} {a1:List Int} {s_1:SlV} {a2:List Ln} {s_2:SlV} (S:St A N w w [oT a_0 a0] [fS 1 IC s_1 a1,fS 4 Ln.C s_2 a2]) {k:Nat} {r:Tb × Int} (H:zcK.f k a0 a1 a2=some r) :
  Calls PP F_hilbert_Check #[.pointer a_0,s_1.v,s_2.v] w fun e w' => ∃ v,e = .returned v∧(v = .int .i64 r.2∧St A N w w' [oT a_0 r.1] []):=by
 unfold zcK.f at H
 refine zz (n:=63) fn_hilbert_Check rfl rfl zcc (zd (za (wd (zh rfl) (zb (zd (zd (za (wd (zk rfl) (wd (zA rfl) ?_)))))))))
 obtain ⟨r1,er1,H⟩ := zr H
 obtain ⟨B3,MB3,SB3,back⟩ := S.calln 0 ((.o 0 rfl (.z 0 rfl .nil)))
 refine zu (zq ke) zca (kn SB3 er1) ?_
 rintro _ w2 ⟨rfl,S2⟩
 replace S:=back _ _ _ _ S2 rfl
 clear back S2 SB3
 refine wd (zh rfl) (zb (zd (za (wd (zg rfl) (wd (xm rfl rfl) (zb ?_))))))
 refine zG rfl (fun hc4=>?_) (fun hc4=>?_)
 ·replace H:=if_t hc4 H
  refine zd (za (wd (zg rfl) (wd (zh rfl) (zb (zx ?_)))))
  refine ⟨_,(zS (zf rfl)),?_⟩
  replace S:=S.arr [0] []
  obtain rfl:=zce H
  exact ⟨rfl,S⟩
 replace H:=if_f hc4 H
 refine zB (zd (zd (za (wd (zA rfl) (wd (xg zW rfl (S.rd 1)) (wd (zg rfl) (zb ?_)))))))
 obtain ⟨o5,e5,Ho5⟩ := zr H
 clear H
 refine x6 [6,9,10,23,24,25,26,27,28,29,30,31,32,33,34,35] (fun fr W => ∃ s5:Unit,o5 = .inl s5∧St A N w W [oT a_0 a0] [fS 1 IC s_1 a1,fS 4 Ln.C s_2 a2]) ?_ ?_
 ·refine zP ?_
  refine xY (α:=Nat × Int × Unit) [6,9,10,23,24,25,26,27,28,29,30,31,32,33,34,35] (fun x fr W=>(x.1:Int)=(a2.length:Int) - x.2.1∧0 ≤ x.2.1∧forN (fun i s=>zcK.b0 a0 a2 i) x.1 x.2.1 x.2.2=some o5∧fr 23 = .int .i64 x.2.1∧St A N w W [oT a_0 a0] [fS 1 IC s_1 a1,fS 4 Ln.C s_2 a2]) (fun x=>x.1) (((a2.length:Int) - 0).toNat,0,()) ⟨(by dsimp only; have hle:=Int.natCast_nonneg (a2.length); omega),(Int.le_refl _),(by dsimp only; exact e5),rfl,S⟩ ?_
  rintro ⟨m5,i5,_⟩ g5 u5 ⟨hm5,hl5,e5,q5_i,S⟩
  try dsimp only at hm5
  try dsimp only at hl5
  try dsimp only at e5
  try dsimp only at S
  try dsimp only at q5_i
  refine zd (za (wd (xQ q5_i rfl) (zb (zd ?_))))
  refine zG rfl (fun hc6=>?_) (fun hc6=>?_)
  rotate_left
  ·refine yn ?_
   have hge:(a2.length:Int) ≤ i5:=Int.not_lt.1 (of_decide_eq_false hc6)
   obtain rfl:m5=0:=by omega
   replace e5:=zaZ e5
   exact ⟨rfl,((Dif.self _ _ _).upd rfl _),(),e5,S⟩
  refine zB ?_
  have hlt5:i5 < (a2.length:Int):=of_decide_eq_true hc6
  obtain ⟨m5,rfl⟩ : ∃ m,m5=m + 1:=⟨m5 - 1,by omega⟩
  obtain ⟨q5,H,e5⟩ := zba e5
  unfold zcK.b0 at H
  try dsimp only at H
  have hb5:=(S.len 1)
  refine zd ?_
  refine zP (zd (za (wd (xa zW rfl q5_i (S.rd 1) (And.intro (show 0 ≤ i5 by omega) (show i5 < (a2.length:Int) from hlt5)).1 (And.intro (show 0 ≤ i5 by omega) (show i5 < (a2.length:Int) from hlt5)).2) (wd (zm zaA rfl ((S.rd 1).at (ym Ln.z (And.intro (show 0 ≤ i5 by omega) (show i5 < (a2.length:Int) from hlt5)))) (Ln.len _)) ?_))))
  refine xd ze_Ln zca fun b9 w8 hw8=>?_
  replace S:=S.new hw8
  refine zI zaA rfl rfl (S.blk 0) (Ln.len _) (by rw [Ln.len]; decide) (Ln.one _) (zT (Ln.len _)) fun w10 B hw10 zw10=>?_
  replace S:=S.store 0 B hw10
  clear B
  refine zb (zd (za (wd (zk rfl) (wd (ze yP rfl (o':=1) rfl) (wd (zl zR rfl ((S.blk 0).cell (Ln.get_form _))) ?_)))))
  refine xD (C:=IC) (l:=[(at_ Ln.z a2 i5).form]) (vs:=[.int .i64 ((at_ Ln.z a2 i5).form)]) xG kI.zero rfl rfl (fun _ _=>rfl) zca rfl zca fun b12 w11 s13 hBw11 hw11=>?_
  replace S:=S.lit hBw11 hw11 zcc
  obtain ⟨r14,er14,H⟩ := zr H
  obtain ⟨B16,MB16,SB16,back⟩ := S.calln 0 ((.o 2 rfl (.s 0 rfl .nil)))
  refine zu (zq ke) zca (kn SB16 er14) ?_
  rintro _ w15 ⟨rfl,S2⟩
  replace S:=back _ _ _ _ S2 rfl
  clear back S2 SB16
  refine wd (zh rfl) (zb (zd (za (wd (zg rfl) (wd (xm rfl rfl) (zb ?_))))))
  refine zG rfl (fun hc17=>?_) (fun hc17=>?_)
  ·replace H:=if_t hc17 H
   refine zd (za (wd (zg rfl) (wd (zh rfl) (zb (zx ?_)))))
   refine ⟨_,(zS (zf rfl)),?_⟩
   replace S:=S.arr [2] []
   obtain rfl:=zce H
   obtain rfl:=e5
   obtain rfl:=jX Ho5
   exact ⟨rfl,S⟩
  replace H:=if_f hc17 H
  refine zB (za (wd (xK q5_i rfl (c:=i5 + 1) rfl zcb zcb) (wd (zg rfl) (zb ?_))))
  replace S:=S.arr [2] [0,1]
  obtain rfl:=zce H
  exact ⟨rfl,(by repeat first | exact Dif.refl _ _ | exact Dif.self _ _ _ | refine Dif.upd ?_ rfl _ | refine Dif.mask ?_ rfl _),(m5,i5 + 1,()),⟨(by dsimp only; omega),(by dsimp only; omega),e5,rfl,S⟩,by dsimp only; omega⟩
 rintro g18 u19 ⟨s5,rfl,S⟩
 have H:=Ho5
 dsimp only [aft] at H
 refine zd (za ?_)
 refine wl_makeMap (C:=(Value.int .i64)) (D:=(Value.int .i64)) zca fun m20 w21 hmw21 hxw21 hlw21=>?_
 replace S:=S.newM hmw21 hxw21 hlw21
 refine wd (does_as_m rfl) (zb (zd (zd (za (wd (zA rfl) (wd (xg xG rfl (S.rd 0)) (wd (zg rfl) (zb ?_))))))))
 obtain ⟨o22,e22,Ho22⟩ := zr H
 clear H
 refine x6 [13,39,40,41,42,43,44,45,46,47] (fun fr W=>St A N w W [oMI m20 o22,oT a_0 a0] [fS 1 IC s_1 a1,fS 4 Ln.C s_2 a2]) ?_ ?_
 ·refine zP ?_
  refine xY (α:=Nat × Int × (List (Int × Int))) [13,39,40,41,42,43,44,45,46,47] (fun x fr W=>(x.1:Int)=(a1.length:Int) - x.2.1∧0 ≤ x.2.1∧forS (fun i s=>zcK.b1 a1 i s) x.1 x.2.1 x.2.2=some o22∧fr 39 = .int .i64 x.2.1∧St A N w W [oMI m20 (x.2.2),oT a_0 a0] [fS 1 IC s_1 a1,fS 4 Ln.C s_2 a2]) (fun x=>x.1) (((a1.length:Int) - 0).toNat,0,([]:List (Int × Int))) ⟨(by dsimp only; have hle:=Int.natCast_nonneg (a1.length); omega),(Int.le_refl _),(by dsimp only; exact e22),rfl,S⟩ ?_
  rintro ⟨m22,i22,x22_0⟩ g22 u22 ⟨hm22,hl22,e22,q22_i,S⟩
  try dsimp only at hm22
  try dsimp only at hl22
  try dsimp only at e22
  try dsimp only at S
  try dsimp only at q22_i
  refine zd (za (wd (xQ q22_i rfl) (zb (zd ?_))))
  refine zG rfl (fun hc23=>?_) (fun hc23=>?_)
  rotate_left
  ·refine yn ?_
   have hge:(a1.length:Int) ≤ i22:=Int.not_lt.1 (of_decide_eq_false hc23)
   obtain rfl:m22=0:=by omega
   replace e22:=forS_0 e22
   obtain rfl:=e22
   exact ⟨rfl,((Dif.self _ _ _).upd rfl _),S⟩
  refine zB ?_
  have hlt22:i22 < (a1.length:Int):=of_decide_eq_true hc23
  obtain ⟨m22,rfl⟩ : ∃ m,m22=m + 1:=⟨m22 - 1,by omega⟩
  obtain ⟨q22,H,e22⟩ := forS_s e22
  unfold zcK.b1 at H
  try dsimp only at H
  have hb22:=(S.len 0)
  refine zd ?_
  refine zP (zd (za (wd (xa xG rfl q22_i (S.rd 0) (And.intro (show 0 ≤ i22 by omega) (show i22 < (a1.length:Int) from hlt22)).1 (And.intro (show 0 ≤ i22 by omega) (show i22 < (a1.length:Int) from hlt22)).2) (wd (zl zR rfl ((S.rd 0).one (ym (0:Int) (And.intro (show 0 ≤ i22 by omega) (show i22 < (a1.length:Int) from hlt22))) rfl)) (wd (zh rfl) (zb (za (wd (does_mv_m rfl) (wd (zg rfl) (wd (does_lookup1 (C:=(Value.int .i64)) (D:=(Value.int .i64)) (key:=at_ (0:Int) a1 i22) (zv:=0) un_M_int_int key_int zv_int rfl rfl (S.map 0)) (wd (ki rfl rfl) ?_)))))))))))
  refine zaG (C:=(Value.int .i64)) (D:=(Value.int .i64)) (key:=at_ (0:Int) a1 i22) (v:=IntKind.i64.wrap (((Gw.look (at_ (0:Int) a1 i22) x22_0).getD 0) + 1)) un_M_int_int key_int rfl rfl rfl (S.map 0) fun w25 hmw25 hcw25 hsw25=>?_
  replace S:=S.mapSet 0 ⟨hmw25,hcw25,hsw25⟩
  refine zb (za (wd (xK q22_i rfl (c:=i22 + 1) rfl zcb zcb) (wd (zg rfl) (zb ?_))))
  obtain rfl:=zce H
  exact ⟨rfl,(((((((((((Dif.self _ _ _).upd rfl _).upd rfl _).upd rfl _).upd rfl _).upd rfl _).upd rfl _).upd rfl _).upd rfl _).upd rfl _).upd rfl _),(m22,i22 + 1,Gw.ins (at_ (0:Int) a1 i22) (IntKind.i64.wrap (((Gw.look (at_ (0:Int) a1 i22) x22_0).getD 0) + 1)) x22_0),⟨(by dsimp only; omega),(by dsimp only; omega),e22,rfl,S⟩,by dsimp only; omega⟩
 rintro g26 u27 S
 have H:=Ho22
 refine zd (zd (za (wd (zA rfl) (wd (xg zW rfl (S.rd 1)) (wd (zg rfl) (zb ?_))))))
 obtain ⟨o28,e28,Ho28⟩ := zr H
 clear H
 refine x6 [6,14,50,51,52,53,54,55,56,57,58,59] (fun fr W => ∃ s28:Tb,o28 = .inl s28∧St A N w W [oMI m20 o22,oT a_0 s28] [fS 1 IC s_1 a1,fS 4 Ln.C s_2 a2]) ?_ ?_
 ·refine zP ?_
  refine xY (α:=Nat × Int × Tb) [6,14,50,51,52,53,54,55,56,57,58,59] (fun x fr W=>(x.1:Int)=(a2.length:Int) - x.2.1∧0 ≤ x.2.1∧forN (fun i s=>zcK.b2 k o22 a2 i s) x.1 x.2.1 x.2.2=some o28∧fr 50 = .int .i64 x.2.1∧St A N w W [oMI m20 o22,oT a_0 (x.2.2)] [fS 1 IC s_1 a1,fS 4 Ln.C s_2 a2]) (fun x=>x.1) (((a2.length:Int) - 0).toNat,0,a0) ⟨(by dsimp only; have hle:=Int.natCast_nonneg (a2.length); omega),(Int.le_refl _),(by dsimp only; exact e28),rfl,S⟩ ?_
  rintro ⟨m28,i28,x28_0⟩ g28 u28 ⟨hm28,hl28,e28,q28_i,S⟩
  try dsimp only at hm28
  try dsimp only at hl28
  try dsimp only at e28
  try dsimp only at S
  try dsimp only at q28_i
  refine zd (za (wd (xQ q28_i rfl) (zb (zd ?_))))
  refine zG rfl (fun hc29=>?_) (fun hc29=>?_)
  rotate_left
  ·refine yn ?_
   have hge:(a2.length:Int) ≤ i28:=Int.not_lt.1 (of_decide_eq_false hc29)
   obtain rfl:m28=0:=by omega
   replace e28:=zaZ e28
   exact ⟨rfl,((Dif.self _ _ _).upd rfl _),x28_0,e28,S⟩
  refine zB ?_
  have hlt28:i28 < (a2.length:Int):=of_decide_eq_true hc29
  obtain ⟨m28,rfl⟩ : ∃ m,m28=m + 1:=⟨m28 - 1,by omega⟩
  obtain ⟨q28,H,e28⟩ := zba e28
  unfold zcK.b2 at H
  try dsimp only at H
  have hb28:=(S.len 1)
  refine zd ?_
  refine zP (zd (za (wd (zg q28_i) (wd (zh rfl) (zb (zd (za (wd (zk rfl) (wd (does_mv_m rfl) (wd (zA rfl) (wd (zg rfl) ?_)))))))))))
  obtain ⟨r30,er30,H⟩ := zr H
  replace S:=S.front 1
  obtain ⟨B32,MB32,SB32,back⟩ := S.calln 1 ((.o 0 rfl (.z 1 rfl .nil)))
  refine zu (zq ca_hilbert_right) zca (hilbert_right_st SB32 er30) ?_
  rintro _ w31 ⟨rfl,S2⟩
  replace S:=back _ _ _ _ S2 rfl
  clear back S2 SB32
  refine wd (xk rfl) (zb ?_)
  refine zG rfl (fun hc33=>?_) (fun hc33=>?_)
  ·replace H:=if_t hc33 H
   refine zd (za (wd (zh rfl) (zb (zx ?_))))
   refine ⟨_,(zS (zf rfl)),?_⟩
   replace S:=S.arr [0] []
   obtain rfl:=zce H
   obtain rfl:=e28
   obtain rfl:=jX Ho28
   exact ⟨rfl,S⟩
  replace H:=if_f hc33 H
  refine zB (za (wd (xK q28_i rfl (c:=i28 + 1) rfl zcb zcb) (wd (zg rfl) (zb ?_))))
  replace S:=S.arr [1,0] [0,1]
  obtain rfl:=zce H
  exact ⟨rfl,((((((((((((Dif.self _ _ _).upd rfl _).upd rfl _).upd rfl _).upd rfl _).upd rfl _).upd rfl _).upd rfl _).upd rfl _).upd rfl _).upd rfl _).upd rfl _),(m28,i28 + 1,r30.1),⟨(by dsimp only; omega),(by dsimp only; omega),e28,rfl,S⟩,by dsimp only; omega⟩
 rintro g34 u35 ⟨s28,rfl,S⟩
 have H:=Ho28
 dsimp only [aft] at H
 refine zd (zd (za (wd (zA rfl) (wd (xg zW rfl (S.rd 1)) (wd (zU rfl rfl) (zb ?_))))))
 refine zG rfl (fun hc36=>?_) (fun hc36=>?_)
 ·replace H:=if_t hc36 H
  refine zd (za (wd (zh rfl) (zb (zx ?_))))
  refine ⟨_,(zS (zf rfl)),?_⟩
  replace S:=S.arr [1] []
  obtain rfl:=zce H
  exact ⟨rfl,S⟩
 replace H:=if_f hc36 H
 refine zB (zd (za (wd (zh rfl) (zb (zx ?_)))))
 refine ⟨_,(zS (zf rfl)),?_⟩
 replace S:=S.arr [1] []
 obtain rfl:=zce H
 exact ⟨rfl,S⟩
theorem zbU {a0:Tb} {a_0:Option Addr} {a1:List Int} {s_1:SlV} {a2:List Ln} {s_2:SlV} (S:St A N w w [oT a_0 a0] [fS 1 IC s_1 a1,fS 4 Ln.C s_2 a2]) {k:Nat} {r:Tb × Int × Int} (H:zcL.f k a0 a1 a2=some r) :
  Calls PP F_hilbert_Tells #[.pointer a_0,s_1.v,s_2.v] w fun e w' => ∃ v,e = .returned v∧(v = .tuple #[.int .i64 r.2.1,.int .i64 r.2.2]∧St A N w w' [oT a_0 r.1] []):=by
 unfold zcL.f at H
 refine zz (n:=23) fn_hilbert_Tells rfl rfl zcc (zd (za (wd (zh rfl) (wd (zh rfl) (zb (zd (zd (za (wd (zk rfl) (wd (zA rfl) (wd (zA rfl) ?_)))))))))))
 obtain ⟨r1,er1,H⟩ := zr H
 obtain ⟨B3,MB3,SB3,back⟩ := S.calln 1 ((.z 0 rfl (.z 1 rfl .nil)))
 refine zu (zq jj) zca (jm SB3 er1) ?_
 rintro _ w2 ⟨rfl,S2⟩
 replace S:=back _ _ _ _ S2 rfl
 clear back S2 SB3
 refine wd (zh rfl) (zb (zd (za (wd (zg rfl) (wd (xm rfl rfl) (zb ?_))))))
 refine zG rfl (fun hc4=>?_) (fun hc4=>?_)
 ·replace H:=if_t hc4 H
  refine zd (za (wd (zg rfl) (wd (zh rfl) (wd (zh rfl) (zb (zx ?_))))))
  refine ⟨_,(xn (zf rfl) (zf rfl)),?_⟩
  replace S:=S.arr [0] []
  obtain rfl:=zce H
  exact ⟨rfl,S⟩
 replace H:=if_f hc4 H
 refine zB (zd (za (wd (zA rfl) (wd (zA rfl) (wd (xg zW rfl (S.rd 1)) (wd (jD rfl rfl) ?_))))))
 obtain ⟨hi5,H⟩ := xo H
 refine wd (xa zW rfl rfl (S.rd 1) (zO hi5).1 (zO hi5).2) (wd (ze yP rfl (o':=_) rfl) (wd (zl zR rfl (((S.rd 1).at (ym Ln.z (zO hi5))).get (Ln.get_form _))) (wd (zh rfl) (wd (zh rfl) (zb (zx ?_))))))
 refine ⟨_,(xn (zf rfl) (zf rfl)),?_⟩
 replace S:=S.arr [0] []
 obtain rfl:=zce H
 exact ⟨rfl,S⟩
theorem hilbert_maker_form_st {a0:PMaker} {a_0:Option Addr} {g_0_1:Option Addr} {a1:Int} {a2:Int} {a3:Int} (S:St A N w w [oK a_0 g_0_1 a0] []) {r:PMaker × Int} (H:zcM.f a0 a1 a2 a3=some r) :
  Calls PP zaa #[.pointer a_0,.int .i64 a1,.int .i64 a2,.int .i64 a3] w fun e w' => ∃ v,e = .returned v∧(v = .int .i64 r.2∧St A N w w' [oK a_0 g_0_1 r.1] []):=by
 unfold zcM.f at H
 refine zz (n:=33) fn_hilbert_maker_form rfl rfl zcc (zd (za (wd (zh rfl) (zb (zd (zd (za (wd (zk rfl) ?_))))))))
 obtain ⟨p1,s3,hp2,S⟩ := S.open_oK 0
 replace S:=S
 refine wd (zC (congrArg Value.pointer hp2)) (wd (ze x9 rfl (o':=2) rfl) (wd (zl xX rfl ((S.blk 0).cell (Maker.get_bad _))) (wd (xm rfl rfl) ?_)))
 replace S:=((S.front 2).front 2).front 2
 replace S:=S.shut_oK hp2
 refine zb ?_
 refine zG rfl (fun hc4=>?_) (fun hc4=>?_)
 ·replace H:=if_t hc4 H
  refine zd (za (wd (zh rfl) (zb (zx ?_))))
  refine ⟨_,(zS (zf rfl)),?_⟩
  obtain rfl:=zce H
  exact ⟨rfl,S⟩
 replace H:=if_f hc4 H
 refine zB (zd (za (wd (zk rfl) ?_)))
 obtain ⟨p5,s7,hp6,S⟩ := S.open_oK 0
 replace S:=S
 refine wd (zC (congrArg Value.pointer hp6)) (wd (ze jb rfl (o':=0) rfl) (wd (zl xA rfl ((S.blk 0).cell (Maker.get_t _))) (wd (zg rfl) (wd (zg rfl) (wd (zg rfl) (wd (yi bu_Nd (Bld.one rfl rfl (by rw [Nd.len]; decide) (Nd.set_kind _ _) (Bld.one rfl rfl (by rw [Nd.len]; decide) (Nd.set_l _ _) (Bld.one rfl rfl (by rw [Nd.len]; decide) (Nd.set_r _ _) Bld.nil)))) ?_))))))
 obtain ⟨r8,er8,H⟩ := zr H
 replace S:=S.front 1
 obtain ⟨B10,MB10,SB10,back⟩ := S.calln 1 ((.nil))
 refine zu (zq vQ) zca (je SB10 er8) ?_
 rintro _ w9 ⟨rfl,S2⟩
 replace S:=back _ _ _ _ S2 rfl
 clear back S2 SB10
 refine wd (zV rfl) (wd (zt rfl rfl) (wd (zt rfl rfl) (wd (zh rfl) (wd (zh rfl) ?_))))
 replace S:=((S.front 2).front 1).front 2
 replace S:=S.shut_oK hp6
 refine zb (zd (za (wd (zk rfl) (wd (zg rfl) ?_))))
 obtain ⟨p11,s13,hp12,S⟩ := S.open_oK 0
 replace S:=S
 refine wd (zC (congrArg Value.pointer hp12)) (wd (ze x9 rfl (o':=2) rfl) ?_)
 refine yI xX rfl rfl (S.blk 0) (by rw [Maker.len]; decide) rfl (Maker.set_bad _ _) fun w14 B hw14 zw14=>?_
 replace S:=S.store 0 B hw14
 clear B
 replace S:=((S.front 2).front 2).front 2
 replace S:=S.shut_oK hp12
 refine zb (zd (za (wd (zg rfl) (wd (zh rfl) (zb (zx ?_))))))
 refine ⟨_,(zS (zf rfl)),?_⟩
 obtain rfl:=zce H
 exact ⟨rfl,S⟩
theorem z7 {a0:PMaker} {a_0:Option Addr} {g_0_1:Option Addr} {a1:Int} {a2:Int} (S:St A N w w [oK a_0 g_0_1 a0] []) {r:PMaker × Int} (H:zcN.f a0 a1 a2=some r) :
  Calls PP zaz #[.pointer a_0,.int .i64 a1,.int .i64 a2] w fun e w' => ∃ v,e = .returned v∧(v = .int .i64 r.2∧St A N w w' [oK a_0 g_0_1 r.1] []):=by
 unfold zcN.f at H
 refine zz (n:=11) fn_hilbert_maker_imp rfl rfl zcc (zd (za (wd (zh rfl) (zb (zd (za (wd (zk rfl) (wd (zg rfl) (wd (zg rfl) ?_)))))))))
 obtain ⟨r1,er1,H⟩ := zr H
 obtain ⟨B3,MB3,SB3,back⟩ := S.calln 1 ((.nil))
 refine zu (zq ca_hilbert_maker_form) zca (hilbert_maker_form_st SB3 er1) ?_
 rintro _ w2 ⟨rfl,S2⟩
 replace S:=back _ _ _ _ S2 rfl
 clear back S2 SB3
 refine wd (zh rfl) (zb (zx ?_))
 refine ⟨_,(zS (zf rfl)),?_⟩
 obtain rfl:=zce H
 exact ⟨rfl,S⟩
theorem vd {a0:PMaker} {a_0:Option Addr} {g_0_1:Option Addr} {a1:Ln} (S:St A N w w [oK a_0 g_0_1 a0] []) {r:PMaker × Int} (H:zcO.f a0 a1=some r) :
  Calls PP zab #[.pointer a_0,.agg (Ln.C a1).toArray] w fun e w' => ∃ v,e = .returned v∧(v = .int .i64 r.2∧St A N w w' [oK a_0 g_0_1 r.1] []):=by
 unfold zcO.f at H
 refine zz (n:=42) fn_hilbert_maker_line rfl rfl zcc (zd (za ?_))
 refine zX rfl zca fun b2 w1 hw1=>?_
 replace S:=S.new hw1
 refine wd (zh rfl) (zb (zd (zd (za (wd (zk rfl) ?_)))))
 obtain ⟨p3,s5,hp4,S⟩ := S.open_oK 1
 replace S:=S
 refine wd (zC (congrArg Value.pointer hp4)) (wd (ze x9 rfl (o':=2) rfl) (wd (zl xX rfl ((S.blk 0).cell (Maker.get_bad _))) (wd (zU rfl rfl) (wd (zL rfl) ?_))))
 refine wg (fun hg=>zk rfl) ?_
 refine wg (fun hg=>zC (((zw hg):_=Value.pointer a_0).trans (congrArg Value.pointer hp4))) ?_
 refine wg (fun hg=>ze vW (zw hg) (o':=1) rfl) ?_
 refine wg (fun hg=>zl yB (zw hg) ((S.blk 0).cell (Maker.get_l _))) ?_
 refine wg (fun hg=>xg zW (zw hg) (S.rdO 2)) ?_
 refine wg (fun hg=>zU (zw hg) rfl) (wd (xt rfl (fun hp=>(zw (xE hp)))) ?_)
 replace S:=((S.front 2).front 2).front 2
 replace S:=S.shut_oK hp4
 refine zb ?_
 obtain ⟨o6,e6,Ho6⟩ := zr H
 replace H:=e6; clear e6
 refine x6 [18,19,20] (fun fr W=>St A N w W [oK a_0 g_0_1 o6,oB b2 T_Ln (Ln.C a1)] []) ?_ ?_
 ·refine zG rfl (fun hc7=>?_) (fun hc7=>?_)
  ·replace H:=if_t hc7 H
   refine za (wd (zk rfl) ?_)
   obtain ⟨p8,s10,hp9,S⟩ := S.open_oK 0
   replace S:=S
   refine wd (zC (congrArg Value.pointer hp9)) (wd (ze x9 rfl (o':=2) rfl) ?_)
   refine yI xX rfl rfl (S.blk 0) (by rw [Maker.len]; decide) rfl (Maker.set_bad _ _) fun w11 B hw11 zw11=>?_
   replace S:=S.store 0 B hw11
   clear B
   replace S:=((S.front 2).front 2).front 2
   replace S:=S.shut_oK hp9
   refine zb ?_
   obtain rfl:=zce H
   exact ⟨rfl,((((Dif.refl _ _).upd rfl _).upd rfl _).upd rfl _),S⟩
  ·replace H:=if_f hc7 H
   refine zB ?_
   obtain rfl:=zce H
   exact ⟨rfl,(Dif.refl _ _),S⟩
 rintro g12 u13 S
 have H:=Ho6
 refine zd (zd (za (wd (zk rfl) ?_)))
 obtain ⟨p14,s16,hp15,S⟩ := S.open_oK 0
 replace S:=S
 refine wd (zC (congrArg Value.pointer hp15)) (wd (ze x9 rfl (o':=2) rfl) (wd (zl xX rfl ((S.blk 0).cell (Maker.get_bad _))) (wd (zU rfl rfl) ?_)))
 replace S:=((S.front 2).front 2).front 2
 replace S:St A N w u13 [oK a_0 g_0_1 o6,oB b2 T_Ln (Ln.C a1)] []:=S.shut_oK hp15
 refine zb ?_
 refine zG rfl (fun hc17=>?_) (fun hc17=>?_)
 ·replace H:=if_t hc17 H
  obtain ⟨p18,s20,hp19,S⟩ := S.open_oK 0
  replace S:St A N w u13 [oB p18 xv (Maker.C (⟨g_0_1,s20,o6.bad⟩ : Maker)),oT g_0_1 o6.t,oS T_Ln 4 Ln.C s20 o6.l,oB b2 T_Ln (Ln.C a1)] []:=S
  obtain ⟨ha21,H⟩ := xo H
  have ha21:=of_decide_eq_true ha21
  have hSO:=S.sl 2
  have hSlt:=hSO.lt
  have SH : ∀ v,Chg s20.fp u13 v→St A (N.or s20.fp) w v [oB p18 xv (Maker.C (⟨g_0_1,s20,o6.bad⟩ : Maker)),oT g_0_1 o6.t,oB b2 T_Ln (Ln.C a1)] []:=fun v hc=>S.away 2 (hc:=hc)
  refine wc_draw 8 ⟨fun L v=>Chg s20.fp u13 v∧(L 7=false→Ext u13 v),fun L a b=>Chg s20.fp a b∧(L 7=true→Ext a b),fun i v u=>match i with
   | 0=>v=Value.pointer a_0
   | 1=>v=Value.pointer a_0
   | 2=>v=Value.pointer (some ⟨p18,0,none⟩)
   | 3=>v=Value.pointer (some ⟨p18,1,none⟩)
   | 4=>v=s20.v
   | 5=>v=Value.agg (Ln.C a1).toArray
   | 6 => ∃ b sl,v=SlV.v sl∧sl=⟨some ⟨b,0,none⟩,1,1⟩ ∧ Blk u b T_Ln (Ln.C a1)∧¬ s20.fp b
   | 7 => ∃ s',v=SlV.v s'∧Own u 0 T_Ln 4 s' ((o6.l ++ [a1]).map Ln.C) ∧ ∀ i,s'.fp i→s20.fp i∨u13.heap.size ≤ i
   | _=>True⟩ hmix zcd ?_ ⟨(Ext.drawn _).mono (fun _ _ x=>x.elim),fun _=>Ext.drawn _⟩ ⟨?_,?_,?_,?_,?_,?_,?_,?_,trivial⟩ ?_
  ·intro L i v a b hLi hle hv
   match i,hLi,hv with
   | 0,_,hv=>exact hv
   | 1,_,hv=>exact hv
   | 2,_,hv=>exact hv
   | 3,_,hv=>exact hv
   | 4,_,hv=>exact hv
   | 5,_,hv=>exact hv
   | 6,_,⟨b,sl,e1,e2,hb,hn⟩ => exact ⟨b,sl,e1,e2,hb.chg hle.1 hn,hn⟩
   | 7,hLi,⟨s',e1,ho,hg⟩ => exact ⟨s',e1,ho.ext (hle.2 hLi),hg⟩
   | _ + 8,_,_=>exact trivial
  ·rintro L g v hL hT 
   refine wd (zk rfl) (zb (ob ⟨hT.1,fun h=>hT.2 h⟩ ⟨Chg.refl _ _,fun _=>Ext.refl _⟩ rfl))
  ·rintro L g v hL hT 
   refine wd (zk rfl) (zb (ob ⟨hT.1,fun h=>hT.2 h⟩ ⟨Chg.refl _ _,fun _=>Ext.refl _⟩ rfl))
  ·rintro L g v hL hT hv1
   refine wd (zC ((hv1:_=Value.pointer a_0).trans (congrArg Value.pointer hp19))) (zb (ob ⟨hT.1,fun h=>hT.2 h⟩ ⟨Chg.refl _ _,fun _=>Ext.refl _⟩ rfl))
  ·rintro L g v hL hT hv2
   refine wd (ze vW hv2 (o':=1) rfl) (zb (ob ⟨hT.1,fun h=>hT.2 h⟩ ⟨Chg.refl _ _,fun _=>Ext.refl _⟩ rfl))
  ·rintro L g v hL hT hv3
   refine wd (zl yB hv3 (((SH v hT.1).blk 0).cell (Maker.get_l _))) (zb (ob ⟨hT.1,fun h=>hT.2 h⟩ ⟨Chg.refl _ _,fun _=>Ext.refl _⟩ rfl))
  ·rintro L g v hL hT 
   refine wd (zm zaA rfl (((SH v hT.1).blk 2).all _ (Ln.len _)) (Ln.len _)) (zb (ob ⟨hT.1,fun h=>hT.2 h⟩ ⟨Chg.refl _ _,fun _=>Ext.refl _⟩ rfl))
  ·rintro L g v hL hT hv5
   refine wl_lit1 zW el_Ln.zero hv5 rfl (Ln.len _) zca zca fun b v' sl hn hq=>zb (ob ⟨hT.1.thenExt hn.ext,fun h=>(hT.2 h).trans hn.ext⟩ ⟨hn.ext.mono (fun _ _ x=>x.elim),fun _=>hn.ext⟩ ⟨b,sl,rfl,hq,hn.blk,fun e=>by have:=hSlt _ e; have:=hn.at_; have:=hT.1.size; omega⟩)
  ·rintro L g v hL hT hv4 ⟨b,sl,hv6,hq,hb,hnb⟩
   refine wl_push (C:=Ln.C) zW el_Ln hv4 hv6 (hSO.ext (hT.2 hL)) hb hq (Ln.len _) (Ln.one _) ha21 zcb zca fun s' v' ho hc hg=>zb (ob ⟨hT.1.trans hc,fun h=>(by cases h)⟩ ⟨hc,fun h=>(by rw [hL] at h; cases h)⟩ ⟨s',rfl,ho,fun i e=>(hg i e).imp id (fun h=>Nat.le_trans hT.1.size h)⟩)
  rintro L g w22 hLm hT hv24_0 hv24_1 hv24_2 hv24_3 hv24_4 hv24_5 ⟨b,sl,hv24_6,hq,hb,hnb⟩ ⟨s23,hv24_7,O,gO⟩
  replace S:=S.push 2 O (by rw [List.length_append,List.length_singleton]; omega) hT.1 gO
  clear O gO SH hSO hSlt
  refine wd (zC ((hv24_0:_=Value.pointer a_0).trans (congrArg Value.pointer hp19))) (wd (ze vW rfl (o':=1) rfl) ?_)
  refine yI yB rfl hv24_7 (S.blk 1) (by rw [Maker.len]; decide) (SlV.one _ _ rfl) (Maker.set_l _ _) fun w25 B hw25 zw25=>?_
  replace S:=S.store 1 B hw25
  clear B
  replace S:=((S.front 1).front 2).front 2
  replace S:=S.shut_oK hp19
  refine zb (zd (za (wd (zk rfl) ?_)))
  obtain ⟨p26,s28,hp27,S⟩ := S.open_oK 0
  replace S:=S
  refine wd (zC (congrArg Value.pointer hp27)) (wd (ze vW rfl (o':=1) rfl) (wd (zl yB rfl ((S.blk 0).cell (Maker.get_l _))) (wd (xg zW rfl (S.rdO 2)) (wd (jD rfl rfl) (wd (zh rfl) ?_)))))
  replace S:=((S.front 2).front 2).front 2
  replace S:=S.shut_oK hp27
  refine zb (zx ?_)
  refine ⟨_,(zS (zf rfl)),?_⟩
  replace S:=S.arr [0] []
  obtain rfl:=zce H
  exact ⟨rfl,S⟩
 ·replace H:=if_f hc17 H
  refine zB (zd (za (wd (zk rfl) ?_)))
  obtain ⟨p29,s31,hp30,S⟩ := S.open_oK 0
  replace S:=S
  refine wd (zC (congrArg Value.pointer hp30)) (wd (ze vW rfl (o':=1) rfl) (wd (zl yB rfl ((S.blk 0).cell (Maker.get_l _))) (wd (xg zW rfl (S.rdO 2)) (wd (jD rfl rfl) (wd (zh rfl) ?_)))))
  replace S:=((S.front 2).front 2).front 2
  replace S:=S.shut_oK hp30
  refine zb (zx ?_)
  refine ⟨_,(zS (zf rfl)),?_⟩
  replace S:=S.arr [0] []
  obtain rfl:=zce H
  exact ⟨rfl,S⟩
theorem xj {a0:PMaker} {a_0:Option Addr} {g_0_1:Option Addr} {a1:Int} {a2:Int} (S:St A N w w [oK a_0 g_0_1 a0] []) {r:PMaker × Int} (H:zcP.f a0 a1 a2=some r) :
  Calls PP zaR #[.pointer a_0,.int .i64 a1,.int .i64 a2] w fun e w' => ∃ v,e = .returned v∧(v = .int .i64 r.2∧St A N w w' [oK a_0 g_0_1 r.1] []):=by
 unfold zcP.f at H
 refine zz (n:=37) fn_hilbert_maker_mp rfl rfl zcc (zd (za (wd (zh rfl) (zb (zd (zd (za (wd (zk rfl) ?_))))))))
 obtain ⟨p1,s3,hp2,S⟩ := S.open_oK 0
 replace S:=S
 refine wd (zC (congrArg Value.pointer hp2)) (wd (ze x9 rfl (o':=2) rfl) (wd (zl xX rfl ((S.blk 0).cell (Maker.get_bad _))) (wd (xm rfl rfl) ?_)))
 replace S:=((S.front 2).front 2).front 2
 replace S:=S.shut_oK hp2
 refine zb ?_
 refine zG rfl (fun hc4=>?_) (fun hc4=>?_)
 ·replace H:=if_t hc4 H
  refine zd (za (wd (zh rfl) (zb (zx ?_))))
  refine ⟨_,(zS (zf rfl)),?_⟩
  obtain rfl:=zce H
  exact ⟨rfl,S⟩
 replace H:=if_f hc4 H
 refine zB (zd ?_)
 obtain ⟨p5,s7,hp6,S⟩ := S.open_oK 0
 replace S:=S
 obtain ⟨hi8,H⟩ := xo H
 obtain ⟨r9,er9,H⟩ := zr H
 have SH : ∀ v,Ext w v→St A N w v [oB p5 xv (Maker.C (⟨g_0_1,s7,a0.bad⟩ : Maker)),oT g_0_1 a0.t,oS T_Ln 4 Ln.C s7 a0.l] []:=fun v hc=>S.ext hc
 refine wc_draw4 18 ⟨fun _ _=>True,fun _ _ _=>True,fun i v _=>match i with
  | 0=>v=Value.pointer a_0
  | 1=>v=Value.pointer (some ⟨p5,0,none⟩)
  | 2=>v=Value.pointer (some ⟨p5,0,none⟩)
  | 3=>v=Value.pointer g_0_1
  | 4=>v=Value.pointer a_0
  | 5=>v=Value.pointer (some ⟨p5,0,none⟩)
  | 6=>v=Value.pointer (some ⟨p5,1,none⟩)
  | 7=>v=s7.v
  | 8=>v=Value.int .i64 a1
  | 9=>v=Value.pointer (some ⟨s7.blk,s7.off + Int.toNat a1 * 4,none⟩)
  | 10=>v=Value.pointer (some ⟨s7.blk,s7.off + Int.toNat a1 * 4 + 1,none⟩)
  | 11=>v=Value.int .i64 ((at_ Ln.z a0.l a1).form)
  | 12=>v=Value.tuple #[.agg (Nd.C r9.1).toArray,.bool r9.2]
  | 13=>v=Value.tuple #[.agg (Nd.C r9.1).toArray,.bool r9.2]
  | 14=>v=Value.agg (Nd.C r9.1).toArray
  | 15=>v=Value.bool r9.2
  | _=>True⟩ (TT w 16 17 7 T_Nd (Nd.C Nd.z) (Nd.C r9.1)) hmix zcd (fun _ _ _ _ _ _ _ hv=>hv) (fun g=>TT.init g (Ext.drawn _)) ⟨?_,?_,?_,?_,?_,?_,?_,?_,?_,?_,?_,?_,?_,?_,?_,?_,?_,?_,trivial⟩ ?_
 ·rintro L g v hL hcl hT 
  refine wd (zk rfl) (zb (ob4 trivial rfl (hT.keep (Ext.refl _) rfl rfl zca)))
 ·rintro L g v hL hcl hT hv0
  refine wd (zC ((hv0:_=Value.pointer a_0).trans (congrArg Value.pointer hp6))) (zb (ob4 trivial rfl (hT.keep (Ext.refl _) rfl rfl zca)))
 ·rintro L g v hL hcl hT hv1
  refine wd (ze jb hv1 (o':=0) rfl) (zb (ob4 trivial rfl (hT.keep (Ext.refl _) rfl rfl zca)))
 ·rintro L g v hL hcl hT hv2
  refine wd (zl xA hv2 (((SH v hT.1).blk 0).cell (Maker.get_t _))) (zb (ob4 trivial rfl (hT.keep (Ext.refl _) rfl rfl zca)))
 ·rintro L g v hL hcl hT 
  refine wd (zk rfl) (zb (ob4 trivial rfl (hT.keep (Ext.refl _) rfl rfl zca)))
 ·rintro L g v hL hcl hT hv4
  refine wd (zC ((hv4:_=Value.pointer a_0).trans (congrArg Value.pointer hp6))) (zb (ob4 trivial rfl (hT.keep (Ext.refl _) rfl rfl zca)))
 ·rintro L g v hL hcl hT hv5
  refine wd (ze vW hv5 (o':=1) rfl) (zb (ob4 trivial rfl (hT.keep (Ext.refl _) rfl rfl zca)))
 ·rintro L g v hL hcl hT hv6
  refine wd (zl yB hv6 (((SH v hT.1).blk 0).cell (Maker.get_l _))) (zb (ob4 trivial rfl (hT.keep (Ext.refl _) rfl rfl zca)))
 ·rintro L g v hL hcl hT 
  refine wd (zg rfl) (zb (ob4 trivial rfl (hT.keep (Ext.refl _) rfl rfl zca)))
 ·rintro L g v hL hcl hT hv7 hv8
  refine wd (xa zW hv7 hv8 ((SH v hT.1).rdO 2) (zO hi8).1 (zO hi8).2) (zb (ob4 trivial rfl (hT.keep (Ext.refl _) rfl rfl zca)))
 ·rintro L g v hL hcl hT hv9
  refine wd (ze yP hv9 (o':=_) rfl) (zb (ob4 trivial rfl (hT.keep (Ext.refl _) rfl rfl zca)))
 ·rintro L g v hL hcl hT hv10
  refine wd (zl zR hv10 ((((SH v hT.1).rdO 2).at (ym Ln.z (zO hi8))).get (Ln.get_form _))) (zb (ob4 trivial rfl (hT.keep (Ext.refl _) rfl rfl zca)))
 ·rintro L g v hL hcl hT hv3 hv11
  refine (have ⟨M,SS⟩ := (SH v hT.1).lend ((.o 1 rfl .nil)); zu (zK yv (zM hv3 (zM hv11 rfl))) zca (quiet (yx SS er9) (fun v w' h=>⟨h.1,_,_,h.2⟩)) (by rintro _ v' ⟨rfl,hx⟩; exact zb (ob4 trivial rfl (hT.keep hx rfl rfl zca))))
 ·rintro L g v hL hcl hT hv12
  refine wd (zV hv12) (zb (ob4 trivial rfl (hT.keep (Ext.refl _) rfl rfl zca)))
 ·rintro L g v hL hcl hT hv13
  refine wd (zt hv13 rfl) (zb (ob4 trivial rfl (hT.keep (Ext.refl _) rfl rfl zca)))
 ·rintro L g v hL hcl hT hv13
  refine wd (zt hv13 rfl) (zb (ob4 trivial rfl (hT.keep (Ext.refl _) rfl rfl zca)))
 ·rintro L g v hL hcl hT 
  exact xd uD zca fun b v' hn=>zb (ob4 trivial trivial (hT.made hL rfl hn))
 ·rintro L g v hL hcl hT _ hv14
  have hLa:L 16=true:=hcl 16 zcd
  obtain ⟨b,hgb,hbl,hb⟩ := hT.2.1 hLa
  rw [hL] at hb
  replace hb:Blk v b T_Nd (Nd.C Nd.z):=hb
  exact zI x7 hgb hv14 hb (Nd.len _) (by rw [Nd.len]; decide) (Nd.one _) (zT (Nd.len _)) fun v' hb' hc _=>zb (ob40 trivial (fun _=>trivial) (hT.put hbl hgb hLa hb' hc))
 rintro L g w11 hLm ⟨K,hbx,_⟩ hv12_0 hv12_1 hv12_2 hv12_3 hv12_4 hv12_5 hv12_6 hv12_7 hv12_8 hv12_9 hv12_10 hv12_11 hv12_12 hv12_13 hv12_14 hv12_15 _ _
 obtain ⟨b10,hv12_16,hbl,hbx⟩ := hbx (by rw [hLm]; rfl)
 replace hbx:Blk w11 b10 T_Nd (Nd.C r9.1):=by rw [hLm] at hbx; exact hbx
 replace S:=S.newAt K hbx hbl
 clear SH hbx K
 refine wd (zo hv12_15) ?_
 replace S:=((S.front 3).front 3).front 3
 replace S:=S.shut_oK hp6
 refine zb (zd (za (wd (zk rfl) (wd (ze yS hv12_16 (o':=3) rfl) (wd (zl zR rfl ((S.blk 1).cell (Nd.get_r _))) (wd (zg rfl) (wd (zg rfl) (wd (yi bu_Ln (Bld.one rfl rfl (by rw [Ln.len]; decide) (Ln.set_kind _ _) (Bld.one rfl rfl (by rw [Ln.len]; decide) (Ln.set_form _ _) (Bld.one rfl rfl (by rw [Ln.len]; decide) (Ln.set_a _ _) (Bld.one rfl rfl (by rw [Ln.len]; decide) (Ln.set_b _ _) Bld.nil))))) ?_))))))))
 obtain ⟨r13,er13,H⟩ := zr H
 obtain ⟨B15,MB15,SB15,back⟩ := S.calln 1 ((.nil))
 refine zu (zq vc) zca (vd SB15 er13) ?_
 rintro _ w14 ⟨rfl,S2⟩
 replace S:=back _ _ _ _ S2 rfl
 clear back S2 SB15
 refine wd (zh rfl) (zb (zx ?_))
 refine ⟨_,(zS (zf rfl)),?_⟩
 replace S:=S.arr [0] []
 obtain rfl:=zce H
 exact ⟨rfl,S⟩
theorem xV {a0:PMaker} {a_0:Option Addr} {g_0_1:Option Addr} {a1:Int} {a2:Int} (S:St A N w w [oK a_0 g_0_1 a0] []) {r:PMaker × Int} (H:zcQ.f a0 a1 a2=some r) :
  Calls PP ky #[.pointer a_0,.int .i64 a1,.int .i64 a2] w fun e w' => ∃ v,e = .returned v∧(v = .int .i64 r.2∧St A N w w' [oK a_0 g_0_1 r.1] []):=by
 unfold zcQ.f at H
 refine zz (n:=12) fn_hilbert_maker_axiom rfl rfl zcc (zd (za (wd (zh rfl) (zb (zd (za (wd (zk rfl) (wd (zg rfl) (wd (zg rfl) (wd (yi bu_Ln (Bld.one rfl rfl (by rw [Ln.len]; decide) (Ln.set_kind _ _) (Bld.one rfl rfl (by rw [Ln.len]; decide) (Ln.set_form _ _) Bld.nil))) ?_))))))))))
 obtain ⟨r1,er1,H⟩ := zr H
 obtain ⟨B3,MB3,SB3,back⟩ := S.calln 1 ((.nil))
 refine zu (zq vc) zca (vd SB3 er1) ?_
 rintro _ w2 ⟨rfl,S2⟩
 replace S:=back _ _ _ _ S2 rfl
 clear back S2 SB3
 refine wd (zh rfl) (zb (zx ?_))
 refine ⟨_,(zS (zf rfl)),?_⟩
 obtain rfl:=zce H
 exact ⟨rfl,S⟩
theorem jU {a0:PMaker} {a_0:Option Addr} {g_0_1:Option Addr} {a1:Int} {a2:Int} (S:St A N w w [oK a_0 g_0_1 a0] []) {r:PMaker × Int} (H:zcR.f a0 a1 a2=some r) :
  Calls PP zbr #[.pointer a_0,.int .i64 a1,.int .i64 a2] w fun e w' => ∃ v,e = .returned v∧(v = .int .i64 r.2∧St A N w w' [oK a_0 g_0_1 r.1] []):=by
 unfold zcR.f at H
 refine zz (n:=16) fn_hilbert_maker_k rfl rfl zcc (zd (za (wd (zh rfl) (zb (zd (za (wd (zk rfl) (wd (zk rfl) (wd (zg rfl) (wd (zk rfl) (wd (zg rfl) (wd (zg rfl) ?_))))))))))))
 obtain ⟨r1,er1,H⟩ := zr H
 obtain ⟨B3,MB3,SB3,back⟩ := S.calln 1 ((.nil))
 refine zu (zq z1) zca (z7 SB3 er1) ?_
 rintro _ w2 ⟨rfl,S2⟩
 replace S:=back _ _ _ _ S2 rfl
 clear back S2 SB3
 obtain ⟨r4,er4,H⟩ := zr H
 obtain ⟨B6,MB6,SB6,back⟩ := S.calln 1 ((.nil))
 refine zu (zq z1) zca (z7 SB6 er4) ?_
 rintro _ w5 ⟨rfl,S2⟩
 replace S:=back _ _ _ _ S2 rfl
 clear back S2 SB6
 obtain ⟨r7,er7,H⟩ := zr H
 obtain ⟨B9,MB9,SB9,back⟩ := S.calln 1 ((.nil))
 refine zu (zq xU) zca (xV SB9 er7) ?_
 rintro _ w8 ⟨rfl,S2⟩
 replace S:=back _ _ _ _ S2 rfl
 clear back S2 SB9
 refine wd (zh rfl) (zb (zx ?_))
 refine ⟨_,(zS (zf rfl)),?_⟩
 obtain rfl:=zce H
 exact ⟨rfl,S⟩
theorem zbd {a0:PMaker} {a_0:Option Addr} {g_0_1:Option Addr} {a1:Int} {a2:Int} {a3:Int} (S:St A N w w [oK a_0 g_0_1 a0] []) {r:PMaker × Int} (H:zcS.f a0 a1 a2 a3=some r) :
  Calls PP zbs #[.pointer a_0,.int .i64 a1,.int .i64 a2,.int .i64 a3] w fun e w' => ∃ v,e = .returned v∧(v = .int .i64 r.2∧St A N w w' [oK a_0 g_0_1 r.1] []):=by
 unfold zcS.f at H
 refine zz (n:=36) fn_hilbert_maker_s rfl rfl zcc (zd (za (wd (zh rfl) (zb (zd (za (wd (zk rfl) (wd (zg rfl) (wd (zk rfl) (wd (zg rfl) (wd (zg rfl) ?_)))))))))))
 obtain ⟨r1,er1,H⟩ := zr H
 obtain ⟨B3,MB3,SB3,back⟩ := S.calln 1 ((.nil))
 refine zu (zq z1) zca (z7 SB3 er1) ?_
 rintro _ w2 ⟨rfl,S2⟩
 replace S:=back _ _ _ _ S2 rfl
 clear back S2 SB3
 obtain ⟨r4,er4,H⟩ := zr H
 obtain ⟨B6,MB6,SB6,back⟩ := S.calln 1 ((.nil))
 refine zu (zq z1) zca (z7 SB6 er4) ?_
 rintro _ w5 ⟨rfl,S2⟩
 replace S:=back _ _ _ _ S2 rfl
 clear back S2 SB6
 refine wd (zh rfl) (zb (zd (za (wd (zk rfl) (wd (zg rfl) (wd (zg rfl) ?_))))))
 obtain ⟨r7,er7,H⟩ := zr H
 obtain ⟨B9,MB9,SB9,back⟩ := S.calln 1 ((.nil))
 refine zu (zq z1) zca (z7 SB9 er7) ?_
 rintro _ w8 ⟨rfl,S2⟩
 replace S:=back _ _ _ _ S2 rfl
 clear back S2 SB9
 refine wd (zh rfl) (zb (zd (za (wd (zk rfl) (wd (zg rfl) (wd (zg rfl) ?_))))))
 obtain ⟨r10,er10,H⟩ := zr H
 obtain ⟨B12,MB12,SB12,back⟩ := S.calln 1 ((.nil))
 refine zu (zq z1) zca (z7 SB12 er10) ?_
 rintro _ w11 ⟨rfl,S2⟩
 replace S:=back _ _ _ _ S2 rfl
 clear back S2 SB12
 refine wd (zh rfl) (zb (zd (za (wd (zk rfl) (wd (zk rfl) (wd (zg rfl) (wd (zk rfl) (wd (zg rfl) (wd (zg rfl) ?_)))))))))
 obtain ⟨r13,er13,H⟩ := zr H
 obtain ⟨B15,MB15,SB15,back⟩ := S.calln 1 ((.nil))
 refine zu (zq z1) zca (z7 SB15 er13) ?_
 rintro _ w14 ⟨rfl,S2⟩
 replace S:=back _ _ _ _ S2 rfl
 clear back S2 SB15
 obtain ⟨r16,er16,H⟩ := zr H
 obtain ⟨B18,MB18,SB18,back⟩ := S.calln 1 ((.nil))
 refine zu (zq z1) zca (z7 SB18 er16) ?_
 rintro _ w17 ⟨rfl,S2⟩
 replace S:=back _ _ _ _ S2 rfl
 clear back S2 SB18
 obtain ⟨r19,er19,H⟩ := zr H
 obtain ⟨B21,MB21,SB21,back⟩ := S.calln 1 ((.nil))
 refine zu (zq xU) zca (xV SB21 er19) ?_
 rintro _ w20 ⟨rfl,S2⟩
 replace S:=back _ _ _ _ S2 rfl
 clear back S2 SB21
 refine wd (zh rfl) (zb (zx ?_))
 refine ⟨_,(zS (zf rfl)),?_⟩
 obtain rfl:=zce H
 exact ⟨rfl,S⟩
theorem zbv {a0:Tb} {a_0:Option Addr} {a1:List Ln} {s_1:SlV} {a2:Int} (S:St A N w w [oT a_0 a0] [fS 4 Ln.C s_1 a1]) {r:Tb × List Ln × Int} (H:zcT.f a0 a1 a2=some r) :
  Calls PP zbM #[.pointer a_0,s_1.v,.int .i64 a2] w fun e w' => ∃ v,e = .returned v∧(∃ so0:SlV,v = .tuple #[so0.v,.int .i64 r.2.2]∧St A N w w' [oT a_0 r.1,oS T_Ln 4 Ln.C so0 r.2.1] []):=by
 unfold zcT.f at H
 refine zz (n:=127) fn_hilbert_deduce rfl rfl zcc (zd (za (wd (xw) (wd (zh rfl) (zb (zd (za (wd (zk rfl) (wd (Does.to (v' := .agg (Maker.C (⟨a_0,SlV.nil,0⟩ : Maker)).toArray) (xF (vs:=[(0,.pointer a_0)]) bu_Maker (yl rfl rfl) (Bld.one rfl rfl (by rw [Maker.len]; decide) (Maker.set_t _ _) Bld.nil)) rfl) ?_)))))))))
 refine zX rfl zca fun b2 w1 hw1=>?_
 replace S:=((S.new hw1).nil T_Ln 4 Ln.C).front 2
 replace S:=(S.front 2).shut_oK rfl
 refine wd (xc rfl) (zb (zd (za (wd (zA rfl) (wd (xg zW rfl (S.rd 0)) ?_)))))
 obtain ⟨hm6,H⟩ := xo H
 have hm6:=of_decide_eq_true hm6
 refine wl_make1 (C:=IC) (z:=(0:Int)) xG kI zv_int rfl rfl rfl rfl hm6.1 zcb hm6.2 zca fun b4 w3 s5 hBw3 hw3=>?_
 replace S:=S.lit hBw3 hw3 (by rw [List.length_replicate]; omega)
 refine wd (xP rfl) (zb (zd (zd (za (wd (zA rfl) (wd (xg zW rfl (S.rd 0)) (wd (zg rfl) (zb ?_))))))))
 obtain ⟨o7,e7,Ho7⟩ := zr H
 clear H
 refine x6 [6,7,10,11,12,13,14,15,16,25,26,27,28,29,30,31,32,33,34,35,36,37,38,39,40,41,42,43,44,45,46,47,48,49,50,51,52,53,54,55,56,57,58,59,60,61,62,63,64,65,66,67,68,69,70,71,72,73,74,75,76,77,78,79,80,81,82,83,84,85,86,87,88,89,90,91,92,93,94,95,96,97,98,99,100,101,102,103,104,105,106,107,108,109,110,111,112,113,114,115,116,117,118] (fun fr W => ∃ s7:List Int × PMaker,o7 = .inl s7∧St A N w W [oS xB 1 IC s5 s7.1,oK (some ⟨b2,0,none⟩) a_0 s7.2] [fS 4 Ln.C s_1 a1]) ?_ ?_
 ·refine zP ?_
  refine xY (α:=Nat × Int × (List Int × PMaker)) [6,7,10,11,12,13,14,15,16,25,26,27,28,29,30,31,32,33,34,35,36,37,38,39,40,41,42,43,44,45,46,47,48,49,50,51,52,53,54,55,56,57,58,59,60,61,62,63,64,65,66,67,68,69,70,71,72,73,74,75,76,77,78,79,80,81,82,83,84,85,86,87,88,89,90,91,92,93,94,95,96,97,98,99,100,101,102,103,104,105,106,107,108,109,110,111,112,113,114,115,116,117,118] (fun x fr W=>(x.1:Int)=(a1.length:Int) - x.2.1∧0 ≤ x.2.1∧forN (fun i s=>zcT.b0 a1 a2 i s.1 s.2) x.1 x.2.1 x.2.2=some o7∧fr 25 = .int .i64 x.2.1∧St A N w W [oS xB 1 IC s5 (x.2.2.1),oK (some ⟨b2,0,none⟩) a_0 (x.2.2.2)] [fS 4 Ln.C s_1 a1]) (fun x=>x.1) (((a1.length:Int) - 0).toNat,0,(List.replicate ((a1.length:Int)).toNat (0:Int),(⟨a0,([]:List Ln),0⟩ : PMaker))) ⟨(by dsimp only; have hle:=Int.natCast_nonneg (a1.length); omega),(Int.le_refl _),(by dsimp only; exact e7),rfl,S⟩ ?_
  rintro ⟨m7,i7,⟨x7_0,x7_1⟩⟩ g7 u7 ⟨hm7,hl7,e7,q7_i,S⟩
  try dsimp only at hm7
  try dsimp only at hl7
  try dsimp only at e7
  try dsimp only at S
  try dsimp only at q7_i
  refine zd (za (wd (xQ q7_i rfl) (zb (zd ?_))))
  refine zG rfl (fun hc8=>?_) (fun hc8=>?_)
  rotate_left
  ·refine yn ?_
   have hge:(a1.length:Int) ≤ i7:=Int.not_lt.1 (of_decide_eq_false hc8)
   obtain rfl:m7=0:=by omega
   replace e7:=zaZ e7
   exact ⟨rfl,((Dif.self _ _ _).upd rfl _),(x7_0,x7_1),e7,S⟩
  refine zB ?_
  have hlt7:i7 < (a1.length:Int):=of_decide_eq_true hc8
  obtain ⟨m7,rfl⟩ : ∃ m,m7=m + 1:=⟨m7 - 1,by omega⟩
  obtain ⟨q7,H,e7⟩ := zba e7
  unfold zcT.b0 at H
  try dsimp only at H
  have hb7:=(S.len 0)
  refine zd ?_
  refine zP (zd (za (wd (zg q7_i) (wd (xa zW rfl q7_i (S.rd 0) (And.intro (show 0 ≤ i7 by omega) (show i7 < (a1.length:Int) from hlt7)).1 (And.intro (show 0 ≤ i7 by omega) (show i7 < (a1.length:Int) from hlt7)).2) (wd (zm zaA rfl ((S.rd 0).at (ym Ln.z (And.intro (show 0 ≤ i7 by omega) (show i7 < (a1.length:Int) from hlt7)))) (Ln.len _)) ?_)))))
  refine xd ze_Ln zca fun b11 w10 hw10=>?_
  replace S:=S.new hw10
  refine wd (zh rfl) ?_
  refine zI zaA rfl rfl (S.blk 0) (Ln.len _) (by rw [Ln.len]; decide) (Ln.one _) (zT (Ln.len _)) fun w12 B hw12 zw12=>?_
  replace S:=S.store 0 B hw12
  clear B
  refine zb ?_
  refine zP (zd (za (wd (zk rfl) ?_)))
  obtain ⟨p13,s15,hp14,S⟩ := S.open_oK 2
  replace S:=S
  refine wd (zC (congrArg Value.pointer hp14)) (wd (ze x9 rfl (o':=2) rfl) (wd (zl xX rfl ((S.blk 0).cell (Maker.get_bad _))) (wd (xm rfl rfl) (wd (zo rfl) ?_))))
  replace S:=((S.front 2).front 2).front 2
  replace S:=S.shut_oK hp14
  refine zb ?_
  refine zG rfl (fun hc16=>?_) (fun hc16=>?_)
  ·replace H:=if_t hc16 H
   refine zd ?_
   obtain ⟨p17,s19,hp18,S⟩ := S.open_oK 0
   replace S:=S
   refine yz 5 (Ext w12) hmix zcd zcd (Ext.drawn _) (zy (fun v K=>zk rfl) (zy (fun v K=>zC (congrArg Value.pointer hp18)) (zy (fun v K=>ze x9 rfl (o':=2) rfl) (zy (fun v K=>zl xX rfl (((S.ext K).blk 0).cell (Maker.get_bad _))) (zy (fun v K=>xw) ?_)))))
   refine vD fun w20 K=>?_
   replace S:=S.ext K
   clear K
   refine wd (zh rfl) ?_
   replace S:=((S.front 2).front 2).front 2
   replace S:=S.shut_oK hp18
   refine zb (zx ?_)
   obtain ⟨p21,s23,hp22,S⟩ := S.open_oK 0
   replace S:=S.nil T_Ln 4 Ln.C
   refine ⟨_,(xn (zf rfl) (zf rfl)),?_⟩
   replace S:=S.arr [2,0] []
   obtain rfl:=zce H
   obtain rfl:=e7
   obtain rfl:=jX Ho7
   exact ⟨SlV.nil,rfl,S⟩
  replace H:=if_f hc16 H
  refine zd (za (wd (ze yP rfl (o':=1) rfl) (wd (zl zR rfl ((S.blk 1).cell (Ln.get_form _))) (wd (zg rfl) (wd (zU rfl rfl) (wd (zo rfl) (zb ?_)))))))
  refine zG rfl (fun hc24=>?_) (fun hc24=>?_)
  ·replace H:=if_t hc24 H
   refine zd (za (wd (zk rfl) (wd (zg rfl) (wd (zg rfl) ?_))))
   obtain ⟨r25,er25,H⟩ := zr H
   obtain ⟨B27,MB27,SB27,back⟩ := S.calln 1 ((.nil))
   refine zu (zq z1) zca (z7 SB27 er25) ?_
   rintro _ w26 ⟨rfl,S2⟩
   replace S:=back _ _ _ _ S2 rfl
   clear back S2 SB27
   refine wd (zh rfl) (zb (zd (za (wd (zk rfl) (wd (zg rfl) (wd (zg rfl) (wd (zg rfl) ?_)))))))
   obtain ⟨r28,er28,H⟩ := zr H
   obtain ⟨B30,MB30,SB30,back⟩ := S.calln 1 ((.nil))
   refine zu (zq zaW) zca (zbd SB30 er28) ?_
   rintro _ w29 ⟨rfl,S2⟩
   replace S:=back _ _ _ _ S2 rfl
   clear back S2 SB30
   refine wd (zh rfl) (zb (zd (za (wd (zk rfl) (wd (zg rfl) (wd (zk rfl) (wd (zg rfl) (wd (zg rfl) ?_))))))))
   obtain ⟨r31,er31,H⟩ := zr H
   obtain ⟨B33,MB33,SB33,back⟩ := S.calln 1 ((.nil))
   refine zu (zq jO) zca (jU SB33 er31) ?_
   rintro _ w32 ⟨rfl,S2⟩
   replace S:=back _ _ _ _ S2 rfl
   clear back S2 SB33
   obtain ⟨r34,er34,H⟩ := zr H
   obtain ⟨B36,MB36,SB36,back⟩ := S.calln 1 ((.nil))
   refine zu (zq xi) zca (xj SB36 er34) ?_
   rintro _ w35 ⟨rfl,S2⟩
   replace S:=back _ _ _ _ S2 rfl
   clear back S2 SB36
   refine wd (zh rfl) (zb (za (wd (zA rfl) (wd (zg rfl) (wd (zk rfl) (wd (zg rfl) (wd (zk rfl) (wd (zg rfl) (wd (zg rfl) ?_)))))))))
   obtain ⟨r37,er37,H⟩ := zr H
   obtain ⟨B39,MB39,SB39,back⟩ := S.calln 1 ((.nil))
   refine zu (zq jO) zca (jU SB39 er37) ?_
   rintro _ w38 ⟨rfl,S2⟩
   replace S:=back _ _ _ _ S2 rfl
   clear back S2 SB39
   obtain ⟨r40,er40,H⟩ := zr H
   obtain ⟨B42,MB42,SB42,back⟩ := S.calln 1 ((.nil))
   refine zu (zq xi) zca (xj SB42 er40) ?_
   rintro _ w41 ⟨rfl,S2⟩
   replace S:=back _ _ _ _ S2 rfl
   clear back S2 SB42
   obtain ⟨hi43,H⟩ := xo H
   refine wd (xa xG rfl rfl (S.rdO 2) (zO hi43).1 (zO hi43).2) ?_
   refine zbZ (C:=IC) (a:=r40.2) zR rfl rfl (S.sl 2) (zO hi43) rfl rfl fun w44 O hw44=>?_
   have hlw44:=S.lenO 2
   replace S:=S.push 2 O (by rw [List.length_set]; exact hlw44) hw44 (fun i hi => .inl hi)
   clear O
   refine zb (za (wd (xK q7_i rfl (c:=i7 + 1) rfl zcb zcb) (wd (zg rfl) (zb ?_))))
   replace S:=S.arr [0,1] [0]
   obtain rfl:=zce H
   exact ⟨rfl,(by repeat first | exact Dif.refl _ _ | exact Dif.self _ _ _ | refine Dif.upd ?_ rfl _ | refine Dif.mask ?_ rfl _),(m7,i7 + 1,(x7_0.set (i7).toNat r40.2,r40.1)),⟨(by dsimp only; omega),(by dsimp only; omega),e7,rfl,S⟩,by dsimp only; omega⟩
  ·replace H:=if_f hc24 H
   refine zd (za (wd (ze jR rfl (o':=0) rfl) (wd (zl y4 rfl ((S.blk 1).cell (Ln.get_kind _))) (wd (zU rfl rfl) (wd (zo rfl) (zb ?_))))))
   refine zG rfl (fun hc45=>?_) (fun hc45=>?_)
   ·replace H:=if_t hc45 H
    refine zd ?_
    refine yz 10 (Ext w12) hmix zcd zcd (Ext.drawn _) (zy (fun v K=>zk rfl) (zy (fun v K=>zg rfl) (zy (fun v K=>zA rfl) (zy (fun v K=>ze kV rfl (o':=3) rfl) (zy (fun v K=>zl zR rfl (((S.ext K).blk 1).cell (Ln.get_b _))) ?_)))))
    obtain ⟨hi46,H⟩ := xo H
    refine zy (fun v K=>xa zW rfl rfl ((S.ext K).rd 0) (zO hi46).1 (zO hi46).2) (zy (fun v K=>ze yP rfl (o':=_) rfl) (zy (fun v K=>zl zR rfl ((((S.ext K).rd 0).at (ym Ln.z (zO hi46))).get (Ln.get_form _))) (zy (fun v K=>ze yP rfl (o':=1) rfl) (zy (fun v K=>zl zR rfl (((S.ext K).blk 1).cell (Ln.get_form _))) ?_))))
    refine vD fun w47 K=>?_
    replace S:=S.ext K
    clear K
    obtain ⟨r48,er48,H⟩ := zr H
    obtain ⟨B50,MB50,SB50,back⟩ := S.calln 1 ((.nil))
    refine zu (zq zaW) zca (zbd SB50 er48) ?_
    rintro _ w49 ⟨rfl,S2⟩
    replace S:=back _ _ _ _ S2 rfl
    clear back S2 SB50
    refine wd (zh rfl) (zb ?_)
    obtain ⟨hi51,H⟩ := xo H
    obtain ⟨r52,er52,H⟩ := zr H
    obtain ⟨hi55,H⟩ := xo H
    obtain ⟨r56,er56,H⟩ := zr H
    refine un 17 ⟨fun _ _=>True,fun _ _ _=>True,fun i v _=>match i with
     | 0=>v=s5.v
     | 1=>v=Value.int .i64 i7
     | 2=>v=Value.pointer (some ⟨b2,0,none⟩)
     | 3=>v=Value.pointer (some ⟨b2,0,none⟩)
     | 4=>v=Value.int .i64 r48.2
     | 5=>v=s5.v
     | 6=>v=Value.pointer (some ⟨b11,2,none⟩)
     | 7=>v=Value.int .i64 ((at_ Ln.z a1 i7).a)
     | 8=>v=Value.pointer (some ⟨s5.blk,s5.off + Int.toNat ((at_ Ln.z a1 i7).a) * 1,none⟩)
     | 9=>v=Value.int .i64 (at_ (0:Int) x7_0 ((at_ Ln.z a1 i7).a))
     | 10=>v=Value.int .i64 r52.2
     | 11=>v=s5.v
     | 12=>v=Value.pointer (some ⟨b11,3,none⟩)
     | 13=>v=Value.int .i64 ((at_ Ln.z a1 i7).b)
     | 14=>v=Value.pointer (some ⟨s5.blk,s5.off + Int.toNat ((at_ Ln.z a1 i7).b) * 1,none⟩)
     | 15=>v=Value.int .i64 (at_ (0:Int) x7_0 ((at_ Ln.z a1 i7).b))
     | 16=>v=Value.int .i64 r56.2
     | _=>True⟩ (fun L g v=>bif L 16 then (St A N w v [oK (some ⟨b2,0,none⟩) a_0 r56.1,oB b11 T_Ln (Ln.C (at_ Ln.z a1 i7)),oS xB 1 IC s5 x7_0] [fS 4 Ln.C s_1 a1]) else bif L 10 then (St A N w v [oK (some ⟨b2,0,none⟩) a_0 r52.1,oB b11 T_Ln (Ln.C (at_ Ln.z a1 i7)),oS xB 1 IC s5 x7_0] [fS 4 Ln.C s_1 a1]) else (St A N w v [oK (some ⟨b2,0,none⟩) a_0 r48.1,oB b11 T_Ln (Ln.C (at_ Ln.z a1 i7)),oS xB 1 IC s5 x7_0] [fS 4 Ln.C s_1 a1])) hmix zcd (fun _ _ _ _ _ _ _ hv=>hv) (fun g=>S.ext (Ext.drawn _)) ⟨?_,?_,?_,?_,?_,?_,?_,?_,?_,?_,?_,?_,?_,?_,?_,?_,?_,trivial⟩ ?_
    ·rintro L g v hL hcl hclo hT 
     cases hl16:L 16 with
     | true =>
      simp only [hl16,cond_true,cond_false] at hT
      replace S:=hT
      refine wd (zA rfl) ?_
      exact zb (ob4 trivial rfl (by simp only [zp (L:=L) (i:=0) (j:=10) rfl,zp (L:=L) (i:=0) (j:=16) rfl,hl16,cond_true,cond_false]; exact S))
     | false =>
      cases hl10:L 10 with
      | true =>
       simp only [hl10,hl16,cond_true,cond_false] at hT
       replace S:=hT
       refine wd (zA rfl) ?_
       exact zb (ob4 trivial rfl (by simp only [zp (L:=L) (i:=0) (j:=10) rfl,zp (L:=L) (i:=0) (j:=16) rfl,hl10,hl16,cond_true,cond_false]; exact S))
      | false =>
       simp only [hl10,hl16,cond_true,cond_false] at hT
       replace S:=hT
       refine wd (zA rfl) ?_
       exact zb (ob4 trivial rfl (by simp only [zp (L:=L) (i:=0) (j:=10) rfl,zp (L:=L) (i:=0) (j:=16) rfl,hl10,hl16,cond_true,cond_false]; exact S))
    ·rintro L g v hL hcl hclo hT 
     cases hl16:L 16 with
     | true =>
      simp only [hl16,cond_true,cond_false] at hT
      replace S:=hT
      refine wd (zg rfl) ?_
      exact zb (ob4 trivial rfl (by simp only [zp (L:=L) (i:=1) (j:=10) rfl,zp (L:=L) (i:=1) (j:=16) rfl,hl16,cond_true,cond_false]; exact S))
     | false =>
      cases hl10:L 10 with
      | true =>
       simp only [hl10,hl16,cond_true,cond_false] at hT
       replace S:=hT
       refine wd (zg rfl) ?_
       exact zb (ob4 trivial rfl (by simp only [zp (L:=L) (i:=1) (j:=10) rfl,zp (L:=L) (i:=1) (j:=16) rfl,hl10,hl16,cond_true,cond_false]; exact S))
      | false =>
       simp only [hl10,hl16,cond_true,cond_false] at hT
       replace S:=hT
       refine wd (zg rfl) ?_
       exact zb (ob4 trivial rfl (by simp only [zp (L:=L) (i:=1) (j:=10) rfl,zp (L:=L) (i:=1) (j:=16) rfl,hl10,hl16,cond_true,cond_false]; exact S))
    ·rintro L g v hL hcl hclo hT 
     have hl16:L 16=false:=by cases h:L 16 with | false=>rfl | true=>exact absurd (hclo 16 2 h zcd) (by rw [hL]; decide)
     cases hl10:L 10 with
     | true =>
      simp only [hl10,hl16,cond_true,cond_false] at hT
      replace S:=hT
      refine wd (zk rfl) ?_
      exact zb (ob4 trivial rfl (by simp only [zp (L:=L) (i:=2) (j:=10) rfl,zp (L:=L) (i:=2) (j:=16) rfl,hl10,hl16,cond_true,cond_false]; exact S))
     | false =>
      simp only [hl10,hl16,cond_true,cond_false] at hT
      replace S:=hT
      refine wd (zk rfl) ?_
      exact zb (ob4 trivial rfl (by simp only [zp (L:=L) (i:=2) (j:=10) rfl,zp (L:=L) (i:=2) (j:=16) rfl,hl10,hl16,cond_true,cond_false]; exact S))
    ·rintro L g v hL hcl hclo hT 
     have hl10:L 10=false:=by cases h:L 10 with | false=>rfl | true=>exact absurd (hclo 10 3 h zcd) (by rw [hL]; decide)
     have hl16:L 16=false:=by cases h:L 16 with | false=>rfl | true=>exact absurd (hclo 16 3 h zcd) (by rw [hL]; decide)
     simp only [hl10,hl16,cond_true,cond_false] at hT
     replace S:=hT
     refine wd (zk rfl) ?_
     exact zb (ob4 trivial rfl (by simp only [zp (L:=L) (i:=3) (j:=10) rfl,zp (L:=L) (i:=3) (j:=16) rfl,hl10,hl16,cond_true,cond_false]; exact S))
    ·rintro L g v hL hcl hclo hT 
     have hl10:L 10=false:=by cases h:L 10 with | false=>rfl | true=>exact absurd (hclo 10 4 h zcd) (by rw [hL]; decide)
     have hl16:L 16=false:=by cases h:L 16 with | false=>rfl | true=>exact absurd (hclo 16 4 h zcd) (by rw [hL]; decide)
     simp only [hl10,hl16,cond_true,cond_false] at hT
     replace S:=hT
     refine wd (zg rfl) ?_
     exact zb (ob4 trivial rfl (by simp only [zp (L:=L) (i:=4) (j:=10) rfl,zp (L:=L) (i:=4) (j:=16) rfl,hl10,hl16,cond_true,cond_false]; exact S))
    ·rintro L g v hL hcl hclo hT 
     have hl10:L 10=false:=by cases h:L 10 with | false=>rfl | true=>exact absurd (hclo 10 5 h zcd) (by rw [hL]; decide)
     have hl16:L 16=false:=by cases h:L 16 with | false=>rfl | true=>exact absurd (hclo 16 5 h zcd) (by rw [hL]; decide)
     simp only [hl10,hl16,cond_true,cond_false] at hT
     replace S:=hT
     refine wd (zA rfl) ?_
     exact zb (ob4 trivial rfl (by simp only [zp (L:=L) (i:=5) (j:=10) rfl,zp (L:=L) (i:=5) (j:=16) rfl,hl10,hl16,cond_true,cond_false]; exact S))
    ·rintro L g v hL hcl hclo hT 
     have hl10:L 10=false:=by cases h:L 10 with | false=>rfl | true=>exact absurd (hclo 10 6 h zcd) (by rw [hL]; decide)
     have hl16:L 16=false:=by cases h:L 16 with | false=>rfl | true=>exact absurd (hclo 16 6 h zcd) (by rw [hL]; decide)
     simp only [hl10,hl16,cond_true,cond_false] at hT
     replace S:=hT
     refine wd (ze zbu rfl (o':=2) rfl) ?_
     exact zb (ob4 trivial rfl (by simp only [zp (L:=L) (i:=6) (j:=10) rfl,zp (L:=L) (i:=6) (j:=16) rfl,hl10,hl16,cond_true,cond_false]; exact S))
    ·rintro L g v hL hcl hclo hT hv6
     have hl10:L 10=false:=by cases h:L 10 with | false=>rfl | true=>exact absurd (hclo 10 7 h zcd) (by rw [hL]; decide)
     have hl16:L 16=false:=by cases h:L 16 with | false=>rfl | true=>exact absurd (hclo 16 7 h zcd) (by rw [hL]; decide)
     simp only [hl10,hl16,cond_true,cond_false] at hT
     replace S:=hT
     refine wd (zl zR hv6 ((S.blk 1).cell (Ln.get_a _))) ?_
     exact zb (ob4 trivial rfl (by simp only [zp (L:=L) (i:=7) (j:=10) rfl,zp (L:=L) (i:=7) (j:=16) rfl,hl10,hl16,cond_true,cond_false]; exact S))
    ·rintro L g v hL hcl hclo hT hv5 hv7
     have hl10:L 10=false:=by cases h:L 10 with | false=>rfl | true=>exact absurd (hclo 10 8 h zcd) (by rw [hL]; decide)
     have hl16:L 16=false:=by cases h:L 16 with | false=>rfl | true=>exact absurd (hclo 16 8 h zcd) (by rw [hL]; decide)
     simp only [hl10,hl16,cond_true,cond_false] at hT
     replace S:=hT
     refine wd (xa xG hv5 hv7 (S.rdO 2) (zO hi51).1 (zO hi51).2) ?_
     exact zb (ob4 trivial rfl (by simp only [zp (L:=L) (i:=8) (j:=10) rfl,zp (L:=L) (i:=8) (j:=16) rfl,hl10,hl16,cond_true,cond_false]; exact S))
    ·rintro L g v hL hcl hclo hT hv8
     have hl10:L 10=false:=by cases h:L 10 with | false=>rfl | true=>exact absurd (hclo 10 9 h zcd) (by rw [hL]; decide)
     have hl16:L 16=false:=by cases h:L 16 with | false=>rfl | true=>exact absurd (hclo 16 9 h zcd) (by rw [hL]; decide)
     simp only [hl10,hl16,cond_true,cond_false] at hT
     replace S:=hT
     refine wd (zl zR hv8 ((S.rdO 2).one (ym (0:Int) (zO hi51)) rfl)) ?_
     exact zb (ob4 trivial rfl (by simp only [zp (L:=L) (i:=9) (j:=10) rfl,zp (L:=L) (i:=9) (j:=16) rfl,hl10,hl16,cond_true,cond_false]; exact S))
    ·rintro L g v hL hcl hclo hT hv3 hv4 hv9
     have hl10:L 10=false:=hL
     have hl16:L 16=false:=by cases h:L 16 with | false=>rfl | true=>exact absurd (hclo 16 10 h zcd) (by rw [hL]; decide)
     simp only [hl10,hl16,cond_true,cond_false] at hT
     replace S:=hT
     obtain ⟨B62,MB62,SB62,back⟩ := S.calln 1 ((.nil))
     refine zu (zK xi (zM hv3 (zM hv4 (zM hv9 rfl)))) zca (xj SB62 er52) ?_
     rintro _ w61 ⟨rfl,S2⟩
     replace S:=back _ _ _ _ S2 rfl
     clear back S2 SB62
     exact zb (ob4 trivial rfl (by simp only [zp (L:=L) (i:=10) (j:=16) rfl,y1 (L:=L) (i:=10),hl16,cond_true,cond_false]; exact S))
    ·rintro L g v hL hcl hclo hT 
     have hl16:L 16=false:=by cases h:L 16 with | false=>rfl | true=>exact absurd (hclo 16 11 h zcd) (by rw [hL]; decide)
     cases hl10:L 10 with
     | true =>
      simp only [hl10,hl16,cond_true,cond_false] at hT
      replace S:=hT
      refine wd (zA rfl) ?_
      exact zb (ob4 trivial rfl (by simp only [zp (L:=L) (i:=11) (j:=10) rfl,zp (L:=L) (i:=11) (j:=16) rfl,hl10,hl16,cond_true,cond_false]; exact S))
     | false =>
      simp only [hl10,hl16,cond_true,cond_false] at hT
      replace S:=hT
      refine wd (zA rfl) ?_
      exact zb (ob4 trivial rfl (by simp only [zp (L:=L) (i:=11) (j:=10) rfl,zp (L:=L) (i:=11) (j:=16) rfl,hl10,hl16,cond_true,cond_false]; exact S))
    ·rintro L g v hL hcl hclo hT 
     have hl16:L 16=false:=by cases h:L 16 with | false=>rfl | true=>exact absurd (hclo 16 12 h zcd) (by rw [hL]; decide)
     cases hl10:L 10 with
     | true =>
      simp only [hl10,hl16,cond_true,cond_false] at hT
      replace S:=hT
      refine wd (ze kV rfl (o':=3) rfl) ?_
      exact zb (ob4 trivial rfl (by simp only [zp (L:=L) (i:=12) (j:=10) rfl,zp (L:=L) (i:=12) (j:=16) rfl,hl10,hl16,cond_true,cond_false]; exact S))
     | false =>
      simp only [hl10,hl16,cond_true,cond_false] at hT
      replace S:=hT
      refine wd (ze kV rfl (o':=3) rfl) ?_
      exact zb (ob4 trivial rfl (by simp only [zp (L:=L) (i:=12) (j:=10) rfl,zp (L:=L) (i:=12) (j:=16) rfl,hl10,hl16,cond_true,cond_false]; exact S))
    ·rintro L g v hL hcl hclo hT hv12
     have hl16:L 16=false:=by cases h:L 16 with | false=>rfl | true=>exact absurd (hclo 16 13 h zcd) (by rw [hL]; decide)
     cases hl10:L 10 with
     | true =>
      simp only [hl10,hl16,cond_true,cond_false] at hT
      replace S:=hT
      refine wd (zl zR hv12 ((S.blk 1).cell (Ln.get_b _))) ?_
      exact zb (ob4 trivial rfl (by simp only [zp (L:=L) (i:=13) (j:=10) rfl,zp (L:=L) (i:=13) (j:=16) rfl,hl10,hl16,cond_true,cond_false]; exact S))
     | false =>
      simp only [hl10,hl16,cond_true,cond_false] at hT
      replace S:=hT
      refine wd (zl zR hv12 ((S.blk 1).cell (Ln.get_b _))) ?_
      exact zb (ob4 trivial rfl (by simp only [zp (L:=L) (i:=13) (j:=10) rfl,zp (L:=L) (i:=13) (j:=16) rfl,hl10,hl16,cond_true,cond_false]; exact S))
    ·rintro L g v hL hcl hclo hT hv11 hv13
     have hl16:L 16=false:=by cases h:L 16 with | false=>rfl | true=>exact absurd (hclo 16 14 h zcd) (by rw [hL]; decide)
     cases hl10:L 10 with
     | true =>
      simp only [hl10,hl16,cond_true,cond_false] at hT
      replace S:=hT
      refine wd (xa xG hv11 hv13 (S.rdO 2) (zO hi55).1 (zO hi55).2) ?_
      exact zb (ob4 trivial rfl (by simp only [zp (L:=L) (i:=14) (j:=10) rfl,zp (L:=L) (i:=14) (j:=16) rfl,hl10,hl16,cond_true,cond_false]; exact S))
     | false =>
      simp only [hl10,hl16,cond_true,cond_false] at hT
      replace S:=hT
      refine wd (xa xG hv11 hv13 (S.rdO 2) (zO hi55).1 (zO hi55).2) ?_
      exact zb (ob4 trivial rfl (by simp only [zp (L:=L) (i:=14) (j:=10) rfl,zp (L:=L) (i:=14) (j:=16) rfl,hl10,hl16,cond_true,cond_false]; exact S))
    ·rintro L g v hL hcl hclo hT hv14
     have hl16:L 16=false:=by cases h:L 16 with | false=>rfl | true=>exact absurd (hclo 16 15 h zcd) (by rw [hL]; decide)
     cases hl10:L 10 with
     | true =>
      simp only [hl10,hl16,cond_true,cond_false] at hT
      replace S:=hT
      refine wd (zl zR hv14 ((S.rdO 2).one (ym (0:Int) (zO hi55)) rfl)) ?_
      exact zb (ob4 trivial rfl (by simp only [zp (L:=L) (i:=15) (j:=10) rfl,zp (L:=L) (i:=15) (j:=16) rfl,hl10,hl16,cond_true,cond_false]; exact S))
     | false =>
      simp only [hl10,hl16,cond_true,cond_false] at hT
      replace S:=hT
      refine wd (zl zR hv14 ((S.rdO 2).one (ym (0:Int) (zO hi55)) rfl)) ?_
      exact zb (ob4 trivial rfl (by simp only [zp (L:=L) (i:=15) (j:=10) rfl,zp (L:=L) (i:=15) (j:=16) rfl,hl10,hl16,cond_true,cond_false]; exact S))
    ·rintro L g v hL hcl hclo hT hv2 hv10 hv15
     have hl10:L 10=true:=hcl 10 zcd
     have hl16:L 16=false:=hL
     simp only [hl10,hl16,cond_true,cond_false] at hT
     replace S:=hT
     obtain ⟨B67,MB67,SB67,back⟩ := S.calln 1 ((.nil))
     refine zu (zK xi (zM hv2 (zM hv10 (zM hv15 rfl)))) zca (xj SB67 er56) ?_
     rintro _ w66 ⟨rfl,S2⟩
     replace S:=back _ _ _ _ S2 rfl
     clear back S2 SB67
     exact zb (ob4 trivial rfl (by simp only [zp (L:=L) (i:=16) (j:=10) rfl,y1 (L:=L) (i:=16),cond_true,cond_false]; exact S))
    rintro L g w68 hLm hT hv69_0 hv69_1 hv69_2 hv69_3 hv69_4 hv69_5 hv69_6 hv69_7 hv69_8 hv69_9 hv69_10 hv69_11 hv69_12 hv69_13 hv69_14 hv69_15 hv69_16
    have hLt : ∀ j,j < 17→L j=true:=fun j hj=>by rw [hLm]; exact decide_eq_true hj
    simp only [hLt 16 zca,cond_true] at hT
    replace S:=hT
    replace S:=S
    obtain ⟨hi70,H⟩ := xo H
    refine wd (xa xG hv69_0 hv69_1 (S.rdO 2) (zO hi70).1 (zO hi70).2) ?_
    refine zbZ (C:=IC) (a:=r56.2) zR rfl hv69_16 (S.sl 2) (zO hi70) rfl rfl fun w71 O hw71=>?_
    have hlw71:=S.lenO 2
    replace S:=S.push 2 O (by rw [List.length_set]; exact hlw71) hw71 (fun i hi => .inl hi)
    clear O
    refine zb (za (wd (xK q7_i rfl (c:=i7 + 1) rfl zcb zcb) (wd (zg rfl) (zb ?_))))
    replace S:=S.arr [0,1] [0]
    obtain rfl:=zce H
    exact ⟨rfl,(by repeat first | exact Dif.refl _ _ | exact Dif.self _ _ _ | refine Dif.upd ?_ rfl _ | refine Dif.mask ?_ rfl _),(m7,i7 + 1,(x7_0.set (i7).toNat r56.2,r56.1)),⟨(by dsimp only; omega),(by dsimp only; omega),e7,rfl,S⟩,by dsimp only; omega⟩
   ·replace H:=if_f hc45 H
    refine zd (za (wd (zk rfl) (wd (zm zaA rfl ((S.blk 1).all _ (Ln.len _)) (Ln.len _)) ?_)))
    obtain ⟨r72,er72,H⟩ := zr H
    obtain ⟨B74,MB74,SB74,back⟩ := S.calln 1 ((.nil))
    refine zu (zq vc) zca (vd SB74 er72) ?_
    rintro _ w73 ⟨rfl,S2⟩
    replace S:=back _ _ _ _ S2 rfl
    clear back S2 SB74
    refine wd (zh rfl) (zb (za (wd (zA rfl) (wd (zg rfl) (wd (zk rfl) (wd (zk rfl) (wd (ze yP rfl (o':=1) rfl) (wd (zl zR rfl ((S.blk 1).cell (Ln.get_form _))) (wd (zg rfl) ?_)))))))))
    obtain ⟨r75,er75,H⟩ := zr H
    obtain ⟨B77,MB77,SB77,back⟩ := S.calln 1 ((.nil))
    refine zu (zq jO) zca (jU SB77 er75) ?_
    rintro _ w76 ⟨rfl,S2⟩
    replace S:=back _ _ _ _ S2 rfl
    clear back S2 SB77
    refine wd (zg rfl) ?_
    obtain ⟨r78,er78,H⟩ := zr H
    obtain ⟨B80,MB80,SB80,back⟩ := S.calln 1 ((.nil))
    refine zu (zq xi) zca (xj SB80 er78) ?_
    rintro _ w79 ⟨rfl,S2⟩
    replace S:=back _ _ _ _ S2 rfl
    clear back S2 SB80
    obtain ⟨hi81,H⟩ := xo H
    refine wd (xa xG rfl rfl (S.rdO 2) (zO hi81).1 (zO hi81).2) ?_
    refine zbZ (C:=IC) (a:=r78.2) zR rfl rfl (S.sl 2) (zO hi81) rfl rfl fun w82 O hw82=>?_
    have hlw82:=S.lenO 2
    replace S:=S.push 2 O (by rw [List.length_set]; exact hlw82) hw82 (fun i hi => .inl hi)
    clear O
    refine zb (za (wd (xK q7_i rfl (c:=i7 + 1) rfl zcb zcb) (wd (zg rfl) (zb ?_))))
    replace S:=S.arr [0,1] [0]
    obtain rfl:=zce H
    exact ⟨rfl,(by repeat first | exact Dif.refl _ _ | exact Dif.self _ _ _ | refine Dif.upd ?_ rfl _ | refine Dif.mask ?_ rfl _),(m7,i7 + 1,(x7_0.set (i7).toNat r78.2,r78.1)),⟨(by dsimp only; omega),(by dsimp only; omega),e7,rfl,S⟩,by dsimp only; omega⟩
 rintro g83 u84 ⟨s7,rfl,S⟩
 have H:=Ho7
 dsimp only [aft] at H
 refine zd ?_
 obtain ⟨p85,s87,hp86,S⟩ := S.open_oK 1
 replace S:=S
 refine yz 9 (Ext u84) hmix zcd zcd (Ext.drawn _) (zy (fun v K=>zk rfl) (zy (fun v K=>zC (congrArg Value.pointer hp86)) (zy (fun v K=>ze vW rfl (o':=1) rfl) (zy (fun v K=>zl yB rfl (((S.ext K).blk 0).cell (Maker.get_l _))) (zy (fun v K=>zk rfl) (zy (fun v K=>zC (congrArg Value.pointer hp86)) (zy (fun v K=>ze x9 rfl (o':=2) rfl) (zy (fun v K=>zl xX rfl (((S.ext K).blk 0).cell (Maker.get_bad _))) (zy (fun v K=>xP rfl) ?_)))))))))
 refine vD fun w88 K=>?_
 replace S:=S.ext K
 clear K
 refine wd (zh rfl) (zb (zx ?_))
 refine ⟨_,(xn (zf rfl) (zf rfl)),?_⟩
 replace S:=S.arr [1,2] []
 obtain rfl:=zce H
 exact ⟨s87,rfl,S⟩
theorem hilbert_kept_st {a0:Tb} {a_0:Option Addr} {a1:Int} {a2:List Ln} {s_2:SlV} {a3:Int} (S:St A N w w [oT a_0 a0,oS T_Ln 4 Ln.C s_2 a2] []) {r:Tb × List Ln × Int} (H:zcU.f a0 a1 a2 a3=some r) :
  Calls PP F_hilbert_kept #[.pointer a_0,.int .i64 a1,s_2.v,.int .i64 a3] w fun e w' => ∃ v,e = .returned v∧(∃ so0:SlV,v = .tuple #[so0.v,.int .i64 r.2.2]∧St A N w w' [oT a_0 r.1,oS T_Ln 4 Ln.C so0 r.2.1] []):=by
 unfold zcU.f at H
 refine zz (n:=17) fn_hilbert_kept rfl rfl zcc (zd (za (wd (xw) (wd (zh rfl) (zb (zd (zd (za (wd (zg rfl) (wd (xm rfl rfl) (zb ?_)))))))))))
 refine zG rfl (fun hc1=>?_) (fun hc1=>?_)
 ·replace H:=if_t hc1 H
  refine zd (za (wd (zk rfl) (wd (zg rfl) ?_)))
  obtain ⟨r2,er2,H⟩ := zr H
  obtain ⟨B4,MB4,SB4,back⟩ := S.calln 1 ((.nil))
  refine zu (zq ca_formula_Table_Cut) zca (formula_Table_Cut_st SB4 er2) ?_
  rintro _ w3 ⟨rfl,S2⟩
  replace S:=back _ _ _ _ S2 rfl
  clear back S2 SB4
  refine zb (zd (za (wd (zg rfl) (wd (xw) (wd (zh rfl) (zb (zx ?_)))))))
  replace S:=S.nil T_Ln 4 Ln.C
  refine ⟨_,(xn (zf rfl) (zf rfl)),?_⟩
  replace S:=S.arr [1,0] []
  obtain rfl:=zce H
  exact ⟨SlV.nil,rfl,S⟩
 replace H:=if_f hc1 H
 refine zB (zd (za (wd (zA rfl) (wd (xP rfl) (wd (zh rfl) (zb (zx ?_)))))))
 refine ⟨_,(xn (zf rfl) (zf rfl)),?_⟩
 obtain rfl:=zce H
 exact ⟨s_2,rfl,S⟩
theorem hilbert_Deduce_st {a0:Tb} {a_0:Option Addr} {a1:List Int} {s_1:SlV} {a2:List Ln} {s_2:SlV} {a3:Int} (S:St A N w w [oT a_0 a0] [fS 1 IC s_1 a1,fS 4 Ln.C s_2 a2]) {k:Nat} {r:Tb × List Ln × Int} (H:zcV.f k a0 a1 a2 a3=some r) :
  Calls PP zbL #[.pointer a_0,s_1.v,s_2.v,.int .i64 a3] w fun e w' => ∃ v,e = .returned v∧(∃ so0:SlV,v = .tuple #[so0.v,.int .i64 r.2.2]∧St A N w w' [oT a_0 r.1,oS T_Ln 4 Ln.C so0 r.2.1] []):=by
 unfold zcV.f at H
 refine zz (n:=45) fn_hilbert_Deduce rfl rfl zcc (zd (za (wd (xw) (wd (zh rfl) (zb (zd (zd (za (wd (zk rfl) (wd (zg rfl) ?_))))))))))
 refine xD (C:=IC) (l:=[a3]) (vs:=[.int .i64 a3]) xG kI.zero rfl rfl (fun _ _=>rfl) zca rfl zca fun b2 w1 s3 hBw1 hw1=>?_
 replace S:=S.lit hBw1 hw1 zcc
 obtain ⟨r4,er4,H⟩ := zr H
 obtain ⟨B6,MB6,SB6,back⟩ := S.calln 0 ((.o 1 rfl (.s 0 rfl .nil)))
 refine zu (zq ke) zca (kn SB6 er4) ?_
 rintro _ w5 ⟨rfl,S2⟩
 replace S:=back _ _ _ _ S2 rfl
 clear back S2 SB6
 refine wd (zh rfl) (zb (zd (za (wd (zg rfl) (wd (xm rfl rfl) (zb ?_))))))
 refine zG rfl (fun hc7=>?_) (fun hc7=>?_)
 ·replace H:=if_t hc7 H
  refine zd (za (wd (zg rfl) (wd (xw) (wd (zh rfl) (zb (zx ?_))))))
  replace S:=S.nil T_Ln 4 Ln.C
  refine ⟨_,(xn (zf rfl) (zf rfl)),?_⟩
  replace S:=S.arr [2,0] []
  obtain rfl:=zce H
  exact ⟨SlV.nil,rfl,S⟩
 replace H:=if_f hc7 H
 refine zB (zd (zd (za (wd (zk rfl) (wd (zA rfl) (wd (zA rfl) ?_))))))
 obtain ⟨r8,er8,H⟩ := zr H
 replace S:=S.front 1
 obtain ⟨B10,MB10,SB10,back⟩ := S.calln 1 ((.z 0 rfl (.z 1 rfl .nil)))
 refine zu (zq jj) zca (jm SB10 er8) ?_
 rintro _ w9 ⟨rfl,S2⟩
 replace S:=back _ _ _ _ S2 rfl
 clear back S2 SB10
 refine wd (zh rfl) (zb (zd (za (wd (zg rfl) (wd (xm rfl rfl) (zb ?_))))))
 refine zG rfl (fun hc11=>?_) (fun hc11=>?_)
 ·replace H:=if_t hc11 H
  refine zd (za (wd (zg rfl) (wd (xw) (wd (zh rfl) (zb (zx ?_))))))
  replace S:=S.nil T_Ln 4 Ln.C
  refine ⟨_,(xn (zf rfl) (zf rfl)),?_⟩
  replace S:=S.arr [1,0] []
  obtain rfl:=zce H
  exact ⟨SlV.nil,rfl,S⟩
 replace H:=if_f hc11 H
 refine zB (zd (za (wd (zk rfl) ?_)))
 obtain ⟨r12,er12,H⟩ := zr H
 obtain ⟨B14,MB14,SB14,back⟩ := S.calln 0 ((.o 0 rfl .nil))
 refine zu (zq uX) zca (jd SB14 er12) ?_
 rintro _ w13 ⟨rfl,S2⟩
 replace S:=back _ _ _ _ S2 rfl
 clear back S2 SB14
 refine wd (zh rfl) (zb (zd (za (wd (zk rfl) (wd (zA rfl) (wd (zg rfl) ?_))))))
 obtain ⟨r15,er15,H⟩ := zr H
 obtain ⟨B17,MB17,SB17,back⟩ := S.calln 1 ((.z 1 rfl .nil))
 refine zu (zq zbt) zca (zbv SB17 er15) ?_
 rintro _ w16 ⟨s18,rfl,S2⟩
 replace S:=back _ _ _ _ S2 rfl
 clear back S2 SB17
 refine wd (zV rfl) (wd (zt rfl rfl) (wd (zt rfl rfl) (wd (xP rfl) (wd (zh rfl) (zb (zd (za (wd (zk rfl) (wd (zg rfl) (wd (zA rfl) (wd (zg rfl) ?_)))))))))))
 obtain ⟨r19,er19,H⟩ := zr H
 replace S:=(S.front 1).front 1
 obtain ⟨B21,MB21,SB21,back⟩ := S.calln 2 ((.nil))
 refine zu (zq ca_hilbert_kept) zca (hilbert_kept_st SB21 er19) ?_
 rintro _ w20 ⟨s22,rfl,S2⟩
 replace S:=back _ _ _ _ S2 rfl
 clear back S2 SB21
 refine wd (zt rfl rfl) (wd (zt rfl rfl) (wd (xP rfl) (wd (zh rfl) (zb (zx ?_)))))
 refine ⟨_,(xn (zf rfl) (zf rfl)),?_⟩
 replace S:=S.arr [0,1] []
 obtain rfl:=zce H
 exact ⟨s22,rfl,S⟩
end
section
open Gw Go.RowKit
set_option maxHeartbeats 4000000
set_option maxRecDepth 20000
variable {A:Nat→Prop} {N:Oth} {w:World}
theorem term_shape_st {a0:Int} (S:St A N w w [] []) {r:Int × Bool × Bool × Bool} (H:zcW.f a0=some r) :
  Calls PP F_term_shape #[.int .i64 a0] w fun e w' => ∃ v,e = .returned v∧(v = .tuple #[.int .i64 r.1,.bool r.2.1,.bool r.2.2.1,.bool r.2.2.2]∧St A N w w' [] []):=by
 unfold zcW.f at H
 refine zz (n:=25) fn_term_shape rfl rfl zcc (zd (za (wd (zh rfl) (wd (zo rfl) (wd (zo rfl) (wd (zo rfl) (zb (zd (zd (za ?_))))))))))
 refine wd (zg rfl) (zb ?_)
 refine zP (zd (za (wd (zU rfl rfl) (wd (zo rfl) (zb ?_)))))
 refine zG rfl (fun hc1=>?_) (fun hc1=>?_)
 ·replace H:=if_t hc1 H
  refine zd (za (wd (zh rfl) (wd (zo rfl) (wd (zo rfl) (wd (zo rfl) (zb (zx ?_)))))))
  refine ⟨_,(rets4 (zf rfl) (zf rfl) (zf rfl) (zf rfl)),?_⟩
  obtain rfl:=zce H
  exact ⟨rfl,S⟩
 replace H:=if_f hc1 H
 refine zd (za (wd (zU rfl rfl) (wd (zo rfl) (zb ?_))))
 refine zG rfl (fun hc2=>?_) (fun hc2=>?_)
 ·replace H:=if_t hc2 H
  refine zd (za (wd (zh rfl) (wd (zo rfl) (wd (zo rfl) (wd (zo rfl) (zb (zx ?_)))))))
  refine ⟨_,(rets4 (zf rfl) (zf rfl) (zf rfl) (zf rfl)),?_⟩
  obtain rfl:=zce H
  exact ⟨rfl,S⟩
 replace H:=if_f hc2 H
 refine zd (za (wd (zU rfl rfl) (wd (zo rfl) (zb ?_))))
 refine zG rfl (fun hc3=>?_) (fun hc3=>?_)
 ·replace H:=if_t hc3 H
  refine zd (za (wd (zh rfl) (wd (zo rfl) (wd (zo rfl) (wd (zo rfl) (zb (zx ?_)))))))
  refine ⟨_,(rets4 (zf rfl) (zf rfl) (zf rfl) (zf rfl)),?_⟩
  obtain rfl:=zce H
  exact ⟨rfl,S⟩
 replace H:=if_f hc3 H
 refine zd (za (wd (zU rfl rfl) (wd (zo rfl) (zb ?_))))
 refine zG rfl (fun hc4=>?_) (fun hc4=>?_)
 ·replace H:=if_t hc4 H
  refine zd (za (wd (zh rfl) (wd (zo rfl) (wd (zo rfl) (wd (zo rfl) (zb (zx ?_)))))))
  refine ⟨_,(rets4 (zf rfl) (zf rfl) (zf rfl) (zf rfl)),?_⟩
  obtain rfl:=zce H
  exact ⟨rfl,S⟩
 replace H:=if_f hc4 H
 refine zd (zd (za (wd (zU rfl rfl) (wd (zo rfl) (zb ?_)))))
 obtain ⟨o5,e5,Ho5⟩ := zr H
 replace H:=e5; clear e5
 refine x6 [15,17,18,19,20,21] (fun fr W=>fr 15 = .bool o5∧St A N w W [] []) ?_ ?_
 ·refine zG rfl (fun hc6=>?_) (fun hc6=>?_)
  ·replace H:=if_t hc6 H
   refine zB ?_
   obtain rfl:=zce H
   exact ⟨rfl,(Dif.refl _ _),rfl,S⟩
  ·replace H:=if_f hc6 H
   refine zd (za (wd (zU rfl rfl) (wd (zo rfl) (zb ?_))))
   refine zG rfl (fun hc7=>?_) (fun hc7=>?_)
   ·replace H:=if_t hc7 H
    refine zB ?_
    obtain rfl:=zce H
    exact ⟨rfl,(((Dif.refl _ _).upd rfl _).upd rfl _),rfl,S⟩
   ·replace H:=if_f hc7 H
    refine zd (za (wd (zU rfl rfl) (wd (zo rfl) (zb ?_))))
    refine zG rfl (fun hc8=>?_) (fun hc8=>?_)
    ·replace H:=if_t hc8 H
     refine zB ?_
     obtain rfl:=zce H
     exact ⟨rfl,(((((Dif.refl _ _).upd rfl _).upd rfl _).upd rfl _).upd rfl _),rfl,S⟩
    ·replace H:=if_f hc8 H
     refine zd (za (wd (zU rfl rfl) (wd (zo rfl) (zb ?_))))
     refine zG rfl (fun hc9=>?_) (fun hc9=>?_)
     ·replace H:=if_t hc9 H
      refine zB ?_
      obtain rfl:=zce H
      exact ⟨rfl,(((((((Dif.refl _ _).upd rfl _).upd rfl _).upd rfl _).upd rfl _).upd rfl _).upd rfl _),rfl,S⟩
     ·replace H:=if_f hc9 H
      refine zd (za (wd (zU rfl rfl) (wd (zo rfl) (zb ?_))))
      refine zG rfl (fun hc10=>?_) (fun hc10=>?_)
      ·replace H:=if_t hc10 H
       refine zB ?_
       obtain rfl:=zce H
       exact ⟨rfl,(((((((((Dif.refl _ _).upd rfl _).upd rfl _).upd rfl _).upd rfl _).upd rfl _).upd rfl _).upd rfl _).upd rfl _),rfl,S⟩
      ·replace H:=if_f hc10 H
       refine za (wd (zU rfl rfl) (wd (zo rfl) (zb ?_)))
       obtain rfl:=zce H
       exact ⟨rfl,(((((((((((Dif.refl _ _).upd rfl _).upd rfl _).upd rfl _).upd rfl _).upd rfl _).upd rfl _).upd rfl _).upd rfl _).upd rfl _).upd rfl _),rfl,S⟩
 rintro g11 u12 ⟨p5_15,S⟩
 have H:=Ho5
 refine zG p5_15 (fun hc13=>?_) (fun hc13=>?_)
 ·replace H:=if_t hc13 H
  refine zd (za (wd (zh rfl) (wd (zo rfl) (wd (zo rfl) (wd (zo rfl) (zb (zx ?_)))))))
  refine ⟨_,(rets4 (zf rfl) (zf rfl) (zf rfl) (zf rfl)),?_⟩
  obtain rfl:=zce H
  exact ⟨rfl,S⟩
 replace H:=if_f hc13 H
 refine zd (zd (za (wd (zU rfl rfl) (wd (zo rfl) (zb ?_)))))
 refine zG rfl (fun hc14=>?_) (fun hc14=>?_)
 ·replace H:=if_t hc14 H
  refine zB ?_
  refine zG rfl (fun hc15=>?_) (fun hc15=>?_)
  ·replace H:=if_t hc15 H
   refine zd (za (wd (zh rfl) (wd (zo rfl) (wd (zo rfl) (wd (zo rfl) (zb (zx ?_)))))))
   refine ⟨_,(rets4 (zf rfl) (zf rfl) (zf rfl) (zf rfl)),?_⟩
   obtain rfl:=zce H
   exact ⟨rfl,S⟩
  replace H:=if_f hc15 H
  refine zB (zd (za (wd (zh rfl) (wd (zo rfl) (wd (zo rfl) (wd (zo rfl) (zb (zx ?_))))))))
  refine ⟨_,(rets4 (zf rfl) (zf rfl) (zf rfl) (zf rfl)),?_⟩
  obtain rfl:=zce H
  exact ⟨rfl,S⟩
 ·replace H:=if_f hc14 H
  refine za (wd (zU rfl rfl) (wd (zo rfl) (zb ?_)))
  refine zG rfl (fun hc16=>?_) (fun hc16=>?_)
  ·replace H:=if_t hc16 H
   refine zd (za (wd (zh rfl) (wd (zo rfl) (wd (zo rfl) (wd (zo rfl) (zb (zx ?_)))))))
   refine ⟨_,(rets4 (zf rfl) (zf rfl) (zf rfl) (zf rfl)),?_⟩
   obtain rfl:=zce H
   exact ⟨rfl,S⟩
  replace H:=if_f hc16 H
  refine zB (zd (za (wd (zh rfl) (wd (zo rfl) (wd (zo rfl) (wd (zo rfl) (zb (zx ?_))))))))
  refine ⟨_,(rets4 (zf rfl) (zf rfl) (zf rfl) (zf rfl)),?_⟩
  obtain rfl:=zce H
  exact ⟨rfl,S⟩
theorem term_named_st {a0:ByteArray} {a1:Bool} (S:St A N w w [] []) {r:Bool} (H:zcX.f a0 a1=some r) :
  Calls PP F_term_named #[.string a0,.bool a1] w fun e w' => ∃ v,e = .returned v∧(v = .bool r∧St A N w w' [] []):=by
 unfold zcX.f at H
 refine zz (n:=11) fn_term_named rfl rfl zcc (zd (za (wd (zo rfl) (zb (zd (zd (za (wd (zL rfl) ?_))))))))
 refine wd (xk rfl) (zb ?_)
 refine zG rfl (fun hc1=>?_) (fun hc1=>?_)
 ·replace H:=if_t hc1 H
  refine zd (za (wd (xl rfl) (wd (vi rfl rfl) (wd (zo rfl) (zb (zx ?_))))))
  refine ⟨_,(zS (zf rfl)),?_⟩
  obtain rfl:=zce H
  exact ⟨rfl,S⟩
 replace H:=if_f hc1 H
 refine zB (zd (za (wd (xl rfl) ?_)))
 obtain ⟨r2,er2,H⟩ := zr H
 obtain ⟨B4,MB4,SB4,back⟩ := S.calln 0 ((.nil))
 refine zu (zq ca_formula_Word) zca (formula_Word_st SB4 er2) ?_
 rintro _ w3 ⟨rfl,S2⟩
 replace S:=back _ _ _ _ S2 rfl
 clear back S2 SB4
 refine wd (zo rfl) (zb (zx ?_))
 refine ⟨_,(zS (zf rfl)),?_⟩
 obtain rfl:=zce H
 exact ⟨rfl,S⟩
theorem term_deep_gst {zed:PTerm→Int→Option Int} (zdV : ∀ {A:Nat→Prop} {N:Oth} {w:World} {a0:PTerm} {s_0:SlV} {a1:Int} (S:St A N w w [] [zn s_0 a0.sub]) {r:Int} (H:zed a0 a1=some r),Calls PP zag #[.agg (Term.C (⟨a0.kind,a0.name,a0.other,a0.form,s_0⟩ : Term)).toArray,.int .i64 a1] w fun e w' => ∃ v,e = .returned v∧(v = .int .i64 r∧St A N w w' [] [])) {A:Nat→Prop} {N:Oth} {w:World} {a0:PTerm} {s_0:SlV} {a1:Int} (S:St A N w w [] [zn s_0 a0.sub]) {k:Nat} {r:Int} (H:zcY.g zed k a0 a1=some r) :
  Calls PP zag #[.agg (Term.C (⟨a0.kind,a0.name,a0.other,a0.form,s_0⟩ : Term)).toArray,.int .i64 a1] w fun e w' => ∃ v,e = .returned v∧(v = .int .i64 r∧St A N w w' [] []):=by
 unfold zcY.g at H
 refine zz (n:=35) fn_term_deep rfl rfl zcc (zd (za ?_))
 refine zX rfl zca fun b2 w1 hw1=>?_
 replace S:=S.new hw1
 refine wd (zh rfl) (zb (zd (zd (za (wd (zg rfl) (wd (does_le rfl rfl) (zb ?_)))))))
 refine zG rfl (fun hc3=>?_) (fun hc3=>?_)
 ·replace H:=if_t hc3 H
  refine zd (za (wd (zg rfl) (wd (zh rfl) (zb (zx ?_)))))
  refine ⟨_,(zS (zf rfl)),?_⟩
  replace S:=S.arr [] []
  obtain rfl:=zce H
  exact ⟨rfl,S⟩
 replace H:=if_f hc3 H
 refine zB (zd (za (wd (zh rfl) (zb (zd (zd (za (wd (zh rfl) (zb ?_)))))))))
 obtain ⟨o4,e4,Ho4⟩ := zr H
 clear H
 refine x6 [5,6,10,11,12,13,14,15,16,17,18,19,20,21,22,23,24,25,26,27,28,29,30,31,32] (fun fr W => ∃ s4:Int × Int,o4 = .inl s4∧fr 5 = .int .i64 s4.1∧fr 6 = .int .i64 s4.2∧St A N w W [oB b2 zj (Term.C (⟨a0.kind,a0.name,a0.other,a0.form,s_0⟩ : Term))] [zn s_0 a0.sub]) ?_ ?_
 ·refine zP ?_
  refine xY (α:=Nat × (Int × Int)) [5,6,10,11,12,13,14,15,16,17,18,19,20,21,22,23,24,25,26,27,28,29,30,31,32] (fun x fr W=>iter (fun s=>zcY.b0 a0 a1 zed s.1 s.2) x.1 x.2=some o4∧fr 5 = .int .i64 (x.2.1)∧fr 6 = .int .i64 (x.2.2)∧St A N w W [oB b2 zj (Term.C (⟨a0.kind,a0.name,a0.other,a0.form,s_0⟩ : Term))] [zn s_0 a0.sub]) (fun x=>x.1) (k,(0,0)) ⟨(by dsimp only; exact e4),rfl,rfl,S⟩ ?_
  rintro ⟨m4,⟨x4_0,x4_1⟩⟩ g4 u4 ⟨e4,q4_5,q4_6,S⟩
  try dsimp only at e4
  try dsimp only at S
  try dsimp only at q4_5
  try dsimp only at q4_6
  obtain ⟨m4,rfl⟩ : ∃ m,m4=m + 1:=⟨m4 - 1,by cases m4 with | zero=>cases e4 | succ m=>rfl⟩
  obtain ⟨q4,H,e4⟩ := iter_s e4
  unfold zcY.b0 at H
  try dsimp only at H
  refine zd (zd (za (wd (zg q4_6) (wd (ze xf rfl (o':=4) rfl) (wd (zl zY rfl ((S.blk 0).cell (Term.get_sub _))) (wd (does_lenF zN rfl (S.onZ 0)) (wd (xQ rfl rfl) ?_)))))))
  refine wd (zL rfl) ?_
  refine wg (fun hg=>zg q4_5) ?_
  refine wg (fun hg=>zg rfl) ?_
  refine wg (fun hg=>jD (zw hg) rfl) ?_
  refine wg (fun hg=>xQ (zw hg) (zw hg)) (wd (xt rfl (fun hp=>(zw (xE hp)))) (zb ?_))
  refine zG rfl (fun hc5=>?_) (fun hc5=>?_)
  rotate_left
  ·replace H:=if_f hc5 H
   refine yn ?_
   obtain rfl:=zce H
   exact ⟨rfl,((((((((((((Dif.self _ _ _).upd rfl _).upd rfl _).upd rfl _).upd rfl _).upd rfl _).upd rfl _).upd rfl _).upd rfl _).upd rfl _).upd rfl _).upd rfl _),(x4_0,x4_1),e4,q4_5,q4_6,S⟩
  replace H:=if_t hc5 H
  refine zB (zd ?_)
  refine zP (za (wd (zg q4_5) (wd (ze xf rfl (o':=4) rfl) (wd (zl zY rfl ((S.blk 0).cell (Term.get_sub _))) (wd (zg q4_6) ?_)))))
  obtain ⟨hi6,H⟩ := xo H
  refine wd (does_indexF zN rfl rfl (S.onZ 0) (zO hi6).1 (zO hi6).2) ?_
  obtain ⟨s7,hc8,S⟩ := S.viewTerm 0 (zO hi6)
  replace S:=S
  refine wd (zm zD rfl hc8 (Term.len _)) (wd (zg rfl) (wd (jD rfl rfl) ?_))
  obtain ⟨r9,er9,H⟩ := zr H
  obtain ⟨B11,MB11,SB11,back⟩ := S.calln 0 ((.z 0 rfl .nil))
  refine zu (zq ca_term_deep) zca (zdV (a0:=(at_ PTerm.z a0.sub x4_1)) SB11 er9) ?_
  rintro _ w10 ⟨rfl,S2⟩
  replace S:=back _ _ _ _ S2 rfl
  clear back S2 SB11
  refine wd (does_max rfl rfl) (wd (zh rfl) (zb (za (wd (zg q4_6) (wd (ki rfl rfl) ?_)))))
  refine wd (zh rfl) (zb ?_)
  replace S:=S.arr [0] [1]
  obtain rfl:=zce H
  exact ⟨rfl,((((((((((((((((((((((((((Dif.self _ _ _).upd rfl _).upd rfl _).upd rfl _).upd rfl _).upd rfl _).upd rfl _).upd rfl _).upd rfl _).upd rfl _).upd rfl _).upd rfl _).upd rfl _).upd rfl _).upd rfl _).upd rfl _).upd rfl _).upd rfl _).upd rfl _).upd rfl _).upd rfl _).upd rfl _).upd rfl _).upd rfl _).upd rfl _).upd rfl _),(m4,((if x4_0 < r9 then r9 else x4_0),IntKind.i64.wrap (x4_1 + 1))),⟨e4,rfl,rfl,S⟩,by dsimp only; omega⟩
 rintro g12 u13 ⟨s4,rfl,p4_5,p4_6,S⟩
 have H:=Ho4
 dsimp only [aft] at H
 refine zd (za (wd (zg p4_5) (wd (ki rfl rfl) (wd (zh rfl) (zb (zx ?_))))))
 refine ⟨_,(zS (zf rfl)),?_⟩
 replace S:=S.arr [] []
 obtain rfl:=zce H
 exact ⟨rfl,S⟩
theorem term_deep_st {a0:PTerm} {s_0:SlV} {a1:Int} (S:St A N w w [] [zn s_0 a0.sub]) {k:Nat} {r:Int} (H:zcY.f k a0 a1=some r) :
  Calls PP zag #[.agg (Term.C (⟨a0.kind,a0.name,a0.other,a0.form,s_0⟩ : Term)).toArray,.int .i64 a1] w fun e w' => ∃ v,e = .returned v∧(v = .int .i64 r∧St A N w w' [] []):=by
 have main : ∀ (k:Nat) {A:Nat→Prop} {N:Oth} {w:World} {a0:PTerm} {s_0:SlV} {a1:Int} (S:St A N w w [] [zn s_0 a0.sub]) {r:Int} (H:zcY.f k a0 a1=some r),Calls PP zag #[.agg (Term.C (⟨a0.kind,a0.name,a0.other,a0.form,s_0⟩ : Term)).toArray,.int .i64 a1] w fun e w' => ∃ v,e = .returned v∧(v = .int .i64 r∧St A N w w' [] []):=by
  intro k
  induction k with
  | zero=>intro A N w a0 s_0 a1 S r H; cases H
  | succ k ih=>intro A N w a0 s_0 a1 S r H; exact term_deep_gst ih S H
 exact main k S H
theorem term_Deep_st {a0:PTerm} {s_0:SlV} (S:St A N w w [] [zn s_0 a0.sub]) {k:Nat} {r:Int} (H:zcZ.f k a0=some r) :
  Calls PP F_term_Deep #[.agg (Term.C (⟨a0.kind,a0.name,a0.other,a0.form,s_0⟩ : Term)).toArray] w fun e w' => ∃ v,e = .returned v∧(v = .int .i64 r∧St A N w w' [] []):=by
 unfold zcZ.f at H
 refine zz (n:=5) fn_term_Deep rfl rfl zcc (zd (za ?_))
 refine zX rfl zca fun b2 w1 hw1=>?_
 replace S:=S.new hw1
 refine wd (zh rfl) (zb (zd (za (wd (zm zD rfl ((S.blk 0).all _ (Term.len _)) (Term.len _)) ?_))))
 obtain ⟨r3,er3,H⟩ := zr H
 obtain ⟨B5,MB5,SB5,back⟩ := S.calln 0 ((.z 0 rfl .nil))
 refine zu (zq ca_term_deep) zca (term_deep_st (a0:=a0) SB5 er3) ?_
 rintro _ w4 ⟨rfl,S2⟩
 replace S:=back _ _ _ _ S2 rfl
 clear back S2 SB5
 refine wd (zh rfl) (zb (zx ?_))
 refine ⟨_,(zS (zf rfl)),?_⟩
 replace S:=S.arr [] []
 obtain rfl:=zce H
 exact ⟨rfl,S⟩
end
section
open Gw Go.RowKit
set_option maxHeartbeats 4000000
set_option maxRecDepth 20000
theorem term_right_1_gst {zee:PTerm→Option Bool} (zdW : ∀ {A:Nat→Prop} {N:Oth} {w:World} {a0:PTerm} {s_0:SlV} (S:St A N w w [] [zn s_0 a0.sub]) {r:Bool} (H:zee a0=some r),Calls PP vP #[.agg (Term.C (⟨a0.kind,a0.name,a0.other,a0.form,s_0⟩ : Term)).toArray] w fun e w' => ∃ v,e = .returned v∧(v = .bool r∧St A N w w' [] [])) {A:Nat→Prop} {N:Oth} {w:World} {a0:PTerm} {s_0:SlV} (S:St A N w w [] [zn s_0 a0.sub]) {r:Bool} (H:zda.g zee a0=some r) :
  Calls PP j9 #[.agg (Term.C (⟨a0.kind,a0.name,a0.other,a0.form,s_0⟩ : Term)).toArray] w fun e w' => ∃ v,e = .returned v∧(v = .bool r∧St A N w w' [] []):=by
 unfold zda.g at H
 refine zz (n:=6) fn_term_right_1 rfl rfl zcc (zd (za ?_))
 refine zX rfl zca fun b2 w1 hw1=>?_
 replace S:=S.new hw1
 refine wd (zo rfl) (zb (zd (za (wd (zm zD rfl ((S.blk 0).all _ (Term.len _)) (Term.len _)) ?_))))
 obtain ⟨r3,er3,H⟩ := zr H
 obtain ⟨B5,MB5,SB5,back⟩ := S.calln 0 ((.z 0 rfl .nil))
 refine zu (zq ca_term_right) zca (zdW (a0:=a0) SB5 er3) ?_
 rintro _ w4 ⟨rfl,S2⟩
 replace S:=back _ _ _ _ S2 rfl
 clear back S2 SB5
 refine wd (xk rfl) (wd (zo rfl) (zb (zx ?_)))
 refine ⟨_,(zS (zf rfl)),?_⟩
 replace S:=S.arr [] []
 obtain rfl:=zce H
 exact ⟨rfl,S⟩
theorem vz {zee:PTerm→Option Bool} (zdW : ∀ {A:Nat→Prop} {N:Oth} {w:World} {a0:PTerm} {s_0:SlV} (S:St A N w w [] [zn s_0 a0.sub]) {r:Bool} (H:zee a0=some r),Calls PP vP #[.agg (Term.C (⟨a0.kind,a0.name,a0.other,a0.form,s_0⟩ : Term)).toArray] w fun e w' => ∃ v,e = .returned v∧(v = .bool r∧St A N w w' [] [])) {A:Nat→Prop} {N:Oth} {w:World} {a0:List PTerm} {s_0:SlV} (S:St A N w w [] [zn s_0 a0]) {r:Int} (H:zdb.g zee a0=some r) :
  Calls PP vq #[s_0.v,.func (.func j9) #[] #[]] w fun e w' => ∃ v,e = .returned v∧(v = .int .i64 r∧St A N w w' [] []):=by
 unfold zdb.g at H
 refine zz (n:=19) jl rfl rfl zcc (zd (za (wd (zh rfl) (zb (zd (zd (za (wd (zA rfl) ?_))))))))
 refine wd (does_lenF zN rfl (S.onZ 0)) (wd (zg rfl) (zb ?_))
 obtain ⟨o1,e1,Ho1⟩ := zr H
 clear H
 refine x6 [4,5,8,9,10,11,12,13,14,15,16,17,18] (fun fr W => ∃ s1:Unit,o1 = .inl s1∧St A N w W [] [zn s_0 a0]) ?_ ?_
 ·refine zP ?_
  refine xY (α:=Nat × Int × Unit) [4,5,8,9,10,11,12,13,14,15,16,17,18] (fun x fr W=>(x.1:Int)=(a0.length:Int) - x.2.1∧0 ≤ x.2.1∧forN (fun i s=>zdb.b0 zee a0 i) x.1 x.2.1 x.2.2=some o1∧fr 8 = .int .i64 x.2.1∧St A N w W [] [zn s_0 a0]) (fun x=>x.1) (((a0.length:Int) - 0).toNat,0,()) ⟨(by dsimp only; have hle:=Int.natCast_nonneg (a0.length); omega),(Int.le_refl _),(by dsimp only; exact e1),rfl,S⟩ ?_
  rintro ⟨m1,i1,_⟩ g1 u1 ⟨hm1,hl1,e1,q1_i,S⟩
  try dsimp only at hm1
  try dsimp only at hl1
  try dsimp only at e1
  try dsimp only at S
  try dsimp only at q1_i
  refine zd (za (wd (xQ q1_i rfl) (zb (zd ?_))))
  refine zG rfl (fun hc2=>?_) (fun hc2=>?_)
  rotate_left
  ·refine yn ?_
   have hge:(a0.length:Int) ≤ i1:=Int.not_lt.1 (of_decide_eq_false hc2)
   obtain rfl:m1=0:=by omega
   replace e1:=zaZ e1
   exact ⟨rfl,((Dif.self _ _ _).upd rfl _),(),e1,S⟩
  refine zB ?_
  have hlt1:i1 < (a0.length:Int):=of_decide_eq_true hc2
  obtain ⟨m1,rfl⟩ : ∃ m,m1=m + 1:=⟨m1 - 1,by omega⟩
  obtain ⟨q1,H,e1⟩ := zba e1
  unfold zdb.b0 at H
  try dsimp only at H
  have hb1:=(S.lenFZ 0)
  refine zd ?_
  refine zP (zd (za (wd (zg q1_i) (wd (zh rfl) (zb (zd (za ?_)))))))
  refine wd (zaJ rfl) (wd (zA rfl) (wd (zg rfl) (wd (does_indexF zN rfl rfl (S.onZ 0) (And.intro (show 0 ≤ i1 by omega) (show i1 < (a0.length:Int) from hlt1)).1 (And.intro (show 0 ≤ i1 by omega) (show i1 < (a0.length:Int) from hlt1)).2) ?_)))
  obtain ⟨s4,hc5,S⟩ := S.viewTerm 0 (And.intro (show 0 ≤ i1 by omega) (show i1 < (a0.length:Int) from hlt1))
  replace S:=S
  refine wd (zm zD rfl hc5 (Term.len _)) ?_
  obtain ⟨r6,er6,H⟩ := zr H
  obtain ⟨B8,MB8,SB8,back⟩ := S.calln 0 ((.z 0 rfl .nil))
  refine zu (kH ca_term_right_1 rfl) zca (term_right_1_gst zdW (a0:=(at_ PTerm.z a0 i1)) SB8 er6) ?_
  rintro _ w7 ⟨rfl,S2⟩
  replace S:=back _ _ _ _ S2 rfl
  clear back S2 SB8
  refine zb ?_
  refine zG rfl (fun hc9=>?_) (fun hc9=>?_)
  ·replace H:=if_t hc9 H
   refine zd (za (wd (zg rfl) (wd (zh rfl) (zb (zx ?_)))))
   refine ⟨_,(zS (zf rfl)),?_⟩
   replace S:=S.arr [] []
   obtain rfl:=zce H
   obtain rfl:=e1
   obtain rfl:=jX Ho1
   exact ⟨rfl,S⟩
  replace H:=if_f hc9 H
  refine zB (za (wd (xK q1_i rfl (c:=i1 + 1) rfl zcb zcb) (wd (zg rfl) (zb ?_))))
  replace S:=S.arr [] [1]
  obtain rfl:=zce H
  exact ⟨rfl,((((((((((((Dif.self _ _ _).upd rfl _).upd rfl _).upd rfl _).upd rfl _).upd rfl _).upd rfl _).upd rfl _).upd rfl _).upd rfl _).upd rfl _).upd rfl _),(m1,i1 + 1,()),⟨(by dsimp only; omega),(by dsimp only; omega),e1,rfl,S⟩,by dsimp only; omega⟩
 rintro g10 u11 ⟨s1,rfl,S⟩
 have H:=Ho1
 dsimp only [aft] at H
 refine zd (za (wd (zh rfl) (zb (zx ?_))))
 refine ⟨_,(zS (zf rfl)),?_⟩
 replace S:=S.arr [] []
 obtain rfl:=zce H
 exact ⟨rfl,S⟩
theorem vl {zee:PTerm→Option Bool} (zdW : ∀ {A:Nat→Prop} {N:Oth} {w:World} {a0:PTerm} {s_0:SlV} (S:St A N w w [] [zn s_0 a0.sub]) {r:Bool} (H:zee a0=some r),Calls PP vP #[.agg (Term.C (⟨a0.kind,a0.name,a0.other,a0.form,s_0⟩ : Term)).toArray] w fun e w' => ∃ v,e = .returned v∧(v = .bool r∧St A N w w' [] [])) {A:Nat→Prop} {N:Oth} {w:World} {a0:List PTerm} {s_0:SlV} (S:St A N w w [] [zn s_0 a0]) {r:Bool} (H:zdc.g zee a0=some r) :
  Calls PP vf #[s_0.v,.func (.func j9) #[] #[]] w fun e w' => ∃ v,e = .returned v∧(v = .bool r∧St A N w w' [] []):=by
 unfold zdc.g at H
 refine zz (n:=9) uL rfl rfl zcc (zd (za (wd (zo rfl) (zb (zd (za (wd (zA rfl) ?_)))))))
 refine wd (zaJ rfl) ?_
 obtain ⟨r1,er1,H⟩ := zr H
 obtain ⟨B3,MB3,SB3,back⟩ := S.calln 0 ((.z 0 rfl .nil))
 refine zu (zq jk) zca (vz zdW SB3 er1) ?_
 rintro _ w2 ⟨rfl,S2⟩
 replace S:=back _ _ _ _ S2 rfl
 clear back S2 SB3
 refine wd (uc rfl rfl) (wd (zo rfl) (zb (zx ?_)))
 refine ⟨_,(zS (zf rfl)),?_⟩
 replace S:=S.arr [] []
 obtain rfl:=zce H
 exact ⟨rfl,S⟩
theorem term_right_gst {zee:PTerm→Option Bool} (zdW : ∀ {A:Nat→Prop} {N:Oth} {w:World} {a0:PTerm} {s_0:SlV} (S:St A N w w [] [zn s_0 a0.sub]) {r:Bool} (H:zee a0=some r),Calls PP vP #[.agg (Term.C (⟨a0.kind,a0.name,a0.other,a0.form,s_0⟩ : Term)).toArray] w fun e w' => ∃ v,e = .returned v∧(v = .bool r∧St A N w w' [] [])) {A:Nat→Prop} {N:Oth} {w:World} {a0:PTerm} {s_0:SlV} (S:St A N w w [] [zn s_0 a0.sub]) {r:Bool} (H:zdd.g zee a0=some r) :
  Calls PP vP #[.agg (Term.C (⟨a0.kind,a0.name,a0.other,a0.form,s_0⟩ : Term)).toArray] w fun e w' => ∃ v,e = .returned v∧(v = .bool r∧St A N w w' [] []):=by
 unfold zdd.g at H
 refine zz (n:=60) fn_term_right rfl rfl zcc (zd (za ?_))
 refine zX rfl zca fun b2 w1 hw1=>?_
 replace S:=S.new hw1
 refine wd (zo rfl) (zb (zd (za (wd (ze vR rfl (o':=0) rfl) (wd (zl y6 rfl ((S.blk 0).cell (Term.get_kind _))) ?_)))))
 obtain ⟨r3,er3,H⟩ := zr H
 obtain ⟨B5,MB5,SB5,back⟩ := S.calln 0 ((.nil))
 refine zu (zq ca_term_shape) zca (term_shape_st SB5 er3) ?_
 rintro _ w4 ⟨rfl,S2⟩
 replace S:=back _ _ _ _ S2 rfl
 clear back S2 SB5
 refine wd (zV rfl) (wd (zt rfl rfl) (wd (zt rfl rfl) (wd (zt rfl rfl) (wd (zt rfl rfl) (wd (zh rfl) ?_)))))
 refine wd (zo rfl) (wd (zo rfl) (wd (zo rfl) (zb (zd (zd (za (wd (zL rfl) ?_)))))))
 refine wd (xk rfl) (wd (zL rfl) ?_)
 refine wg (fun hg=>ze xf rfl (o':=4) rfl) ?_
 refine wg (fun hg=>zl zY (zw hg) ((S.blk 0).cell (Term.get_sub _))) ?_
 refine wg (fun hg=>does_lenF zN (zw hg) (S.onZ 0)) ?_
 refine wg (fun hg=>zg rfl) ?_
 refine wg (fun hg=>xm (zw hg) (zw hg)) (wd (xO rfl (fun hp=>(zw (xE hp)))) (wd (zL rfl) ?_))
 refine wg (fun hg=>ze yD rfl (o':=1) rfl) ?_
 refine wg (fun hg=>zl xq (zw hg) ((S.blk 0).cell (Term.get_name _))) ?_
 refine wg (fun hg=>zL rfl) ?_
 obtain ⟨r6,er6,H⟩ := zr H
 refine yh (j:=9) (pol:=false) rfl rfl rfl zca (fun hg=>zK ca_term_named (zM (zw hg) (zM (zw hg) rfl))) zca (fun hg=>(have ⟨M,SS⟩ := S.lend ((.nil)); quiet (term_named_st SS (if_t (by simpa using hg) er6)) (fun v w' h=>⟨h.1,_,_,h.2⟩))) fun w7 hw7=>?_
 replace S:=S.ext hw7
 refine wg (fun hg=>xk (zw hg)) (wd (xO rfl (fun hp=>(zw (xE hp)))) (wd (zL rfl) ?_))
 refine wg (fun hg=>ze vX rfl (o':=2) rfl) ?_
 refine wg (fun hg=>zl xq (zw hg) ((S.blk 0).cell (Term.get_other _))) ?_
 refine wg (fun hg=>zL rfl) ?_
 obtain ⟨r8,er8,H⟩ := zr H
 refine yh (j:=16) (pol:=false) rfl rfl rfl zca (fun hg=>zK ca_term_named (zM (zw hg) (zM (zw hg) rfl))) zca (fun hg=>(have ⟨M,SS⟩ := S.lend ((.nil)); quiet (term_named_st SS (if_t (by simpa using hg) er8)) (fun v w' h=>⟨h.1,_,_,h.2⟩))) fun w9 hw9=>?_
 replace S:=S.ext hw9
 refine wg (fun hg=>xk (zw hg)) (wd (xO rfl (fun hp=>(zw (xE hp)))) (zb ?_))
 refine zG rfl (fun hc10=>?_) (fun hc10=>?_)
 ·replace H:=if_t hc10 H
  refine zd (za (wd (zo rfl) (zb (zx ?_))))
  refine ⟨_,(zS (zf rfl)),?_⟩
  replace S:=S.arr [] []
  obtain rfl:=zce H
  exact ⟨rfl,S⟩
 replace H:=if_f hc10 H
 refine zB (zd (zd (za (wd (ze vR rfl (o':=0) rfl) (wd (zl y6 rfl ((S.blk 0).cell (Term.get_kind _))) (wd (xm rfl rfl) (wd (zL rfl) ?_)))))))
 refine wg (fun hg=>ze vu rfl (o':=3) rfl) ?_
 refine wg (fun hg=>zl zR (zw hg) ((S.blk 0).cell (Term.get_form _))) ?_
 refine wg (fun hg=>xm (zw hg) rfl) (wd (xt rfl (fun hp=>(zw (xE hp)))) (wd (zL rfl) ?_))
 refine wg (fun hg=>ze vu rfl (o':=3) rfl) ?_
 refine wg (fun hg=>zl zR (zw hg) ((S.blk 0).cell (Term.get_form _))) ?_
 refine wg (fun hg=>xQ (zw hg) rfl) (wd (xO rfl (fun hp=>(zw (xE hp)))) (wd (zL rfl) ?_))
 refine wg (fun hg=>ze vu rfl (o':=3) rfl) ?_
 refine wg (fun hg=>zl zR (zw hg) ((S.blk 0).cell (Term.get_form _))) ?_
 refine wg (fun hg=>uc (zw hg) rfl) (wd (xO rfl (fun hp=>(zw (xE hp)))) (zb ?_))
 refine zG rfl (fun hc11=>?_) (fun hc11=>?_)
 ·replace H:=if_t hc11 H
  refine zd (za (wd (zo rfl) (zb (zx ?_))))
  refine ⟨_,(zS (zf rfl)),?_⟩
  replace S:=S.arr [] []
  obtain rfl:=zce H
  exact ⟨rfl,S⟩
 replace H:=if_f hc11 H
 refine zB (zd (za (wd (ze xf rfl (o':=4) rfl) (wd (zl zY rfl ((S.blk 0).cell (Term.get_sub _))) ?_))))
 obtain ⟨r12,er12,H⟩ := zr H
 obtain ⟨B14,MB14,SB14,back⟩ := S.calln 0 ((.z 0 rfl .nil))
 refine zu (zq uI) zca (vl zdW SB14 er12) ?_
 rintro _ w13 ⟨rfl,S2⟩
 replace S:=back _ _ _ _ S2 rfl
 clear back S2 SB14
 refine wd (xk rfl) (wd (zo rfl) (zb (zx ?_)))
 refine ⟨_,(zS (zf rfl)),?_⟩
 replace S:=S.arr [] []
 obtain rfl:=zce H
 exact ⟨rfl,S⟩
theorem term_right_st {A:Nat→Prop} {N:Oth} {w:World} {a0:PTerm} {s_0:SlV} (S:St A N w w [] [zn s_0 a0.sub]) {k:Nat} {r:Bool} (H:zdd.f k a0=some r) :
  Calls PP vP #[.agg (Term.C (⟨a0.kind,a0.name,a0.other,a0.form,s_0⟩ : Term)).toArray] w fun e w' => ∃ v,e = .returned v∧(v = .bool r∧St A N w w' [] []):=by
 have main : ∀ (k:Nat) {A:Nat→Prop} {N:Oth} {w:World} {a0:PTerm} {s_0:SlV} (S:St A N w w [] [zn s_0 a0.sub]) {r:Bool} (H:zdd.f k a0=some r),Calls PP vP #[.agg (Term.C (⟨a0.kind,a0.name,a0.other,a0.form,s_0⟩ : Term)).toArray] w fun e w' => ∃ v,e = .returned v∧(v = .bool r∧St A N w w' [] []):=by
  intro k
  induction k with
  | zero=>intro A N w a0 s_0 S r H; cases H
  | succ k ih=>intro A N w a0 s_0 S r H; exact term_right_gst ih S H
 exact main k S H
theorem term_Check_st {A:Nat→Prop} {N:Oth} {w:World} {a0:PTerm} {s_0:SlV} (S:St A N w w [] [zn s_0 a0.sub]) {k:Nat} {r:Int} (H:zde.f k a0=some r) :
  Calls PP F_term_Check #[.agg (Term.C (⟨a0.kind,a0.name,a0.other,a0.form,s_0⟩ : Term)).toArray] w fun e w' => ∃ v,e = .returned v∧(v = .int .i64 r∧St A N w w' [] []):=by
 unfold zde.f at H
 refine zz (n:=16) fn_term_Check rfl rfl zcc (zd (za ?_))
 refine zX rfl zca fun b2 w1 hw1=>?_
 replace S:=S.new hw1
 refine wd (zh rfl) (zb (zd ?_))
 refine zP (zd (za (wd (zm zD rfl ((S.blk 0).all _ (Term.len _)) (Term.len _)) ?_)))
 obtain ⟨r3,er3,H⟩ := zr H
 obtain ⟨B5,MB5,SB5,back⟩ := S.calln 0 ((.z 0 rfl .nil))
 refine zu (zq ca_term_Size) zca (term_Size_st (a0:=a0) SB5 er3) ?_
 rintro _ w4 ⟨rfl,S2⟩
 replace S:=back _ _ _ _ S2 rfl
 clear back S2 SB5
 refine wd (kU rfl rfl) (wd (zL rfl) ?_)
 refine wg (fun hg=>zm zD rfl ((S.blk 0).all _ (Term.len _)) (Term.len _)) ?_
 obtain ⟨r6,er6,H⟩ := zr H
 refine yh (j:=3) (pol:=false) rfl rfl rfl zca (fun hg=>zK ca_term_Deep (zM (zw hg) rfl)) zca (fun hg=>(have ⟨M,SS⟩ := S.lend ((.z 0 rfl .nil)); quiet (term_Deep_st (a0:=a0) SS (if_t (by simpa using hg) er6)) (fun v w' h=>⟨h.1,_,_,h.2⟩))) fun w7 hw7=>?_
 replace S:=S.ext hw7
 refine wg (fun hg=>kU (zw hg) rfl) (wd (xO rfl (fun hp=>(zw (xE hp)))) (wd (zo rfl) (zb ?_)))
 refine zG rfl (fun hc8=>?_) (fun hc8=>?_)
 ·replace H:=if_t hc8 H
  refine zd (za (wd (zh rfl) (zb (zx ?_))))
  refine ⟨_,(zS (zf rfl)),?_⟩
  replace S:=S.arr [] []
  obtain rfl:=zce H
  exact ⟨rfl,S⟩
 replace H:=if_f hc8 H
 refine zd (za (wd (zm zD rfl ((S.blk 0).all _ (Term.len _)) (Term.len _)) ?_))
 obtain ⟨r9,er9,H⟩ := zr H
 obtain ⟨B11,MB11,SB11,back⟩ := S.calln 0 ((.z 0 rfl .nil))
 refine zu (zq ca_term_right) zca (term_right_st (a0:=a0) SB11 er9) ?_
 rintro _ w10 ⟨rfl,S2⟩
 replace S:=back _ _ _ _ S2 rfl
 clear back S2 SB11
 refine wd (xk rfl) (wd (zo rfl) (zb ?_))
 refine zG rfl (fun hc12=>?_) (fun hc12=>?_)
 ·replace H:=if_t hc12 H
  refine zd (za (wd (zh rfl) (zb (zx ?_))))
  refine ⟨_,(zS (zf rfl)),?_⟩
  replace S:=S.arr [] []
  obtain rfl:=zce H
  exact ⟨rfl,S⟩
 replace H:=if_f hc12 H
 refine zB (zd (za (wd (zh rfl) (zb (zx ?_)))))
 refine ⟨_,(zS (zf rfl)),?_⟩
 replace S:=S.arr [] []
 obtain rfl:=zce H
 exact ⟨rfl,S⟩
end
section
open Gw Go.RowKit
set_option maxHeartbeats 4000000
set_option maxRecDepth 20000
theorem types_at_st {A:Nat→Prop} {N:Oth} {w:World} {a0:Int} {a1:Option (Int × List Int)} {v_1:Value} (S:St A N w w [oE v_1 a1] [oEt]) {r:(Option (Int × List Int))} (H:zdf.f a0 a1=some r) :
  Calls PP F_types_at #[.int .i64 a0,v_1] w fun e w' => ∃ v,e = .returned v∧(∃ vo0:Value,v=vo0∧St A N w w' [oE vo0 r] []):=by
 unfold zdf.f at H
 refine zz (n:=20) fn_types_at rfl rfl zcc ?_
 rcases a1 with _ | ⟨c0,up0⟩
 ·obtain rfl:=S.seeE 0
  replace S:=S
  refine zd (za (wd (zE rfl) (zb (zd (za ?_)))))
  refine xd uA zca fun b2 w1 hw1=>?_
  replace S:=S.new hw1
  refine zb (zd (zd (za (wd (xb rfl) (wd (does_mkIface zcd rfl) ?_)))))
  refine zu (zK zaB (zM rfl (zM rfl rfl))) zca (errors_As_no _ _) ?_
  rintro _ w3 ⟨rfl,hx⟩
  replace S:=S.ext hx
  clear hx
  refine zb ?_
  refine zat rfl (zB (zd (za (wd (xb rfl) (wd (zE rfl) (zb (zx ?_)))))))
  refine ⟨_,(zS (zf rfl)),?_⟩
  replace S:=S.arr [1] []
  obtain rfl:=zce H
  exact ⟨.nilIface,rfl,S⟩
 ·obtain ⟨b0,s0,rfl,S⟩ := S.openE 0
  replace S:=S
  refine zd (za (wd (zE rfl) (zb (zd (za ?_)))))
  refine xd uA zca fun b6 w5 hw5=>?_
  replace S:=S.new hw5
  refine zb (zd (zd (za (wd (xb rfl) (wd (does_mkIface zcd rfl) ?_)))))
  refine zu (zK zaB (zM rfl (zM rfl rfl))) zca (errors_As_yes _ (S.et 0) (S.blk 0)) ?_
  rintro _ w7 ⟨rfl,hc,hb⟩
  replace S:=S.store 0 hb hc
  clear hc hb
  refine zb ?_
  refine wc_true rfl ?_
  obtain ⟨ha9,H⟩ := xo H
  have ha9:=of_decide_eq_true ha9
  have hSO:=S.sl 2
  have hSlt:=hSO.lt
  have SH : ∀ v,Chg s0.fp w7 v→St A (N.or s0.fp) w v [oB b6 T_P_types_refusal [.pointer (some ⟨b0,0,none⟩)],oB b0 zaI (Refusal.C (⟨c0,s0⟩ : Refusal))] [oEt]:=fun v hc=>S.away 2 (hc:=hc)
  refine wc_draw 8 ⟨fun L v=>Chg s0.fp w7 v∧(L 7=false→Ext w7 v),fun L a b=>Chg s0.fp a b∧(L 7=true→Ext a b),fun i v u=>match i with
   | 0=>v=Value.pointer (some ⟨b0,0,none⟩)
   | 1=>v=Value.pointer (some ⟨b0,0,none⟩)
   | 2=>v=Value.pointer (some ⟨b0,0,none⟩)
   | 3=>v=Value.pointer (some ⟨b0,1,none⟩)
   | 4=>v=s0.v
   | 5=>v=Value.int .i64 a0
   | 6 => ∃ b sl,v=SlV.v sl∧sl=⟨some ⟨b,0,none⟩,1,1⟩ ∧ Blk u b xB (IC a0)∧¬ s0.fp b
   | 7 => ∃ s',v=SlV.v s'∧Own u 0 xB 1 s' ((up0 ++ [a0]).map IC) ∧ ∀ i,s'.fp i→s0.fp i∨w7.heap.size ≤ i
   | _=>True⟩ hmix zcd ?_ ⟨(Ext.drawn _).mono (fun _ _ x=>x.elim),fun _=>Ext.drawn _⟩ ⟨?_,?_,?_,?_,?_,?_,?_,?_,trivial⟩ ?_
  ·intro L i v a b hLi hle hv
   match i,hLi,hv with
   | 0,_,hv=>exact hv
   | 1,_,hv=>exact hv
   | 2,_,hv=>exact hv
   | 3,_,hv=>exact hv
   | 4,_,hv=>exact hv
   | 5,_,hv=>exact hv
   | 6,_,⟨b,sl,e1,e2,hb,hn⟩ => exact ⟨b,sl,e1,e2,hb.chg hle.1 hn,hn⟩
   | 7,hLi,⟨s',e1,ho,hg⟩ => exact ⟨s',e1,ho.ext (hle.2 hLi),hg⟩
   | _ + 8,_,_=>exact trivial
  ·rintro L g v hL hT 
   refine wd (zl vI rfl (((SH v hT.1).blk 0).cell rfl)) (zb (ob ⟨hT.1,fun h=>hT.2 h⟩ ⟨Chg.refl _ _,fun _=>Ext.refl _⟩ rfl))
  ·rintro L g v hL hT 
   refine wd (zl vI rfl (((SH v hT.1).blk 0).cell rfl)) (zb (ob ⟨hT.1,fun h=>hT.2 h⟩ ⟨Chg.refl _ _,fun _=>Ext.refl _⟩ rfl))
  ·rintro L g v hL hT hv1
   refine wd (zC hv1) (zb (ob ⟨hT.1,fun h=>hT.2 h⟩ ⟨Chg.refl _ _,fun _=>Ext.refl _⟩ rfl))
  ·rintro L g v hL hT hv2
   refine wd (ze kj hv2 (o':=1) rfl) (zb (ob ⟨hT.1,fun h=>hT.2 h⟩ ⟨Chg.refl _ _,fun _=>Ext.refl _⟩ rfl))
  ·rintro L g v hL hT hv3
   refine wd (zl on_L_int hv3 (((SH v hT.1).blk 1).cell (Refusal.get_up_ _))) (zb (ob ⟨hT.1,fun h=>hT.2 h⟩ ⟨Chg.refl _ _,fun _=>Ext.refl _⟩ rfl))
  ·rintro L g v hL hT 
   refine wd (zg rfl) (zb (ob ⟨hT.1,fun h=>hT.2 h⟩ ⟨Chg.refl _ _,fun _=>Ext.refl _⟩ rfl))
  ·rintro L g v hL hT hv5
   refine wl_lit1 xG kI.zero hv5 rfl rfl zca zca fun b v' sl hn hq=>zb (ob ⟨hT.1.thenExt hn.ext,fun h=>(hT.2 h).trans hn.ext⟩ ⟨hn.ext.mono (fun _ _ x=>x.elim),fun _=>hn.ext⟩ ⟨b,sl,rfl,hq,hn.blk,fun e=>by have:=hSlt _ e; have:=hn.at_; have:=hT.1.size; omega⟩)
  ·rintro L g v hL hT hv4 ⟨b,sl,hv6,hq,hb,hnb⟩
   refine wl_push (C:=IC) xG kI hv4 hv6 (hSO.ext (hT.2 hL)) hb hq rfl (fun v hv=>by rw [List.mem_singleton.1 hv]; rfl) ha9 zcb zca fun s' v' ho hc hg=>zb (ob ⟨hT.1.trans hc,fun h=>(by cases h)⟩ ⟨hc,fun h=>(by rw [hL] at h; cases h)⟩ ⟨s',rfl,ho,fun i e=>(hg i e).imp id (fun h=>Nat.le_trans hT.1.size h)⟩)
  rintro L g w10 hLm hT hv12_0 hv12_1 hv12_2 hv12_3 hv12_4 hv12_5 ⟨b,sl,hv12_6,hq,hb,hnb⟩ ⟨s11,hv12_7,O,gO⟩
  replace S:=S.push 2 O (by rw [List.length_append,List.length_singleton]; omega) hT.1 gO
  clear O gO SH hSO hSlt
  refine wd (zC hv12_0) (wd (ze kj rfl (o':=1) rfl) ?_)
  refine yI on_L_int rfl hv12_7 (S.blk 2) (by rw [Refusal.len]; decide) (SlV.one _ _ rfl) (Refusal.set_up_ _ _) fun w13 B hw13 zw13=>?_
  replace S:=S.store 2 B hw13
  clear B
  refine zb (zd (za (wd (xb rfl) (wd (zE rfl) (zb (zx ?_))))))
  replace S:=((S.front 1).front 1).mkE
  refine ⟨_,(zS (zf rfl)),?_⟩
  replace S:=S.arr [0] []
  obtain rfl:=zce H
  exact ⟨(.iface xS (.pointer (some ⟨b0,0,none⟩))),rfl,S⟩
theorem types_code_st {A:Nat→Prop} {N:Oth} {w:World} {a0:Option (Int × List Int)} {v_0:Value} (S:St A N w w [oE v_0 a0] [oEt]) {r:List Int × Int} (H:zdg.f a0=some r) :
  Calls PP F_types_code #[v_0] w fun e w' => ∃ v,e = .returned v∧(∃ so0:SlV,v = .tuple #[so0.v,.int .i64 r.2]∧St A N w w' [oS xB 1 IC so0 r.1] []):=by
 unfold zdg.f at H
 refine zz (n:=22) fn_types_code rfl rfl zcc ?_
 rcases a0 with _ | ⟨c0,up0⟩
 ·obtain rfl:=S.seeE 0
  replace S:=S
  refine zd (za (wd (xw) (wd (zh rfl) (zb (zd (za ?_))))))
  refine xd uA zca fun b2 w1 hw1=>?_
  replace S:=S.new hw1
  refine zb (zd (zd (za (wd (xb rfl) (wd (does_mkIface zcd rfl) ?_)))))
  refine zu (zK zaB (zM rfl (zM rfl rfl))) zca (errors_As_no _ _) ?_
  rintro _ w3 ⟨rfl,hx⟩
  replace S:=S.ext hx
  clear hx
  refine wd (xk rfl) (zb ?_)
  refine wc_true rfl (zd (za (wd (xw) (wd (zh rfl) (zb (zx ?_))))))
  replace S:=S.nil xB 1 IC
  refine ⟨_,(xn (zf rfl) (zf rfl)),?_⟩
  replace S:=S.arr [0] []
  obtain rfl:=zce H
  exact ⟨SlV.nil,rfl,S⟩
 ·obtain ⟨b0,s0,rfl,S⟩ := S.openE 0
  replace S:=S
  refine zd (za (wd (xw) (wd (zh rfl) (zb (zd (za ?_))))))
  refine xd uA zca fun b6 w5 hw5=>?_
  replace S:=S.new hw5
  refine zb (zd (zd (za (wd (xb rfl) (wd (does_mkIface zcd rfl) ?_)))))
  refine zu (zK zaB (zM rfl (zM rfl rfl))) zca (errors_As_yes _ (S.et 0) (S.blk 0)) ?_
  rintro _ w7 ⟨rfl,hc,hb⟩
  replace S:=S.store 0 hb hc
  clear hc hb
  refine wd (xk rfl) (zb ?_)
  refine zat rfl (zB (zd (za (wd (zl vI rfl ((S.blk 0).cell rfl)) (wd (zC rfl) (wd (ze kj rfl (o':=1) rfl) ?_))))))
  refine wd (zl on_L_int rfl ((S.blk 1).cell (Refusal.get_up_ _))) ?_
  obtain ⟨r9,er9,H⟩ := zr H
  replace S:=S.front 2
  obtain ⟨B11,MB11,SB11,back⟩ := S.calln 1 ((.nil))
  refine zu (zq zbk) zca (zbo SB11 er9) ?_
  rintro _ w10 ⟨rfl,S2⟩
  replace S:=back _ _ _ _ S2 rfl
  clear back S2 SB11
  refine zb (zd ?_)
  refine yz 9 (Ext w10) hmix zcd zcd (Ext.drawn _) (zy (fun v K=>zl vI rfl (((S.ext K).blk 1).cell rfl)) (zy (fun v K=>zC rfl) (zy (fun v K=>ze kj rfl (o':=1) rfl) (zy (fun v K=>zl on_L_int rfl (((S.ext K).blk 2).cell (Refusal.get_up_ _))) (zy (fun v K=>zl vI rfl (((S.ext K).blk 1).cell rfl)) ?_)))))
  refine zy (fun v K=>zC rfl) (zy (fun v K=>ze fl_Refusal_code rfl (o':=0) rfl) (zy (fun v K=>zl xX rfl (((S.ext K).blk 2).cell (Refusal.get_code _))) (zy (fun v K=>xP rfl) ?_)))
  refine vD fun w12 K=>?_
  replace S:=S.ext K
  clear K
  refine wd (zh rfl) (zb (zx ?_))
  refine ⟨_,(xn (zf rfl) (zf rfl)),?_⟩
  replace S:=S.arr [0] []
  obtain rfl:=zce H
  exact ⟨s0,rfl,S⟩
end
section
open Gw Go.RowKit
set_option maxHeartbeats 4000000
set_option maxRecDepth 20000
variable {A:Nat→Prop} {N:Oth} {w:World}
theorem vN {a0:PChecker} {a_0:Option Addr} {a1:Int} {a2:Int} (S:St A N w w [] [oT a_0 a0.t]) {r:Nd × (Option (Int × List Int))} (H:zdh.f a0 a1 a2=some r) :
  Calls PP zai #[.agg (Checker.C (⟨a_0⟩ : Checker)).toArray,.int .i64 a1,.int .i64 a2] w fun e w' => ∃ v,e = .returned v∧(∃ vo0:Value,v = .tuple #[.agg (Nd.C r.1).toArray,vo0]∧St A N w w' [oE vo0 r.2] []):=by
 unfold zdh.f at H
 refine zz (n:=26) fn_types_checker_node rfl rfl zcc (zd (za ?_))
 refine zX rfl zca fun b2 w1 hw1=>?_
 replace S:=S.new hw1
 refine xd uD zca fun b4 w3 hw3=>?_
 replace S:=S.new hw3
 refine wd (zE rfl) (zb (zd (za (wd (ze fl_Checker_t rfl (o':=0) rfl) (wd (zl xA rfl ((S.blk 1).cell (Checker.get_t _))) (wd (zg rfl) ?_))))))
 obtain ⟨r5,er5,H⟩ := zr H
 obtain ⟨B7,MB7,SB7,back⟩ := S.calln 0 ((.z 0 rfl .nil))
 refine zu (zq yv) zca (yx SB7 er5) ?_
 rintro _ w6 ⟨rfl,S2⟩
 replace S:=back _ _ _ _ S2 rfl
 clear back S2 SB7
 refine wd (zV rfl) (wd (zt rfl rfl) (wd (zt rfl rfl) ?_))
 refine xd uD zca fun b9 w8 hw8=>?_
 replace S:=S.new hw8
 refine zI x7 rfl rfl (S.blk 0) (Nd.len _) (by rw [Nd.len]; decide) (Nd.one _) (zT (Nd.len _)) fun w10 B hw10 zw10=>?_
 replace S:=S.store 0 B hw10
 clear B
 refine wd (zo rfl) (zb (zd (zd (za (wd (ze zaY rfl (o':=0) rfl) (wd (zl jh rfl ((S.blk 0).cell (Nd.get_kind _))) (wd (zg rfl) (wd (xm rfl rfl) (zb ?_)))))))))
 refine zG rfl (fun hc11=>?_) (fun hc11=>?_)
 ·replace H:=if_t hc11 H
  refine zd (za (wd (zm x7 rfl ((S.blk 0).all _ (Nd.len _)) (Nd.len _)) (wd (Does.to (v' := .agg (Refusal.C (⟨130,SlV.nil⟩ : Refusal)).toArray) (xF (vs:=[(0,.int .i64 130)]) kE (yl rfl rfl) (Bld.one rfl rfl (by rw [Refusal.len]; decide) (Refusal.set_code _ _) Bld.nil)) rfl) ?_)))
  refine zX rfl zca fun b13 w12 hw12=>?_
  replace S:=S.new hw12
  refine wd (does_makeInterface rfl) ?_
  replace S:=((S.nil xB 1 IC).front 1).mkE
  refine zI x7 rfl rfl (S.blk 2) (Nd.len _) (by rw [Nd.len]; decide) (Nd.one _) (zT (Nd.len _)) fun w14 B hw14 zw14=>?_
  replace S:=S.store 2 B hw14
  clear B
  refine wd (zE rfl) (zb (zx ?_))
  refine ⟨_,(xn (xI x7 rfl ((S.blk 0).all _ (Nd.len _)) (Nd.len _)) (zf rfl)),?_⟩
  replace S:=S.arr [1] []
  obtain rfl:=zce H
  exact ⟨(.iface xS (.pointer (some ⟨b13,0,none⟩))),rfl,S⟩
 replace H:=if_f hc11 H
 refine zB (zd (za (wd (zm x7 rfl ((S.blk 0).all _ (Nd.len _)) (Nd.len _)) ?_)))
 refine zI x7 rfl rfl (S.blk 1) (Nd.len _) (by rw [Nd.len]; decide) (Nd.one _) (zT (Nd.len _)) fun w15 B hw15 zw15=>?_
 replace S:=S.store 1 B hw15
 clear B
 refine wd (zE rfl) (zb (zx ?_))
 replace S:=S.nilE
 refine ⟨_,(xn (xI x7 rfl ((S.blk 1).all _ (Nd.len _)) (Nd.len _)) (zf rfl)),?_⟩
 replace S:=S.arr [0] []
 obtain rfl:=zce H
 exact ⟨.nilIface,rfl,S⟩
theorem yG {zeg:PChecker→PTerm→(List (ByteArray × Int))→Option (Int × (Option (Int × List Int)))} (zdY : ∀ {A:Nat→Prop} {N:Oth} {w:World} {a0:PChecker} {a_0:Option Addr} {a1:PTerm} {s_1:SlV} {a2:List (ByteArray × Int)} {a_2:Option Addr} (S:St A N w w [] [oT a_0 a0.t,zn s_1 a1.sub,x8 a_2 a2,oEt]) {r:Int × (Option (Int × List Int))} (H:zeg a0 a1 a2=some r),Calls PP ye #[.agg (Checker.C (⟨a_0⟩ : Checker)).toArray,.agg (Term.C (⟨a1.kind,a1.name,a1.other,a1.form,s_1⟩ : Term)).toArray,.pointer a_2] w fun e w' => ∃ v,e = .returned v∧(∃ vo0:Value,v = .tuple #[.int .i64 r.1,vo0]∧St A N w w' [oE vo0 r.2] [])) {A:Nat→Prop} {N:Oth} {w:World} {a0:PChecker} {a_0:Option Addr} {a1:PTerm} {s_1:SlV} {a2:Int} {a3:List (ByteArray × Int)} {a_3:Option Addr} (S:St A N w w [] [oT a_0 a0.t,zn s_1 a1.sub,x8 a_3 a3,oEt]) {r:Int × (Option (Int × List Int))} (H:zdi.g zeg a0 a1 a2 a3=some r) :
  Calls PP zaj #[.agg (Checker.C (⟨a_0⟩ : Checker)).toArray,.agg (Term.C (⟨a1.kind,a1.name,a1.other,a1.form,s_1⟩ : Term)).toArray,.int .i64 a2,.pointer a_3] w fun e w' => ∃ v,e = .returned v∧(∃ vo0:Value,v = .tuple #[.int .i64 r.1,vo0]∧St A N w w' [oE vo0 r.2] []):=by
 unfold zdi.g at H
 refine zz (n:=27) fn_types_checker_part rfl rfl zcc (zd (za ?_))
 refine zX rfl zca fun b2 w1 hw1=>?_
 replace S:=S.new hw1
 refine zX rfl zca fun b4 w3 hw3=>?_
 replace S:=S.new hw3
 refine wd (zh rfl) (wd (zE rfl) (zb (zd ?_)))
 refine wc_ws hmix fun w10 K=>?_
 replace S:=S.ext K
 clear K
 obtain ⟨hi11,H⟩ := xo H
 obtain ⟨s12,hc13,S⟩ := S.viewTerm 1 (zO hi11)
 replace S:=S.zs [1,2,3,4,0]
 refine zbA 0 7 [] zcd zca zcd
  (V:=fun i v u=>match i with
  | _=>True) ?_ ?_
 ·intro i v u u' hi hx hv
  match i,hv with
  | _,_=>exact trivial
 refine zQ (fun v K=>zm xr rfl (((S.ext K).blk 1).all _ (Checker.len _)) (Checker.len _)) rfl (zQ (fun v K=>ze xf rfl (o':=4) rfl) rfl (zQ (fun v K=>zl zY rfl (((S.ext K).blk 0).cell (Term.get_sub _))) rfl (zQ (fun v K=>zg rfl) rfl (zQ (fun v K=>does_indexF zN rfl rfl ((S.ext K).onZ 1) (zO hi11).1 (zO hi11).2) rfl (zQ (fun v K=>zm zD rfl (hc13.chg K (fun x=>x)) (Term.len _)) rfl (zQ (fun v K=>zk rfl) rfl ?_))))))
 refine jx fun g w14 K hV=>?_
 replace S:=S.ext K
 clear K hV
 refine ws_chain 7 9 zcd zca ?_
 obtain ⟨r16,er16,H⟩ := zr H
 obtain ⟨B18,MB18,SB18,back⟩ := S.calln 0 ((.z 0 rfl (.z 4 rfl (.z 2 rfl (.z 3 rfl .nil)))))
 refine zu (zq uJ) zca (zdY (a0:=a0) (a1:=(at_ PTerm.z a1.sub a2)) SB18 er16) ?_
 rintro _ w17 ⟨v19,rfl,S2⟩
 replace S:=back _ _ _ _ S2 rfl
 clear back S2 SB18
 refine wd (zV rfl) (zb ⟨rfl,?_⟩)
 refine zbA 9 12 [] zcd zca zcd
  (V:=fun i v u=>match i with
  | _=>True) ?_ ?_
 ·intro i v u u' hi hx hv
  match i,hv with
  | _,_=>exact trivial
 refine zQ (fun v K=>zt rfl rfl) rfl (zQ (fun v K=>zt rfl rfl) rfl (zQ (fun v K=>zh rfl) rfl ?_))
 refine jx fun g w20 K hV=>?_
 replace S:=S.ext K
 clear K hV
 refine ws_tail 12 zcd zca (wd (zE rfl) (zb (zd (za (wd (zg rfl) (wd (zg rfl) (wd (xb rfl) ?_)))))))
 obtain ⟨r22,er22,H⟩ := zr H
 obtain ⟨B24,MB24,SB24,back⟩ := S.calln 1 ((.z 3 rfl .nil))
 refine zu (zq ca_types_at) zca (types_at_st (a1:=r16.2) SB24 er22) ?_
 rintro v25 w23 ⟨_,rfl,S2⟩
 replace S:=back _ _ _ _ S2 rfl
 clear back S2 SB24
 refine wd (zh rfl) (wd (zE rfl) (zb (zx ?_)))
 refine ⟨_,(xn (zf rfl) (zf rfl)),?_⟩
 replace S:=S.arr [0] []
 obtain rfl:=zce H
 exact ⟨v25,rfl,S⟩
theorem xz {zef:PChecker→PTerm→(List (ByteArray × Int))→Int→Option (Option (Int × List Int))} (zdX : ∀ {A:Nat→Prop} {N:Oth} {w:World} {a0:PChecker} {a_0:Option Addr} {a1:PTerm} {s_1:SlV} {a2:List (ByteArray × Int)} {a_2:Option Addr} {a3:Int} (S:St A N w w [] [oT a_0 a0.t,zn s_1 a1.sub,x8 a_2 a2,oEt]) {r:(Option (Int × List Int))} (H:zef a0 a1 a2 a3=some r),Calls PP ya #[.agg (Checker.C (⟨a_0⟩ : Checker)).toArray,.agg (Term.C (⟨a1.kind,a1.name,a1.other,a1.form,s_1⟩ : Term)).toArray,.pointer a_2,.int .i64 a3] w fun e w' => ∃ v,e = .returned v∧(∃ vo0:Value,v=vo0∧St A N w w' [oE vo0 r] [])) {A:Nat→Prop} {N:Oth} {w:World} {a0:PChecker} {a_0:Option Addr} {a1:PTerm} {s_1:SlV} {a2:Int} {a3:List (ByteArray × Int)} {a_3:Option Addr} {a4:Int} (S:St A N w w [] [oT a_0 a0.t,zn s_1 a1.sub,x8 a_3 a3,oEt]) {r:(Option (Int × List Int))} (H:zdj.g zef a0 a1 a2 a3 a4=some r) :
  Calls PP kB #[.agg (Checker.C (⟨a_0⟩ : Checker)).toArray,.agg (Term.C (⟨a1.kind,a1.name,a1.other,a1.form,s_1⟩ : Term)).toArray,.int .i64 a2,.pointer a_3,.int .i64 a4] w fun e w' => ∃ v,e = .returned v∧(∃ vo0:Value,v=vo0∧St A N w w' [oE vo0 r] []):=by
 unfold zdj.g at H
 refine zz (n:=22) fn_types_checker_check rfl rfl zcc (zd (za ?_))
 refine zX rfl zca fun b2 w1 hw1=>?_
 replace S:=S.new hw1
 refine zX rfl zca fun b4 w3 hw3=>?_
 replace S:=S.new hw3
 refine wd (zE rfl) (zb (zd ?_))
 obtain ⟨hi5,H⟩ := xo H
 obtain ⟨s6,hc7,S⟩ := S.viewTerm 1 (zO hi5)
 replace S:=S.zs [1,2,3,4,0]
 obtain ⟨r8,er8,H⟩ := zr H
 refine zbz 10 [9]
  (fun i v u=>match i with
  | 9 => ∃ v9:Value,v=v9 ∧ ∃ F,(oE v9 r8).holds u F ∧ ∀ i,F i→w3.heap.size ≤ i
  | _=>True) hmix zcd zcd ?_ ?_
 ·intro i v u u' hi hx hv
  match i,hv with
  | 9,⟨b,e1,F,hb,hl⟩ => exact ⟨b,e1,F,OA.loc _ hb hx (fun _ _ x=>x),hl⟩
  | 0,_=>exact trivial
  | 1,_=>exact trivial
  | 2,_=>exact trivial
  | 3,_=>exact trivial
  | 4,_=>exact trivial
  | 5,_=>exact trivial
  | 6,_=>exact trivial
  | 7,_=>exact trivial
  | 8,_=>exact trivial
  | _ + 10,_=>exact trivial
 refine zQ (fun v K=>zg rfl) rfl (zQ (fun v K=>zm xr rfl (((S.ext K).blk 1).all _ (Checker.len _)) (Checker.len _)) rfl (zQ (fun v K=>ze xf rfl (o':=4) rfl) rfl (zQ (fun v K=>zl zY rfl (((S.ext K).blk 0).cell (Term.get_sub _))) rfl (zQ (fun v K=>zg rfl) rfl (zQ (fun v K=>does_indexF zN rfl rfl ((S.ext K).onZ 1) (zO hi5).1 (zO hi5).2) rfl (zQ (fun v K=>zm zD rfl (hc7.chg K (fun x=>x)) (Term.len _)) rfl (zQ (fun v K=>zk rfl) rfl (zQ (fun v K=>zg rfl) rfl ?_))))))))
 refine vZ (fun g v K G=>(have ⟨M,SS⟩ := (S.ext K).lend ((.z 0 rfl (.z 4 rfl (.z 2 rfl (.z 3 rfl .nil))))); ⟨_,_,zK jC (zM rfl (zM rfl (zM rfl (zM rfl rfl)))),newc (zdX (a0:=a0) (a1:=(at_ PTerm.z a1.sub a2)) SS er8) fun _ _ ⟨v9,hv,h⟩ => ⟨h.frame,v9,hv,h.newP.elim fun F hF=>⟨F,hF.1,fun i hi=>by have:=hF.2 i hi; have:=K.size; omega⟩⟩⟩)) rfl ?_
 refine jx fun g w10 K hV=>?_
 obtain ⟨v9,hv119,F9,hb9,hf9⟩ := hV 9 rfl zca
 replace S:=S.add (b:=oE v9 r8) K hb9 hf9
 clear K hV
 obtain ⟨r12,er12,H⟩ := zr H
 obtain ⟨B14,MB14,SB14,back⟩ := S.calln 1 ((.z 3 rfl .nil))
 refine zu (zK ca_types_at (zM rfl (zM hv119 rfl))) zca (types_at_st (a1:=r8) SB14 er12) ?_
 rintro v15 w13 ⟨_,rfl,S2⟩
 replace S:=back _ _ _ _ S2 rfl
 clear back S2 SB14
 refine wd (zE rfl) (zb (zx ?_))
 refine ⟨_,(zS (zf rfl)),?_⟩
 replace S:=S.arr [0] []
 obtain rfl:=zce H
 exact ⟨v15,rfl,S⟩
theorem yF {zeg:PChecker→PTerm→(List (ByteArray × Int))→Option (Int × (Option (Int × List Int)))} (zdY : ∀ {A:Nat→Prop} {N:Oth} {w:World} {a0:PChecker} {a_0:Option Addr} {a1:PTerm} {s_1:SlV} {a2:List (ByteArray × Int)} {a_2:Option Addr} (S:St A N w w [] [oT a_0 a0.t,zn s_1 a1.sub,x8 a_2 a2,oEt]) {r:Int × (Option (Int × List Int))} (H:zeg a0 a1 a2=some r),Calls PP ye #[.agg (Checker.C (⟨a_0⟩ : Checker)).toArray,.agg (Term.C (⟨a1.kind,a1.name,a1.other,a1.form,s_1⟩ : Term)).toArray,.pointer a_2] w fun e w' => ∃ v,e = .returned v∧(∃ vo0:Value,v = .tuple #[.int .i64 r.1,vo0]∧St A N w w' [oE vo0 r.2] [])) {A:Nat→Prop} {N:Oth} {w:World} {a0:PChecker} {a_0:Option Addr} {a1:PTerm} {s_1:SlV} {a2:List (ByteArray × Int)} {a_2:Option Addr} {a3:Int} (S:St A N w w [] [oT a_0 a0.t,zn s_1 a1.sub,x8 a_2 a2,oEt]) {r:Nd × (Option (Int × List Int))} (H:zdk.g zeg a0 a1 a2 a3=some r) :
  Calls PP zah #[.agg (Checker.C (⟨a_0⟩ : Checker)).toArray,.agg (Term.C (⟨a1.kind,a1.name,a1.other,a1.form,s_1⟩ : Term)).toArray,.pointer a_2,.int .i64 a3] w fun e w' => ∃ v,e = .returned v∧(∃ vo0:Value,v = .tuple #[.agg (Nd.C r.1).toArray,vo0]∧St A N w w' [oE vo0 r.2] []):=by
 unfold zdk.g at H
 refine zz (n:=29) fn_types_checker_head rfl rfl zcc (zd (za ?_))
 refine zX rfl zca fun b2 w1 hw1=>?_
 replace S:=S.new hw1
 refine zX rfl zca fun b4 w3 hw3=>?_
 replace S:=S.new hw3
 refine xd uD zca fun b6 w5 hw5=>?_
 replace S:=S.new hw5
 refine wd (zE rfl) (zb (zd (za (wd (zm xr rfl ((S.blk 2).all _ (Checker.len _)) (Checker.len _)) (wd (zm zD rfl ((S.blk 1).all _ (Term.len _)) (Term.len _)) (wd (zk rfl) ?_))))))
 obtain ⟨r7,er7,H⟩ := zr H
 obtain ⟨B9,MB9,SB9,back⟩ := S.calln 0 ((.z 0 rfl (.z 1 rfl (.z 2 rfl (.z 3 rfl .nil)))))
 refine zu (zq yL) zca (yG zdY (a0:=a0) (a1:=a1) SB9 er7) ?_
 rintro _ w8 ⟨v10,rfl,S2⟩
 replace S:=back _ _ _ _ S2 rfl
 clear back S2 SB9
 refine wd (zV rfl) (wd (zt rfl rfl) (wd (zt rfl rfl) (wd (zh rfl) (wd (zE rfl) (zb (zd (zd (za (wd (xb rfl) (wd (does_neE vU rfl rfl (S.onO 0)) (zb ?_)))))))))))
 refine zG rfl (fun hc11=>?_) (fun hc11=>?_)
 ·replace H:=if_t hc11 H
  refine zd (za (wd (yi bu_Nd Bld.nil) (wd (xb rfl) ?_)))
  refine zI x7 rfl rfl (S.blk 1) (Nd.len _) (by rw [Nd.len]; decide) (Nd.one _) (zT (Nd.len _)) fun w12 B hw12 zw12=>?_
  replace S:=S.store 1 B hw12
  clear B
  refine wd (zE rfl) (zb (zx ?_))
  refine ⟨_,(xn (xI x7 rfl ((S.blk 0).all _ (Nd.len _)) (Nd.len _)) (zf rfl)),?_⟩
  replace S:=S.arr [1] []
  obtain rfl:=zce H
  exact ⟨v10,rfl,S⟩
 replace H:=if_f hc11 H
 refine zB (zd (za (wd (zm xr rfl ((S.blk 3).all _ (Checker.len _)) (Checker.len _)) (wd (zg rfl) (wd (zg rfl) ?_)))))
 obtain ⟨r13,er13,H⟩ := zr H
 obtain ⟨B15,MB15,SB15,back⟩ := S.calln 0 ((.z 0 rfl .nil))
 refine zu (zq vM) zca (vN (a0:=a0) SB15 er13) ?_
 rintro _ w14 ⟨v16,rfl,S2⟩
 replace S:=back _ _ _ _ S2 rfl
 clear back S2 SB15
 refine wd (zt rfl rfl) (wd (zt rfl rfl) ?_)
 refine zI x7 rfl rfl (S.blk 2) (Nd.len _) (by rw [Nd.len]; decide) (Nd.one _) (zT (Nd.len _)) fun w17 B hw17 zw17=>?_
 replace S:=S.store 2 B hw17
 clear B
 refine wd (zE rfl) (zb (zx ?_))
 refine ⟨_,(xn (xI x7 rfl ((S.blk 0).all _ (Nd.len _)) (Nd.len _)) (zf rfl)),?_⟩
 replace S:=S.arr [1] []
 obtain rfl:=zce H
 exact ⟨v16,rfl,S⟩
theorem types_checker_told_gst {zeg:PChecker→PTerm→(List (ByteArray × Int))→Option (Int × (Option (Int × List Int)))} (zdY : ∀ {A:Nat→Prop} {N:Oth} {w:World} {a0:PChecker} {a_0:Option Addr} {a1:PTerm} {s_1:SlV} {a2:List (ByteArray × Int)} {a_2:Option Addr} (S:St A N w w [] [oT a_0 a0.t,zn s_1 a1.sub,x8 a_2 a2,oEt]) {r:Int × (Option (Int × List Int))} (H:zeg a0 a1 a2=some r),Calls PP ye #[.agg (Checker.C (⟨a_0⟩ : Checker)).toArray,.agg (Term.C (⟨a1.kind,a1.name,a1.other,a1.form,s_1⟩ : Term)).toArray,.pointer a_2] w fun e w' => ∃ v,e = .returned v∧(∃ vo0:Value,v = .tuple #[.int .i64 r.1,vo0]∧St A N w w' [oE vo0 r.2] [])) {zef:PChecker→PTerm→(List (ByteArray × Int))→Int→Option (Option (Int × List Int))} (zdX : ∀ {A:Nat→Prop} {N:Oth} {w:World} {a0:PChecker} {a_0:Option Addr} {a1:PTerm} {s_1:SlV} {a2:List (ByteArray × Int)} {a_2:Option Addr} {a3:Int} (S:St A N w w [] [oT a_0 a0.t,zn s_1 a1.sub,x8 a_2 a2,oEt]) {r:(Option (Int × List Int))} (H:zef a0 a1 a2 a3=some r),Calls PP ya #[.agg (Checker.C (⟨a_0⟩ : Checker)).toArray,.agg (Term.C (⟨a1.kind,a1.name,a1.other,a1.form,s_1⟩ : Term)).toArray,.pointer a_2,.int .i64 a3] w fun e w' => ∃ v,e = .returned v∧(∃ vo0:Value,v=vo0∧St A N w w' [oE vo0 r] [])) {A:Nat→Prop} {N:Oth} {w:World} {a0:PChecker} {a_0:Option Addr} {a1:PTerm} {s_1:SlV} {a2:List (ByteArray × Int)} {a_2:Option Addr} (S:St A N w w [] [oT a_0 a0.t,zn s_1 a1.sub,x8 a_2 a2,oEt]) {r:Int × (Option (Int × List Int))} (H:zdl.g zeg zef a0 a1 a2=some r) :
  Calls PP ye #[.agg (Checker.C (⟨a_0⟩ : Checker)).toArray,.agg (Term.C (⟨a1.kind,a1.name,a1.other,a1.form,s_1⟩ : Term)).toArray,.pointer a_2] w fun e w' => ∃ v,e = .returned v∧(∃ vo0:Value,v = .tuple #[.int .i64 r.1,vo0]∧St A N w w' [oE vo0 r.2] []):=by
 unfold zdl.g at H
 refine zz (n:=175) fn_types_checker_told rfl rfl zcc (zd (za ?_))
 refine zX rfl zca fun b2 w1 hw1=>?_
 replace S:=S.new hw1
 refine zX rfl zca fun b4 w3 hw3=>?_
 replace S:=S.new hw3
 refine wd (zh rfl) (wd (zE rfl) (zb (zd (zd (za (wd (ze vR rfl (o':=0) rfl) (wd (zl y6 rfl ((S.blk 0).cell (Term.get_kind _))) (zb ?_))))))))
 refine zP (zd (za (wd (zU rfl rfl) (wd (zo rfl) (zb ?_)))))
 refine zG rfl (fun hc5=>?_) (fun hc5=>?_)
 ·replace H:=if_t hc5 H
  refine zd (za (wd (zk rfl) (wd (ze yD rfl (o':=1) rfl) (wd (zl xq rfl ((S.blk 0).cell (Term.get_name _))) ?_))))
  obtain ⟨r6,er6,H⟩ := zr H
  obtain ⟨B8,MB8,SB8,back⟩ := S.calln 0 ((.z 2 rfl .nil))
  refine zu (zq ca_types_scope_find) zca (types_scope_find_st SB8 er6) ?_
  rintro _ w7 ⟨v9,rfl,S2⟩
  replace S:=back _ _ _ _ S2 rfl
  clear back S2 SB8
  refine wd (zt rfl rfl) (wd (zt rfl rfl) (wd (zh rfl) (wd (zE rfl) (zb (zx ?_)))))
  refine ⟨_,(xn (zf rfl) (zf rfl)),?_⟩
  replace S:=S.arr [0] []
  obtain rfl:=zce H
  exact ⟨v9,rfl,S⟩
 replace H:=if_f hc5 H
 refine zd (za (wd (zU rfl rfl) (wd (zo rfl) (zb ?_))))
 refine zG rfl (fun hc10=>?_) (fun hc10=>?_)
 ·replace H:=if_t hc10 H
  refine zd (za (wd (zm xr rfl ((S.blk 1).all _ (Checker.len _)) (Checker.len _)) (wd (zm zD rfl ((S.blk 0).all _ (Term.len _)) (Term.len _)) (wd (zk rfl) ?_))))
  obtain ⟨r11,er11,H⟩ := zr H
  obtain ⟨B13,MB13,SB13,back⟩ := S.calln 0 ((.z 0 rfl (.z 1 rfl (.z 2 rfl (.z 3 rfl .nil)))))
  refine zu (zq yK) zca (yF zdY (a0:=a0) (a1:=a1) SB13 er11) ?_
  rintro _ w12 ⟨v14,rfl,S2⟩
  replace S:=back _ _ _ _ S2 rfl
  clear back S2 SB13
  refine wd (zV rfl) (wd (zt rfl rfl) (wd (zt rfl rfl) ?_))
  refine xd uD zca fun b16 w15 hw15=>?_
  replace S:=S.new hw15
  refine zI x7 rfl rfl (S.blk 0) (Nd.len _) (by rw [Nd.len]; decide) (Nd.one _) (zT (Nd.len _)) fun w17 B hw17 zw17=>?_
  replace S:=S.store 0 B hw17
  clear B
  refine wd (zE rfl) (zb (zd (zd (za (wd (xb rfl) (wd (does_neE vU rfl rfl (S.onO 1)) (zb ?_)))))))
  refine zG rfl (fun hc18=>?_) (fun hc18=>?_)
  ·replace H:=if_t hc18 H
   refine zd (za (wd (xb rfl) (wd (zh rfl) (wd (zE rfl) (zb (zx ?_))))))
   refine ⟨_,(xn (zf rfl) (zf rfl)),?_⟩
   replace S:=S.arr [1] []
   obtain rfl:=zce H
   exact ⟨v14,rfl,S⟩
  replace H:=if_f hc18 H
  refine zB (zd ?_)
  obtain ⟨r19,er19,H⟩ := zr H
  refine zbz 8 [7]
   (fun i v u=>match i with
   | 7 => ∃ v20:Value,v=v20 ∧ ∃ F,(oE v20 r19).holds u F ∧ ∀ i,F i→w17.heap.size ≤ i
   | _=>True) hmix zcd zcd ?_ ?_
  ·intro i v u u' hi hx hv
   match i,hv with
   | 7,⟨b,e1,F,hb,hl⟩ => exact ⟨b,e1,F,OA.loc _ hb hx (fun _ _ x=>x),hl⟩
   | 0,_=>exact trivial
   | 1,_=>exact trivial
   | 2,_=>exact trivial
   | 3,_=>exact trivial
   | 4,_=>exact trivial
   | 5,_=>exact trivial
   | 6,_=>exact trivial
   | _ + 8,_=>exact trivial
  refine zQ (fun v K=>ze yS rfl (o':=3) rfl) rfl (zQ (fun v K=>zl zR rfl (((S.ext K).blk 0).cell (Nd.get_r _))) rfl (zQ (fun v K=>zm xr rfl (((S.ext K).blk 3).all _ (Checker.len _)) (Checker.len _)) rfl (zQ (fun v K=>zm zD rfl (((S.ext K).blk 2).all _ (Term.len _)) (Term.len _)) rfl (zQ (fun v K=>zk rfl) rfl (zQ (fun v K=>ze yY rfl (o':=2) rfl) rfl (zQ (fun v K=>zl zR rfl (((S.ext K).blk 0).cell (Nd.get_l _))) rfl ?_))))))
  refine vZ (fun g v K G=>(have ⟨M,SS⟩ := (S.ext K).lend ((.z 0 rfl (.z 1 rfl (.z 2 rfl (.z 3 rfl .nil))))); ⟨_,_,zK xC (zM rfl (zM rfl (zM rfl (zM rfl (zM rfl rfl))))),newc (xz zdX (a0:=a0) (a1:=a1) SS er19) fun _ _ ⟨v20,hv,h⟩ => ⟨h.frame,v20,hv,h.newP.elim fun F hF=>⟨F,hF.1,fun i hi=>by have:=hF.2 i hi; have:=K.size; omega⟩⟩⟩)) rfl ?_
  refine jx fun g w21 K hV=>?_
  obtain ⟨v20,hv227,F7,hb7,hf7⟩ := hV 7 rfl zca
  replace S:=S.add (b:=oE v20 r19) K hb7 hf7
  clear K hV
  refine wd (zh rfl) (wd (zE hv227) (zb (zx ?_)))
  refine ⟨_,(xn (zf rfl) (zf rfl)),?_⟩
  replace S:=S.arr [0] []
  obtain rfl:=zce H
  exact ⟨v20,rfl,S⟩
 replace H:=if_f hc10 H
 refine zd (za (wd (zU rfl rfl) (wd (zo rfl) (zb ?_))))
 refine zG rfl (fun hc23=>?_) (fun hc23=>?_)
 ·replace H:=if_t hc23 H
  refine zd (za (wd (zm xr rfl ((S.blk 1).all _ (Checker.len _)) (Checker.len _)) (wd (zm zD rfl ((S.blk 0).all _ (Term.len _)) (Term.len _)) (wd (zk rfl) ?_))))
  obtain ⟨r24,er24,H⟩ := zr H
  obtain ⟨B26,MB26,SB26,back⟩ := S.calln 0 ((.z 0 rfl (.z 1 rfl (.z 2 rfl (.z 3 rfl .nil)))))
  refine zu (zq yK) zca (yF zdY (a0:=a0) (a1:=a1) SB26 er24) ?_
  rintro _ w25 ⟨v27,rfl,S2⟩
  replace S:=back _ _ _ _ S2 rfl
  clear back S2 SB26
  refine wd (zV rfl) (wd (zt rfl rfl) (wd (zt rfl rfl) ?_))
  refine xd uD zca fun b29 w28 hw28=>?_
  replace S:=S.new hw28
  refine zI x7 rfl rfl (S.blk 0) (Nd.len _) (by rw [Nd.len]; decide) (Nd.one _) (zT (Nd.len _)) fun w30 B hw30 zw30=>?_
  replace S:=S.store 0 B hw30
  clear B
  refine wd (zE rfl) (zb (zd (za (wd (ze yY rfl (o':=2) rfl) (wd (zl zR rfl ((S.blk 0).cell (Nd.get_l _))) (wd (xb rfl) (wd (zh rfl) (wd (zE rfl) (zb (zx ?_))))))))))
  refine ⟨_,(xn (zf rfl) (zf rfl)),?_⟩
  replace S:=S.arr [1] []
  obtain rfl:=zce H
  exact ⟨v27,rfl,S⟩
 replace H:=if_f hc23 H
 refine zd (za (wd (zU rfl rfl) (wd (zo rfl) (zb ?_))))
 refine zG rfl (fun hc31=>?_) (fun hc31=>?_)
 ·replace H:=if_t hc31 H
  refine zd (za (wd (zm xr rfl ((S.blk 1).all _ (Checker.len _)) (Checker.len _)) (wd (zm zD rfl ((S.blk 0).all _ (Term.len _)) (Term.len _)) (wd (zk rfl) ?_))))
  obtain ⟨r32,er32,H⟩ := zr H
  obtain ⟨B34,MB34,SB34,back⟩ := S.calln 0 ((.z 0 rfl (.z 1 rfl (.z 2 rfl (.z 3 rfl .nil)))))
  refine zu (zq yK) zca (yF zdY (a0:=a0) (a1:=a1) SB34 er32) ?_
  rintro _ w33 ⟨v35,rfl,S2⟩
  replace S:=back _ _ _ _ S2 rfl
  clear back S2 SB34
  refine wd (zV rfl) (wd (zt rfl rfl) (wd (zt rfl rfl) ?_))
  refine xd uD zca fun b37 w36 hw36=>?_
  replace S:=S.new hw36
  refine zI x7 rfl rfl (S.blk 0) (Nd.len _) (by rw [Nd.len]; decide) (Nd.one _) (zT (Nd.len _)) fun w38 B hw38 zw38=>?_
  replace S:=S.store 0 B hw38
  clear B
  refine wd (zE rfl) (zb (zd (za (wd (ze yS rfl (o':=3) rfl) (wd (zl zR rfl ((S.blk 0).cell (Nd.get_r _))) (wd (xb rfl) (wd (zh rfl) (wd (zE rfl) (zb (zx ?_))))))))))
  refine ⟨_,(xn (zf rfl) (zf rfl)),?_⟩
  replace S:=S.arr [1] []
  obtain rfl:=zce H
  exact ⟨v35,rfl,S⟩
 replace H:=if_f hc31 H
 refine zd (za (wd (zU rfl rfl) (wd (zo rfl) (zb ?_))))
 refine zG rfl (fun hc39=>?_) (fun hc39=>?_)
 ·replace H:=if_t hc39 H
  refine zd (zd (za (wd (ze fl_Checker_t rfl (o':=0) rfl) (wd (zl xA rfl ((S.blk 1).cell (Checker.get_t _))) (wd (ze vu rfl (o':=3) rfl) (wd (zl zR rfl ((S.blk 0).cell (Term.get_form _))) ?_))))))
  obtain ⟨r40,er40,H⟩ := zr H
  obtain ⟨B42,MB42,SB42,back⟩ := S.calln 0 ((.z 0 rfl .nil))
  refine zu (zq yv) zca (yx SB42 er40) ?_
  rintro _ w41 ⟨rfl,S2⟩
  replace S:=back _ _ _ _ S2 rfl
  clear back S2 SB42
  refine wd (zV rfl) (wd (zt rfl rfl) (wd (zt rfl rfl) ?_))
  refine xd uD zca fun b44 w43 hw43=>?_
  replace S:=S.new hw43
  refine zI x7 rfl rfl (S.blk 0) (Nd.len _) (by rw [Nd.len]; decide) (Nd.one _) (zT (Nd.len _)) fun w45 B hw45 zw45=>?_
  replace S:=S.store 0 B hw45
  clear B
  refine wd (zo rfl) (zb (zd (za (wd (zL rfl) (wd (xk rfl) (zb ?_))))))
  refine zG rfl (fun hc46=>?_) (fun hc46=>?_)
  ·replace H:=if_t hc46 H
   refine zd (za (wd (Does.to (v' := .agg (Refusal.C (⟨31,SlV.nil⟩ : Refusal)).toArray) (xF (vs:=[(0,.int .i64 31)]) kE (yl rfl rfl) (Bld.one rfl rfl (by rw [Refusal.len]; decide) (Refusal.set_code _ _) Bld.nil)) rfl) ?_))
   refine zX rfl zca fun b48 w47 hw47=>?_
   replace S:=S.new hw47
   refine wd (does_makeInterface rfl) ?_
   replace S:=((S.nil xB 1 IC).front 1).mkE
   refine wd (zh rfl) (wd (zE rfl) (zb (zx ?_)))
   refine ⟨_,(xn (zf rfl) (zf rfl)),?_⟩
   replace S:=S.arr [0] []
   obtain rfl:=zce H
   exact ⟨(.iface xS (.pointer (some ⟨b48,0,none⟩))),rfl,S⟩
  replace H:=if_f hc46 H
  refine zB (zd ?_)
  obtain ⟨r49,er49,H⟩ := zr H
  refine zbz 8 [7]
   (fun i v u=>match i with
   | 7 => ∃ v50:Value,v=v50 ∧ ∃ F,(oE v50 r49).holds u F ∧ ∀ i,F i→w45.heap.size ≤ i
   | _=>True) hmix zcd zcd ?_ ?_
  ·intro i v u u' hi hx hv
   match i,hv with
   | 7,⟨b,e1,F,hb,hl⟩ => exact ⟨b,e1,F,OA.loc _ hb hx (fun _ _ x=>x),hl⟩
   | 0,_=>exact trivial
   | 1,_=>exact trivial
   | 2,_=>exact trivial
   | 3,_=>exact trivial
   | 4,_=>exact trivial
   | 5,_=>exact trivial
   | 6,_=>exact trivial
   | _ + 8,_=>exact trivial
  refine zQ (fun v K=>ze vu rfl (o':=3) rfl) rfl (zQ (fun v K=>zl zR rfl (((S.ext K).blk 1).cell (Term.get_form _))) rfl (zQ (fun v K=>zm xr rfl (((S.ext K).blk 2).all _ (Checker.len _)) (Checker.len _)) rfl (zQ (fun v K=>zm zD rfl (((S.ext K).blk 1).all _ (Term.len _)) (Term.len _)) rfl (zQ (fun v K=>zk rfl) rfl (zQ (fun v K=>ze vu rfl (o':=3) rfl) rfl (zQ (fun v K=>zl zR rfl (((S.ext K).blk 1).cell (Term.get_form _))) rfl ?_))))))
  refine vZ (fun g v K G=>(have ⟨M,SS⟩ := (S.ext K).lend ((.z 0 rfl (.z 1 rfl (.z 2 rfl (.z 3 rfl .nil))))); ⟨_,_,zK xC (zM rfl (zM rfl (zM rfl (zM rfl (zM rfl rfl))))),newc (xz zdX (a0:=a0) (a1:=a1) SS er49) fun _ _ ⟨v50,hv,h⟩ => ⟨h.frame,v50,hv,h.newP.elim fun F hF=>⟨F,hF.1,fun i hi=>by have:=hF.2 i hi; have:=K.size; omega⟩⟩⟩)) rfl ?_
  refine jx fun g w51 K hV=>?_
  obtain ⟨v50,hv527,F7,hb7,hf7⟩ := hV 7 rfl zca
  replace S:=S.add (b:=oE v50 r49) K hb7 hf7
  clear K hV
  refine wd (zh rfl) (wd (zE hv527) (zb (zx ?_)))
  refine ⟨_,(xn (zf rfl) (zf rfl)),?_⟩
  replace S:=S.arr [0] []
  obtain rfl:=zce H
  exact ⟨v50,rfl,S⟩
 replace H:=if_f hc39 H
 refine zd (za (wd (zU rfl rfl) (wd (zo rfl) (zb ?_))))
 refine zG rfl (fun hc53=>?_) (fun hc53=>?_)
 ·replace H:=if_t hc53 H
  refine zd (za (wd (zm xr rfl ((S.blk 1).all _ (Checker.len _)) (Checker.len _)) (wd (zm zD rfl ((S.blk 0).all _ (Term.len _)) (Term.len _)) (wd (zk rfl) ?_))))
  obtain ⟨r54,er54,H⟩ := zr H
  obtain ⟨B56,MB56,SB56,back⟩ := S.calln 0 ((.z 0 rfl (.z 1 rfl (.z 2 rfl (.z 3 rfl .nil)))))
  refine zu (zq yL) zca (yG zdY (a0:=a0) (a1:=a1) SB56 er54) ?_
  rintro _ w55 ⟨v57,rfl,S2⟩
  replace S:=back _ _ _ _ S2 rfl
  clear back S2 SB56
  refine wd (zV rfl) (wd (zt rfl rfl) (wd (zt rfl rfl) (wd (zh rfl) (wd (zE rfl) (zb (zd (zd (za (wd (xb rfl) (wd (does_neE vU rfl rfl (S.onO 0)) (zb ?_)))))))))))
  refine zG rfl (fun hc58=>?_) (fun hc58=>?_)
  ·replace H:=if_t hc58 H
   refine zd (za (wd (xb rfl) (wd (zh rfl) (wd (zE rfl) (zb (zx ?_))))))
   refine ⟨_,(xn (zf rfl) (zf rfl)),?_⟩
   replace S:=S.arr [0] []
   obtain rfl:=zce H
   exact ⟨v57,rfl,S⟩
  replace H:=if_f hc58 H
  refine zB (zd ?_)
  refine wc_ws hmix fun w62 K=>?_
  replace S:=S.ext K
  clear K
  refine zbA 0 7 [6] zcd zca zcd
   (V:=fun i v u=>match i with
   | 6 => ∃ b:Nat,v=Value.pointer (some ⟨b,0,none⟩)∧Blk u b uu (Scope.C ⟨a1.name,r54.1,a_2⟩)∧w62.heap.size ≤ b
   | _=>True) ?_ ?_
  ·intro i v u u' hi hx hv
   match i,hv with
   | 6,⟨b,e1,hb,hl⟩ => exact ⟨b,e1,hb.ext hx,hl⟩
   | 0,_=>exact trivial
   | 1,_=>exact trivial
   | 2,_=>exact trivial
   | 3,_=>exact trivial
   | 4,_=>exact trivial
   | 5,_=>exact trivial
   | _ + 7,_=>exact trivial
  refine zQ (fun v K=>zm xr rfl (((S.ext K).blk 2).all _ (Checker.len _)) (Checker.len _)) rfl (zQ (fun v K=>zm zD rfl (((S.ext K).blk 1).all _ (Term.len _)) (Term.len _)) rfl (zQ (fun v K=>zk rfl) rfl (zQ (fun v K=>ze yD rfl (o':=1) rfl) rfl (zQ (fun v K=>zl xq rfl (((S.ext K).blk 1).cell (Term.get_name _))) rfl (zQ (fun v K=>zg rfl) rfl ?_)))))
  refine vZ (fun g v K G=>⟨_,_,zK yq (zM rfl (zM rfl (zM rfl rfl))),newc (yt _ _ _ _) fun _ _ ⟨b,hv,hx,hb,hl⟩ => ⟨hx,b,hv,hb,by have:=K.size; omega⟩⟩) rfl ?_
  refine jx fun g w64 K hV=>?_
  obtain ⟨b63,hv656,hb6,hf6⟩ := hV 6 rfl zca
  replace S:=(S.newAt K hb6 hf6).pushScope 0 2
  clear K hV
  refine ws_chain 7 8 zcd zca ?_
  obtain ⟨r66,er66,H⟩ := zr H
  obtain ⟨B68,MB68,SB68,back⟩ := S.calln 0 ((.z 1 rfl (.z 2 rfl (.z 0 rfl (.z 4 rfl .nil)))))
  refine zu (zK yL (zM rfl (zM rfl (zM rfl (zM hv656 rfl))))) zca (yG zdY (a0:=a0) (a1:=a1) SB68 er66) ?_
  rintro _ w67 ⟨v69,rfl,S2⟩
  replace S:=back _ _ _ _ S2 rfl
  clear back S2 SB68
  refine zb ⟨rfl,?_⟩
  refine zbA 8 10 [] zcd zca zcd
   (V:=fun i v u=>match i with
   | _=>True) ?_ ?_
  ·intro i v u u' hi hx hv
   match i,hv with
   | _,_=>exact trivial
  refine zQ (fun v K=>zt rfl rfl) rfl (zQ (fun v K=>zt rfl rfl) rfl ?_)
  refine jx fun g w70 K hV=>?_
  replace S:=S.ext K
  clear K hV
  refine ws_tail 10 zcd zca (wd (zh rfl) (wd (zE rfl) (zb (zx ?_))))
  refine ⟨_,(xn (zf rfl) (zf rfl)),?_⟩
  replace S:=S.arr [0] []
  obtain rfl:=zce H
  exact ⟨v69,rfl,S⟩
 replace H:=if_f hc53 H
 refine zd (za (wd (zU rfl rfl) (wd (zo rfl) (zb ?_))))
 refine zG rfl (fun hc72=>?_) (fun hc72=>?_)
 ·replace H:=if_t hc72 H
  refine zd (za (wd (zm xr rfl ((S.blk 1).all _ (Checker.len _)) (Checker.len _)) (wd (zm zD rfl ((S.blk 0).all _ (Term.len _)) (Term.len _)) (wd (zk rfl) ?_))))
  obtain ⟨r73,er73,H⟩ := zr H
  obtain ⟨B75,MB75,SB75,back⟩ := S.calln 0 ((.z 0 rfl (.z 1 rfl (.z 2 rfl (.z 3 rfl .nil)))))
  refine zu (zq yK) zca (yF zdY (a0:=a0) (a1:=a1) SB75 er73) ?_
  rintro _ w74 ⟨v76,rfl,S2⟩
  replace S:=back _ _ _ _ S2 rfl
  clear back S2 SB75
  refine wd (zV rfl) (wd (zt rfl rfl) (wd (zt rfl rfl) ?_))
  refine xd uD zca fun b78 w77 hw77=>?_
  replace S:=S.new hw77
  refine zI x7 rfl rfl (S.blk 0) (Nd.len _) (by rw [Nd.len]; decide) (Nd.one _) (zT (Nd.len _)) fun w79 B hw79 zw79=>?_
  replace S:=S.store 0 B hw79
  clear B
  refine wd (zE rfl) (zb (zd (zd (za (wd (xb rfl) (wd (does_neE vU rfl rfl (S.onO 1)) (zb ?_)))))))
  refine zG rfl (fun hc80=>?_) (fun hc80=>?_)
  ·replace H:=if_t hc80 H
   refine zd (za (wd (xb rfl) (wd (zh rfl) (wd (zE rfl) (zb (zx ?_))))))
   refine ⟨_,(xn (zf rfl) (zf rfl)),?_⟩
   replace S:=S.arr [1] []
   obtain rfl:=zce H
   exact ⟨v76,rfl,S⟩
  replace H:=if_f hc80 H
  refine zB (zd ?_)
  refine wc_ws hmix fun w84 K=>?_
  replace S:=S.ext K
  clear K
  refine zbA 0 8 [7] zcd zca zcd
   (V:=fun i v u=>match i with
   | 7 => ∃ b:Nat,v=Value.pointer (some ⟨b,0,none⟩)∧Blk u b uu (Scope.C ⟨a1.name,r73.1.l,a_2⟩)∧w84.heap.size ≤ b
   | _=>True) ?_ ?_
  ·intro i v u u' hi hx hv
   match i,hv with
   | 7,⟨b,e1,hb,hl⟩ => exact ⟨b,e1,hb.ext hx,hl⟩
   | 0,_=>exact trivial
   | 1,_=>exact trivial
   | 2,_=>exact trivial
   | 3,_=>exact trivial
   | 4,_=>exact trivial
   | 5,_=>exact trivial
   | 6,_=>exact trivial
   | _ + 8,_=>exact trivial
  refine zQ (fun v K=>zm xr rfl (((S.ext K).blk 3).all _ (Checker.len _)) (Checker.len _)) rfl (zQ (fun v K=>zm zD rfl (((S.ext K).blk 2).all _ (Term.len _)) (Term.len _)) rfl (zQ (fun v K=>zk rfl) rfl (zQ (fun v K=>ze yD rfl (o':=1) rfl) rfl (zQ (fun v K=>zl xq rfl (((S.ext K).blk 2).cell (Term.get_name _))) rfl (zQ (fun v K=>ze yY rfl (o':=2) rfl) rfl (zQ (fun v K=>zl zR rfl (((S.ext K).blk 0).cell (Nd.get_l _))) rfl ?_))))))
  refine vZ (fun g v K G=>⟨_,_,zK yq (zM rfl (zM rfl (zM rfl rfl))),newc (yt _ _ _ _) fun _ _ ⟨b,hv,hx,hb,hl⟩ => ⟨hx,b,hv,hb,by have:=K.size; omega⟩⟩) rfl ?_
  refine jx fun g w86 K hV=>?_
  obtain ⟨b85,hv877,hb7,hf7⟩ := hV 7 rfl zca
  replace S:=(S.newAt K hb7 hf7).pushScope 0 2
  clear K hV
  refine ws_chain 8 10 zcd zca ?_
  obtain ⟨r88,er88,H⟩ := zr H
  obtain ⟨B90,MB90,SB90,back⟩ := S.calln 0 ((.z 1 rfl (.z 2 rfl (.z 0 rfl (.z 4 rfl .nil)))))
  refine zu (zK yL (zM rfl (zM rfl (zM rfl (zM hv877 rfl))))) zca (yG zdY (a0:=a0) (a1:=a1) SB90 er88) ?_
  rintro _ w89 ⟨v91,rfl,S2⟩
  replace S:=back _ _ _ _ S2 rfl
  clear back S2 SB90
  refine wd (zV rfl) (zb ⟨rfl,?_⟩)
  refine zbA 10 13 [] zcd zca zcd
   (V:=fun i v u=>match i with
   | _=>True) ?_ ?_
  ·intro i v u u' hi hx hv
   match i,hv with
   | _,_=>exact trivial
  refine zQ (fun v K=>zt rfl rfl) rfl (zQ (fun v K=>zt rfl rfl) rfl (zQ (fun v K=>zh rfl) rfl ?_))
  refine jx fun g w92 K hV=>?_
  replace S:=S.ext K
  clear K hV
  refine ws_tail 13 zcd zca (wd (zE rfl) (zb (zd (zd (za (wd (xb rfl) (wd (does_neE vU rfl rfl (S.onO 0)) (zb ?_))))))))
  refine zG rfl (fun hc94=>?_) (fun hc94=>?_)
  ·replace H:=if_t hc94 H
   refine zd (za (wd (xb rfl) (wd (zh rfl) (wd (zE rfl) (zb (zx ?_))))))
   refine ⟨_,(xn (zf rfl) (zf rfl)),?_⟩
   replace S:=S.arr [0] []
   obtain rfl:=zce H
   exact ⟨v91,rfl,S⟩
  replace H:=if_f hc94 H
  refine zB (zd ?_)
  refine wc_ws hmix fun w98 K=>?_
  replace S:=S.ext K
  clear K
  refine zbA 0 8 [7] zcd zca zcd
   (V:=fun i v u=>match i with
   | 7 => ∃ b:Nat,v=Value.pointer (some ⟨b,0,none⟩)∧Blk u b uu (Scope.C ⟨a1.other,r73.1.r,a_2⟩)∧w98.heap.size ≤ b
   | _=>True) ?_ ?_
  ·intro i v u u' hi hx hv
   match i,hv with
   | 7,⟨b,e1,hb,hl⟩ => exact ⟨b,e1,hb.ext hx,hl⟩
   | 0,_=>exact trivial
   | 1,_=>exact trivial
   | 2,_=>exact trivial
   | 3,_=>exact trivial
   | 4,_=>exact trivial
   | 5,_=>exact trivial
   | 6,_=>exact trivial
   | _ + 8,_=>exact trivial
  refine zQ (fun v K=>zm xr rfl (((S.ext K).blk 4).all _ (Checker.len _)) (Checker.len _)) rfl (zQ (fun v K=>zm zD rfl (((S.ext K).blk 3).all _ (Term.len _)) (Term.len _)) rfl (zQ (fun v K=>zk rfl) rfl (zQ (fun v K=>ze vX rfl (o':=2) rfl) rfl (zQ (fun v K=>zl xq rfl (((S.ext K).blk 3).cell (Term.get_other _))) rfl (zQ (fun v K=>ze yS rfl (o':=3) rfl) rfl (zQ (fun v K=>zl zR rfl (((S.ext K).blk 1).cell (Nd.get_r _))) rfl ?_))))))
  refine vZ (fun g v K G=>⟨_,_,zK yq (zM rfl (zM rfl (zM rfl rfl))),newc (yt _ _ _ _) fun _ _ ⟨b,hv,hx,hb,hl⟩ => ⟨hx,b,hv,hb,by have:=K.size; omega⟩⟩) rfl ?_
  refine jx fun g w100 K hV=>?_
  obtain ⟨b99,hv1017,hb7,hf7⟩ := hV 7 rfl zca
  replace S:=(S.newAt K hb7 hf7).pushScope 0 3
  clear K hV
  refine ws_chain 8 10 zcd zca ?_
  obtain ⟨r102,er102,H⟩ := zr H
  obtain ⟨B104,MB104,SB104,back⟩ := S.calln 0 ((.z 2 rfl (.z 3 rfl (.z 0 rfl (.z 5 rfl .nil)))))
  refine zu (zK yL (zM rfl (zM rfl (zM rfl (zM hv1017 rfl))))) zca (yG zdY (a0:=a0) (a1:=a1) SB104 er102) ?_
  rintro _ w103 ⟨v105,rfl,S2⟩
  replace S:=back _ _ _ _ S2 rfl
  clear back S2 SB104
  refine wd (zV rfl) (zb ⟨rfl,?_⟩)
  refine zbA 10 13 [] zcd zca zcd
   (V:=fun i v u=>match i with
   | _=>True) ?_ ?_
  ·intro i v u u' hi hx hv
   match i,hv with
   | _,_=>exact trivial
  refine zQ (fun v K=>zt rfl rfl) rfl (zQ (fun v K=>zt rfl rfl) rfl (zQ (fun v K=>zh rfl) rfl ?_))
  refine jx fun g w106 K hV=>?_
  replace S:=S.ext K
  clear K hV
  refine ws_tail 13 zcd zca (wd (zE rfl) (zb (zd (zd (za (wd (xb rfl) (wd (does_eqE vU rfl rfl (S.onO 0)) (wd (zL rfl) ?_))))))))
  refine wg (fun hg=>zg rfl) ?_
  refine wg (fun hg=>zg rfl) ?_
  refine wg (fun hg=>xm (zw hg) (zw hg)) (wd (xt rfl (fun hp=>(zw (xE hp)))) (zb ?_))
  refine zG rfl (fun hc108=>?_) (fun hc108=>?_)
  ·replace H:=if_t hc108 H
   refine za (wd (Does.to (v' := .agg (Refusal.C (⟨130,SlV.nil⟩ : Refusal)).toArray) (xF (vs:=[(0,.int .i64 130)]) kE (yl rfl rfl) (Bld.one rfl rfl (by rw [Refusal.len]; decide) (Refusal.set_code _ _) Bld.nil)) rfl) ?_)
   refine zX rfl zca fun b110 w109 hw109=>?_
   replace S:=S.new hw109
   refine wd (does_makeInterface rfl) ?_
   replace S:=((S.nil xB 1 IC).front 1).mkE
   refine wd (zE rfl) (zb (zd (za (wd (zg rfl) (wd (xb rfl) (wd (zh rfl) (wd (zE rfl) (zb (zx ?_)))))))))
   refine ⟨_,(xn (zf rfl) (zf rfl)),?_⟩
   replace S:=S.arr [0] []
   obtain rfl:=zce H
   exact ⟨(.iface xS (.pointer (some ⟨b110,0,none⟩))),rfl,S⟩
  ·replace H:=if_f hc108 H
   refine zB (zd (za (wd (zg rfl) (wd (xb rfl) (wd (zh rfl) (wd (zE rfl) (zb (zx ?_))))))))
   refine ⟨_,(xn (zf rfl) (zf rfl)),?_⟩
   replace S:=S.arr [0] []
   obtain rfl:=zce H
   exact ⟨v105,rfl,S⟩
 replace H:=if_f hc72 H
 refine zB (zd (za (wd (Does.to (v' := .agg (Refusal.C (⟨132,SlV.nil⟩ : Refusal)).toArray) (xF (vs:=[(0,.int .i64 132)]) kE (yl rfl rfl) (Bld.one rfl rfl (by rw [Refusal.len]; decide) (Refusal.set_code _ _) Bld.nil)) rfl) ?_)))
 refine zX rfl zca fun b112 w111 hw111=>?_
 replace S:=S.new hw111
 refine wd (does_makeInterface rfl) ?_
 replace S:=((S.nil xB 1 IC).front 1).mkE
 refine wd (zh rfl) (wd (zE rfl) (zb (zx ?_)))
 refine ⟨_,(xn (zf rfl) (zf rfl)),?_⟩
 replace S:=S.arr [0] []
 obtain rfl:=zce H
 exact ⟨(.iface xS (.pointer (some ⟨b112,0,none⟩))),rfl,S⟩
theorem zbp {zeg:PChecker→PTerm→(List (ByteArray × Int))→Option (Int × (Option (Int × List Int)))} (zdY : ∀ {A:Nat→Prop} {N:Oth} {w:World} {a0:PChecker} {a_0:Option Addr} {a1:PTerm} {s_1:SlV} {a2:List (ByteArray × Int)} {a_2:Option Addr} (S:St A N w w [] [oT a_0 a0.t,zn s_1 a1.sub,x8 a_2 a2,oEt]) {r:Int × (Option (Int × List Int))} (H:zeg a0 a1 a2=some r),Calls PP ye #[.agg (Checker.C (⟨a_0⟩ : Checker)).toArray,.agg (Term.C (⟨a1.kind,a1.name,a1.other,a1.form,s_1⟩ : Term)).toArray,.pointer a_2] w fun e w' => ∃ v,e = .returned v∧(∃ vo0:Value,v = .tuple #[.int .i64 r.1,vo0]∧St A N w w' [oE vo0 r.2] [])) {zef:PChecker→PTerm→(List (ByteArray × Int))→Int→Option (Option (Int × List Int))} (zdX : ∀ {A:Nat→Prop} {N:Oth} {w:World} {a0:PChecker} {a_0:Option Addr} {a1:PTerm} {s_1:SlV} {a2:List (ByteArray × Int)} {a_2:Option Addr} {a3:Int} (S:St A N w w [] [oT a_0 a0.t,zn s_1 a1.sub,x8 a_2 a2,oEt]) {r:(Option (Int × List Int))} (H:zef a0 a1 a2 a3=some r),Calls PP ya #[.agg (Checker.C (⟨a_0⟩ : Checker)).toArray,.agg (Term.C (⟨a1.kind,a1.name,a1.other,a1.form,s_1⟩ : Term)).toArray,.pointer a_2,.int .i64 a3] w fun e w' => ∃ v,e = .returned v∧(∃ vo0:Value,v=vo0∧St A N w w' [oE vo0 r] [])) {A:Nat→Prop} {N:Oth} {w:World} {a0:PChecker} {a_0:Option Addr} {a1:PTerm} {s_1:SlV} {a2:List (ByteArray × Int)} {a_2:Option Addr} {a3:Int} (S:St A N w w [] [oT a_0 a0.t,zn s_1 a1.sub,x8 a_2 a2,oEt]) {r:(Option (Int × List Int))} (H:zdm.g zeg zef a0 a1 a2 a3=some r) :
  Calls PP ya #[.agg (Checker.C (⟨a_0⟩ : Checker)).toArray,.agg (Term.C (⟨a1.kind,a1.name,a1.other,a1.form,s_1⟩ : Term)).toArray,.pointer a_2,.int .i64 a3] w fun e w' => ∃ v,e = .returned v∧(∃ vo0:Value,v=vo0∧St A N w w' [oE vo0 r] []):=by
 unfold zdm.g at H
 refine zz (n:=186) zbE rfl rfl zcc (zd (za ?_))
 refine zX rfl zca fun b2 w1 hw1=>?_
 replace S:=S.new hw1
 refine zX rfl zca fun b4 w3 hw3=>?_
 replace S:=S.new hw3
 refine wd (zE rfl) (zb (zd (zd (za (wd (ze vR rfl (o':=0) rfl) (wd (zl y6 rfl ((S.blk 0).cell (Term.get_kind _))) (zb ?_)))))))
 refine zP (zd (za (wd (zU rfl rfl) (wd (zo rfl) (zb ?_)))))
 refine zG rfl (fun hc5=>?_) (fun hc5=>?_)
 ·replace H:=if_t hc5 H
  refine zd (za (wd (zm xr rfl ((S.blk 1).all _ (Checker.len _)) (Checker.len _)) (wd (zg rfl) ?_)))
  obtain ⟨r6,er6,H⟩ := zr H
  obtain ⟨B8,MB8,SB8,back⟩ := S.calln 0 ((.z 0 rfl .nil))
  refine zu (zq vM) zca (vN (a0:=a0) SB8 er6) ?_
  rintro _ w7 ⟨v9,rfl,S2⟩
  replace S:=back _ _ _ _ S2 rfl
  clear back S2 SB8
  refine wd (zV rfl) (wd (zt rfl rfl) (wd (zt rfl rfl) ?_))
  refine xd uD zca fun b11 w10 hw10=>?_
  replace S:=S.new hw10
  refine zI x7 rfl rfl (S.blk 0) (Nd.len _) (by rw [Nd.len]; decide) (Nd.one _) (zT (Nd.len _)) fun w12 B hw12 zw12=>?_
  replace S:=S.store 0 B hw12
  clear B
  refine wd (zE rfl) (zb (zd (zd (za (wd (xb rfl) (wd (does_neE vU rfl rfl (S.onO 1)) (zb ?_)))))))
  refine zG rfl (fun hc13=>?_) (fun hc13=>?_)
  ·replace H:=if_t hc13 H
   refine zd (za (wd (xb rfl) (wd (zE rfl) (zb (zx ?_)))))
   refine ⟨_,(zS (zf rfl)),?_⟩
   replace S:=S.arr [1] []
   obtain rfl:=zce H
   exact ⟨v9,rfl,S⟩
  replace H:=if_f hc13 H
  refine zB (zd ?_)
  refine zbz 10 [7]
   (fun i v u=>match i with
   | 7 => ∃ b:Nat,v=Value.pointer (some ⟨b,0,none⟩)∧Blk u b uu (Scope.C ⟨a1.name,r6.1.l,a_2⟩)∧w12.heap.size ≤ b
   | _=>True) hmix zcd zcd ?_ ?_
  ·intro i v u u' hi hx hv
   match i,hv with
   | 7,⟨b,e1,hb,hl⟩ => exact ⟨b,e1,hb.ext hx,hl⟩
   | 0,_=>exact trivial
   | 1,_=>exact trivial
   | 2,_=>exact trivial
   | 3,_=>exact trivial
   | 4,_=>exact trivial
   | 5,_=>exact trivial
   | 6,_=>exact trivial
   | _ + 8,_=>exact trivial
  refine zQ (fun v K=>zm xr rfl (((S.ext K).blk 3).all _ (Checker.len _)) (Checker.len _)) rfl (zQ (fun v K=>zm zD rfl (((S.ext K).blk 2).all _ (Term.len _)) (Term.len _)) rfl (zQ (fun v K=>zk rfl) rfl (zQ (fun v K=>ze yD rfl (o':=1) rfl) rfl (zQ (fun v K=>zl xq rfl (((S.ext K).blk 2).cell (Term.get_name _))) rfl (zQ (fun v K=>ze yY rfl (o':=2) rfl) rfl (zQ (fun v K=>zl zR rfl (((S.ext K).blk 0).cell (Nd.get_l _))) rfl ?_))))))
  refine vZ (fun g v K G=>⟨_,_,zK yq (zM rfl (zM rfl (zM rfl rfl))),newc (yt _ _ _ _) fun _ _ ⟨b,hv,hx,hb,hl⟩ => ⟨hx,b,hv,hb,by have:=K.size; omega⟩⟩) rfl (zQ (fun v K=>ze yS rfl (o':=3) rfl) rfl (zQ (fun v K=>zl zR rfl (((S.ext K).blk 0).cell (Nd.get_r _))) rfl ?_))
  refine jx fun g w15 K hV=>?_
  obtain ⟨b14,hv167,hb7,hf7⟩ := hV 7 rfl zca
  replace S:=(S.newAt K hb7 hf7).pushScope 0 2
  clear K hV
  obtain ⟨r17,er17,H⟩ := zr H
  obtain ⟨B19,MB19,SB19,back⟩ := S.calln 0 ((.z 1 rfl (.z 2 rfl (.z 0 rfl (.z 4 rfl .nil)))))
  refine zu (zK xC (zM rfl (zM rfl (zM rfl (zM hv167 (zM rfl rfl)))))) zca (xz zdX (a0:=a0) (a1:=a1) SB19 er17) ?_
  rintro v20 w18 ⟨_,rfl,S2⟩
  replace S:=back _ _ _ _ S2 rfl
  clear back S2 SB19
  refine wd (zE rfl) (zb (zx ?_))
  refine ⟨_,(zS (zf rfl)),?_⟩
  replace S:=S.arr [0] []
  obtain rfl:=zce H
  exact ⟨v20,rfl,S⟩
 replace H:=if_f hc5 H
 refine zd (za (wd (zU rfl rfl) (wd (zo rfl) (zb ?_))))
 refine zG rfl (fun hc21=>?_) (fun hc21=>?_)
 ·replace H:=if_t hc21 H
  refine zd (za (wd (zm xr rfl ((S.blk 1).all _ (Checker.len _)) (Checker.len _)) (wd (zg rfl) ?_)))
  obtain ⟨r22,er22,H⟩ := zr H
  obtain ⟨B24,MB24,SB24,back⟩ := S.calln 0 ((.z 0 rfl .nil))
  refine zu (zq vM) zca (vN (a0:=a0) SB24 er22) ?_
  rintro _ w23 ⟨v25,rfl,S2⟩
  replace S:=back _ _ _ _ S2 rfl
  clear back S2 SB24
  refine wd (zV rfl) (wd (zt rfl rfl) (wd (zt rfl rfl) ?_))
  refine xd uD zca fun b27 w26 hw26=>?_
  replace S:=S.new hw26
  refine zI x7 rfl rfl (S.blk 0) (Nd.len _) (by rw [Nd.len]; decide) (Nd.one _) (zT (Nd.len _)) fun w28 B hw28 zw28=>?_
  replace S:=S.store 0 B hw28
  clear B
  refine wd (zE rfl) (zb (zd (zd (za (wd (xb rfl) (wd (does_neE vU rfl rfl (S.onO 1)) (zb ?_)))))))
  refine zG rfl (fun hc29=>?_) (fun hc29=>?_)
  ·replace H:=if_t hc29 H
   refine zd (za (wd (xb rfl) (wd (zE rfl) (zb (zx ?_)))))
   refine ⟨_,(zS (zf rfl)),?_⟩
   replace S:=S.arr [1] []
   obtain rfl:=zce H
   exact ⟨v25,rfl,S⟩
  replace H:=if_f hc29 H
  refine zB (zd (zd (za (wd (zm xr rfl ((S.blk 3).all _ (Checker.len _)) (Checker.len _)) (wd (zm zD rfl ((S.blk 2).all _ (Term.len _)) (Term.len _)) (wd (zk rfl) (wd (ze yY rfl (o':=2) rfl) (wd (zl zR rfl ((S.blk 0).cell (Nd.get_l _))) ?_))))))))
  obtain ⟨r30,er30,H⟩ := zr H
  obtain ⟨B32,MB32,SB32,back⟩ := S.calln 0 ((.z 0 rfl (.z 1 rfl (.z 2 rfl (.z 3 rfl .nil)))))
  refine zu (zq xC) zca (xz zdX (a0:=a0) (a1:=a1) SB32 er30) ?_
  rintro v33 w31 ⟨_,rfl,S2⟩
  replace S:=back _ _ _ _ S2 rfl
  clear back S2 SB32
  refine wd (zE rfl) (zb (zd (za (wd (xb rfl) (wd (does_neE vU rfl rfl (S.onO 0)) (zb ?_))))))
  refine zG rfl (fun hc34=>?_) (fun hc34=>?_)
  ·replace H:=if_t hc34 H
   refine zd (za (wd (xb rfl) (wd (zE rfl) (zb (zx ?_)))))
   refine ⟨_,(zS (zf rfl)),?_⟩
   replace S:=S.arr [0] []
   obtain rfl:=zce H
   exact ⟨v33,rfl,S⟩
  replace H:=if_f hc34 H
  refine zB (zd (za (wd (zm xr rfl ((S.blk 4).all _ (Checker.len _)) (Checker.len _)) (wd (zm zD rfl ((S.blk 3).all _ (Term.len _)) (Term.len _)) (wd (zk rfl) (wd (ze yS rfl (o':=3) rfl) (wd (zl zR rfl ((S.blk 1).cell (Nd.get_r _))) ?_)))))))
  obtain ⟨r35,er35,H⟩ := zr H
  obtain ⟨B37,MB37,SB37,back⟩ := S.calln 0 ((.z 0 rfl (.z 1 rfl (.z 2 rfl (.z 3 rfl .nil)))))
  refine zu (zq xC) zca (xz zdX (a0:=a0) (a1:=a1) SB37 er35) ?_
  rintro v38 w36 ⟨_,rfl,S2⟩
  replace S:=back _ _ _ _ S2 rfl
  clear back S2 SB37
  refine wd (zE rfl) (zb (zx ?_))
  refine ⟨_,(zS (zf rfl)),?_⟩
  replace S:=S.arr [0] []
  obtain rfl:=zce H
  exact ⟨v38,rfl,S⟩
 replace H:=if_f hc21 H
 refine zd (zd (za (wd (zU rfl rfl) (wd (zo rfl) (zb ?_)))))
 obtain ⟨o39,e39,Ho39⟩ := zr H
 replace H:=e39; clear e39
 refine x6 [75,77] (fun fr W=>fr 75 = .bool o39∧St A N w W [oB b4 zj (Term.C (⟨a1.kind,a1.name,a1.other,a1.form,s_1⟩ : Term)),oB b2 T_Checker (Checker.C (⟨a_0⟩ : Checker))] [oT a_0 a0.t,zn s_1 a1.sub,x8 a_2 a2,oEt]) ?_ ?_
 ·refine zG rfl (fun hc40=>?_) (fun hc40=>?_)
  ·replace H:=if_t hc40 H
   refine zB ?_
   obtain rfl:=zce H
   exact ⟨rfl,(Dif.refl _ _),rfl,S⟩
  ·replace H:=if_f hc40 H
   refine za (wd (zU rfl rfl) (wd (zo rfl) (zb ?_)))
   obtain rfl:=zce H
   exact ⟨rfl,(((Dif.refl _ _).upd rfl _).upd rfl _),rfl,S⟩
 rintro g41 u42 ⟨p39_75,S⟩
 have H:=Ho39
 refine zG p39_75 (fun hc43=>?_) (fun hc43=>?_)
 ·replace H:=if_t hc43 H
  refine zd (za (wd (zm xr rfl ((S.blk 1).all _ (Checker.len _)) (Checker.len _)) (wd (zg rfl) ?_)))
  obtain ⟨r44,er44,H⟩ := zr H
  obtain ⟨B46,MB46,SB46,back⟩ := S.calln 0 ((.z 0 rfl .nil))
  refine zu (zq vM) zca (vN (a0:=a0) SB46 er44) ?_
  rintro _ w45 ⟨v47,rfl,S2⟩
  replace S:=back _ _ _ _ S2 rfl
  clear back S2 SB46
  refine wd (zV rfl) (wd (zt rfl rfl) (wd (zt rfl rfl) ?_))
  refine xd uD zca fun b49 w48 hw48=>?_
  replace S:=S.new hw48
  refine zI x7 rfl rfl (S.blk 0) (Nd.len _) (by rw [Nd.len]; decide) (Nd.one _) (zT (Nd.len _)) fun w50 B hw50 zw50=>?_
  replace S:=S.store 0 B hw50
  clear B
  refine wd (zE rfl) (zb (zd (zd (za (wd (xb rfl) (wd (does_neE vU rfl rfl (S.onO 1)) (zb ?_)))))))
  refine zG rfl (fun hc51=>?_) (fun hc51=>?_)
  ·replace H:=if_t hc51 H
   refine zd (za (wd (xb rfl) (wd (zE rfl) (zb (zx ?_)))))
   refine ⟨_,(zS (zf rfl)),?_⟩
   replace S:=S.arr [1] []
   obtain rfl:=zce H
   exact ⟨v47,rfl,S⟩
  replace H:=if_f hc51 H
  refine zB (zd (zd (za (wd (ze vR rfl (o':=0) rfl) (wd (zl y6 rfl ((S.blk 2).cell (Term.get_kind _))) (wd (zU rfl rfl) (zb ?_)))))))
  refine zG rfl (fun hc52=>?_) (fun hc52=>?_)
  ·replace H:=if_t hc52 H
   refine zd (za (wd (zm xr rfl ((S.blk 3).all _ (Checker.len _)) (Checker.len _)) (wd (zm zD rfl ((S.blk 2).all _ (Term.len _)) (Term.len _)) (wd (zk rfl) (wd (ze yY rfl (o':=2) rfl) (wd (zl zR rfl ((S.blk 0).cell (Nd.get_l _))) ?_))))))
   obtain ⟨r53,er53,H⟩ := zr H
   obtain ⟨B55,MB55,SB55,back⟩ := S.calln 0 ((.z 0 rfl (.z 1 rfl (.z 2 rfl (.z 3 rfl .nil)))))
   refine zu (zq xC) zca (xz zdX (a0:=a0) (a1:=a1) SB55 er53) ?_
   rintro v56 w54 ⟨_,rfl,S2⟩
   replace S:=back _ _ _ _ S2 rfl
   clear back S2 SB55
   refine wd (zE rfl) (zb (zx ?_))
   refine ⟨_,(zS (zf rfl)),?_⟩
   replace S:=S.arr [0] []
   obtain rfl:=zce H
   exact ⟨v56,rfl,S⟩
  replace H:=if_f hc52 H
  refine zB (zd (za (wd (zm xr rfl ((S.blk 3).all _ (Checker.len _)) (Checker.len _)) (wd (zm zD rfl ((S.blk 2).all _ (Term.len _)) (Term.len _)) (wd (zk rfl) (wd (ze yS rfl (o':=3) rfl) (wd (zl zR rfl ((S.blk 0).cell (Nd.get_r _))) ?_)))))))
  obtain ⟨r57,er57,H⟩ := zr H
  obtain ⟨B59,MB59,SB59,back⟩ := S.calln 0 ((.z 0 rfl (.z 1 rfl (.z 2 rfl (.z 3 rfl .nil)))))
  refine zu (zq xC) zca (xz zdX (a0:=a0) (a1:=a1) SB59 er57) ?_
  rintro v60 w58 ⟨_,rfl,S2⟩
  replace S:=back _ _ _ _ S2 rfl
  clear back S2 SB59
  refine wd (zE rfl) (zb (zx ?_))
  refine ⟨_,(zS (zf rfl)),?_⟩
  replace S:=S.arr [0] []
  obtain rfl:=zce H
  exact ⟨v60,rfl,S⟩
 replace H:=if_f hc43 H
 refine zd (za (wd (zU rfl rfl) (wd (zo rfl) (zb ?_))))
 refine zG rfl (fun hc61=>?_) (fun hc61=>?_)
 ·replace H:=if_t hc61 H
  refine zd (za (wd (zm xr rfl ((S.blk 1).all _ (Checker.len _)) (Checker.len _)) (wd (zm zD rfl ((S.blk 0).all _ (Term.len _)) (Term.len _)) (wd (zk rfl) ?_))))
  obtain ⟨r62,er62,H⟩ := zr H
  obtain ⟨B64,MB64,SB64,back⟩ := S.calln 0 ((.z 0 rfl (.z 1 rfl (.z 2 rfl (.z 3 rfl .nil)))))
  refine zu (zq yK) zca (yF zdY (a0:=a0) (a1:=a1) SB64 er62) ?_
  rintro _ w63 ⟨v65,rfl,S2⟩
  replace S:=back _ _ _ _ S2 rfl
  clear back S2 SB64
  refine wd (zV rfl) (wd (zt rfl rfl) (wd (zt rfl rfl) ?_))
  refine xd uD zca fun b67 w66 hw66=>?_
  replace S:=S.new hw66
  refine zI x7 rfl rfl (S.blk 0) (Nd.len _) (by rw [Nd.len]; decide) (Nd.one _) (zT (Nd.len _)) fun w68 B hw68 zw68=>?_
  replace S:=S.store 0 B hw68
  clear B
  refine wd (zE rfl) (zb (zd (zd (za (wd (xb rfl) (wd (does_neE vU rfl rfl (S.onO 1)) (zb ?_)))))))
  refine zG rfl (fun hc69=>?_) (fun hc69=>?_)
  ·replace H:=if_t hc69 H
   refine zd (za (wd (xb rfl) (wd (zE rfl) (zb (zx ?_)))))
   refine ⟨_,(zS (zf rfl)),?_⟩
   replace S:=S.arr [1] []
   obtain rfl:=zce H
   exact ⟨v65,rfl,S⟩
  replace H:=if_f hc69 H
  refine zB (zd (zd ?_))
  refine zbz 9 [7]
   (fun i v u=>match i with
   | 7 => ∃ b:Nat,v=Value.pointer (some ⟨b,0,none⟩)∧Blk u b uu (Scope.C ⟨a1.name,r62.1.l,a_2⟩)∧w68.heap.size ≤ b
   | _=>True) hmix zcd zcd ?_ ?_
  ·intro i v u u' hi hx hv
   match i,hv with
   | 7,⟨b,e1,hb,hl⟩ => exact ⟨b,e1,hb.ext hx,hl⟩
   | 0,_=>exact trivial
   | 1,_=>exact trivial
   | 2,_=>exact trivial
   | 3,_=>exact trivial
   | 4,_=>exact trivial
   | 5,_=>exact trivial
   | 6,_=>exact trivial
   | _ + 8,_=>exact trivial
  refine zQ (fun v K=>zm xr rfl (((S.ext K).blk 3).all _ (Checker.len _)) (Checker.len _)) rfl (zQ (fun v K=>zm zD rfl (((S.ext K).blk 2).all _ (Term.len _)) (Term.len _)) rfl (zQ (fun v K=>zk rfl) rfl (zQ (fun v K=>ze yD rfl (o':=1) rfl) rfl (zQ (fun v K=>zl xq rfl (((S.ext K).blk 2).cell (Term.get_name _))) rfl (zQ (fun v K=>ze yY rfl (o':=2) rfl) rfl (zQ (fun v K=>zl zR rfl (((S.ext K).blk 0).cell (Nd.get_l _))) rfl ?_))))))
  refine vZ (fun g v K G=>⟨_,_,zK yq (zM rfl (zM rfl (zM rfl rfl))),newc (yt _ _ _ _) fun _ _ ⟨b,hv,hx,hb,hl⟩ => ⟨hx,b,hv,hb,by have:=K.size; omega⟩⟩) rfl (zQ (fun v K=>zg rfl) rfl ?_)
  refine jx fun g w71 K hV=>?_
  obtain ⟨b70,hv727,hb7,hf7⟩ := hV 7 rfl zca
  replace S:=(S.newAt K hb7 hf7).pushScope 0 2
  clear K hV
  obtain ⟨r73,er73,H⟩ := zr H
  obtain ⟨B75,MB75,SB75,back⟩ := S.calln 0 ((.z 1 rfl (.z 2 rfl (.z 0 rfl (.z 4 rfl .nil)))))
  refine zu (zK xC (zM rfl (zM rfl (zM rfl (zM hv727 (zM rfl rfl)))))) zca (xz zdX (a0:=a0) (a1:=a1) SB75 er73) ?_
  rintro v76 w74 ⟨_,rfl,S2⟩
  replace S:=back _ _ _ _ S2 rfl
  clear back S2 SB75
  refine wd (zE rfl) (zb (zd (za (wd (xb rfl) (wd (does_neE vU rfl rfl (S.onO 0)) (zb ?_))))))
  refine zG rfl (fun hc77=>?_) (fun hc77=>?_)
  ·replace H:=if_t hc77 H
   refine zd (za (wd (xb rfl) (wd (zE rfl) (zb (zx ?_)))))
   refine ⟨_,(zS (zf rfl)),?_⟩
   replace S:=S.arr [0] []
   obtain rfl:=zce H
   exact ⟨v76,rfl,S⟩
  replace H:=if_f hc77 H
  refine zB (zd ?_)
  refine zbz 9 [7]
   (fun i v u=>match i with
   | 7 => ∃ b:Nat,v=Value.pointer (some ⟨b,0,none⟩)∧Blk u b uu (Scope.C ⟨a1.other,r62.1.r,a_2⟩)∧w74.heap.size ≤ b
   | _=>True) hmix zcd zcd ?_ ?_
  ·intro i v u u' hi hx hv
   match i,hv with
   | 7,⟨b,e1,hb,hl⟩ => exact ⟨b,e1,hb.ext hx,hl⟩
   | 0,_=>exact trivial
   | 1,_=>exact trivial
   | 2,_=>exact trivial
   | 3,_=>exact trivial
   | 4,_=>exact trivial
   | 5,_=>exact trivial
   | 6,_=>exact trivial
   | _ + 8,_=>exact trivial
  refine zQ (fun v K=>zm xr rfl (((S.ext K).blk 4).all _ (Checker.len _)) (Checker.len _)) rfl (zQ (fun v K=>zm zD rfl (((S.ext K).blk 3).all _ (Term.len _)) (Term.len _)) rfl (zQ (fun v K=>zk rfl) rfl (zQ (fun v K=>ze vX rfl (o':=2) rfl) rfl (zQ (fun v K=>zl xq rfl (((S.ext K).blk 3).cell (Term.get_other _))) rfl (zQ (fun v K=>ze yS rfl (o':=3) rfl) rfl (zQ (fun v K=>zl zR rfl (((S.ext K).blk 1).cell (Nd.get_r _))) rfl ?_))))))
  refine vZ (fun g v K G=>⟨_,_,zK yq (zM rfl (zM rfl (zM rfl rfl))),newc (yt _ _ _ _) fun _ _ ⟨b,hv,hx,hb,hl⟩ => ⟨hx,b,hv,hb,by have:=K.size; omega⟩⟩) rfl (zQ (fun v K=>zg rfl) rfl ?_)
  refine jx fun g w79 K hV=>?_
  obtain ⟨b78,hv807,hb7,hf7⟩ := hV 7 rfl zca
  replace S:=(S.newAt K hb7 hf7).pushScope 0 3
  clear K hV
  obtain ⟨r81,er81,H⟩ := zr H
  obtain ⟨B83,MB83,SB83,back⟩ := S.calln 0 ((.z 2 rfl (.z 3 rfl (.z 0 rfl (.z 5 rfl .nil)))))
  refine zu (zK xC (zM rfl (zM rfl (zM rfl (zM hv807 (zM rfl rfl)))))) zca (xz zdX (a0:=a0) (a1:=a1) SB83 er81) ?_
  rintro v84 w82 ⟨_,rfl,S2⟩
  replace S:=back _ _ _ _ S2 rfl
  clear back S2 SB83
  refine wd (zE rfl) (zb (zx ?_))
  refine ⟨_,(zS (zf rfl)),?_⟩
  replace S:=S.arr [0] []
  obtain rfl:=zce H
  exact ⟨v84,rfl,S⟩
 replace H:=if_f hc61 H
 refine zd (za (wd (zU rfl rfl) (wd (zo rfl) (zb ?_))))
 refine zG rfl (fun hc85=>?_) (fun hc85=>?_)
 ·replace H:=if_t hc85 H
  refine zd (za (wd (zm xr rfl ((S.blk 1).all _ (Checker.len _)) (Checker.len _)) (wd (zm zD rfl ((S.blk 0).all _ (Term.len _)) (Term.len _)) (wd (zk rfl) ?_))))
  obtain ⟨r86,er86,H⟩ := zr H
  obtain ⟨B88,MB88,SB88,back⟩ := S.calln 0 ((.z 0 rfl (.z 1 rfl (.z 2 rfl (.z 3 rfl .nil)))))
  refine zu (zq yK) zca (yF zdY (a0:=a0) (a1:=a1) SB88 er86) ?_
  rintro _ w87 ⟨v89,rfl,S2⟩
  replace S:=back _ _ _ _ S2 rfl
  clear back S2 SB88
  refine wd (zV rfl) (wd (zt rfl rfl) (wd (zt rfl rfl) ?_))
  refine xd uD zca fun b91 w90 hw90=>?_
  replace S:=S.new hw90
  refine zI x7 rfl rfl (S.blk 0) (Nd.len _) (by rw [Nd.len]; decide) (Nd.one _) (zT (Nd.len _)) fun w92 B hw92 zw92=>?_
  replace S:=S.store 0 B hw92
  clear B
  refine wd (zE rfl) (zb (zd (za (wd (xb rfl) (wd (zE rfl) (zb (zx ?_)))))))
  refine ⟨_,(zS (zf rfl)),?_⟩
  replace S:=S.arr [1] []
  obtain rfl:=zce H
  exact ⟨v89,rfl,S⟩
 replace H:=if_f hc85 H
 refine zd (za (wd (zU rfl rfl) (wd (zo rfl) (zb ?_))))
 refine zG rfl (fun hc93=>?_) (fun hc93=>?_)
 ·replace H:=if_t hc93 H
  refine zd (za (wd (zm xr rfl ((S.blk 1).all _ (Checker.len _)) (Checker.len _)) (wd (zm zD rfl ((S.blk 0).all _ (Term.len _)) (Term.len _)) (wd (zk rfl) ?_))))
  obtain ⟨r94,er94,H⟩ := zr H
  obtain ⟨B96,MB96,SB96,back⟩ := S.calln 0 ((.z 0 rfl (.z 1 rfl (.z 2 rfl (.z 3 rfl .nil)))))
  refine zu (zq yL) zca (yG zdY (a0:=a0) (a1:=a1) SB96 er94) ?_
  rintro _ w95 ⟨v97,rfl,S2⟩
  replace S:=back _ _ _ _ S2 rfl
  clear back S2 SB96
  refine wd (zV rfl) (wd (zt rfl rfl) (wd (zt rfl rfl) (wd (zh rfl) (wd (zE rfl) (zb (zd (zd (za (wd (xb rfl) (wd (does_neE vU rfl rfl (S.onO 0)) (zb ?_)))))))))))
  refine zG rfl (fun hc98=>?_) (fun hc98=>?_)
  ·replace H:=if_t hc98 H
   refine zd (za (wd (xb rfl) (wd (zE rfl) (zb (zx ?_)))))
   refine ⟨_,(zS (zf rfl)),?_⟩
   replace S:=S.arr [0] []
   obtain rfl:=zce H
   exact ⟨v97,rfl,S⟩
  replace H:=if_f hc98 H
  refine zB (zd ?_)
  refine zbz 8 [6]
   (fun i v u=>match i with
   | 6 => ∃ b:Nat,v=Value.pointer (some ⟨b,0,none⟩)∧Blk u b uu (Scope.C ⟨a1.name,r94.1,a_2⟩)∧w95.heap.size ≤ b
   | _=>True) hmix zcd zcd ?_ ?_
  ·intro i v u u' hi hx hv
   match i,hv with
   | 6,⟨b,e1,hb,hl⟩ => exact ⟨b,e1,hb.ext hx,hl⟩
   | 0,_=>exact trivial
   | 1,_=>exact trivial
   | 2,_=>exact trivial
   | 3,_=>exact trivial
   | 4,_=>exact trivial
   | 5,_=>exact trivial
   | _ + 7,_=>exact trivial
  refine zQ (fun v K=>zm xr rfl (((S.ext K).blk 2).all _ (Checker.len _)) (Checker.len _)) rfl (zQ (fun v K=>zm zD rfl (((S.ext K).blk 1).all _ (Term.len _)) (Term.len _)) rfl (zQ (fun v K=>zk rfl) rfl (zQ (fun v K=>ze yD rfl (o':=1) rfl) rfl (zQ (fun v K=>zl xq rfl (((S.ext K).blk 1).cell (Term.get_name _))) rfl (zQ (fun v K=>zg rfl) rfl ?_)))))
  refine vZ (fun g v K G=>⟨_,_,zK yq (zM rfl (zM rfl (zM rfl rfl))),newc (yt _ _ _ _) fun _ _ ⟨b,hv,hx,hb,hl⟩ => ⟨hx,b,hv,hb,by have:=K.size; omega⟩⟩) rfl (zQ (fun v K=>zg rfl) rfl ?_)
  refine jx fun g w100 K hV=>?_
  obtain ⟨b99,hv1016,hb6,hf6⟩ := hV 6 rfl zca
  replace S:=(S.newAt K hb6 hf6).pushScope 0 2
  clear K hV
  obtain ⟨r102,er102,H⟩ := zr H
  obtain ⟨B104,MB104,SB104,back⟩ := S.calln 0 ((.z 1 rfl (.z 2 rfl (.z 0 rfl (.z 4 rfl .nil)))))
  refine zu (zK xC (zM rfl (zM rfl (zM rfl (zM hv1016 (zM rfl rfl)))))) zca (xz zdX (a0:=a0) (a1:=a1) SB104 er102) ?_
  rintro v105 w103 ⟨_,rfl,S2⟩
  replace S:=back _ _ _ _ S2 rfl
  clear back S2 SB104
  refine wd (zE rfl) (zb (zx ?_))
  refine ⟨_,(zS (zf rfl)),?_⟩
  replace S:=S.arr [0] []
  obtain rfl:=zce H
  exact ⟨v105,rfl,S⟩
 replace H:=if_f hc93 H
 refine zB (zd (za (wd (zm xr rfl ((S.blk 1).all _ (Checker.len _)) (Checker.len _)) (wd (zm zD rfl ((S.blk 0).all _ (Term.len _)) (Term.len _)) (wd (zk rfl) ?_)))))
 obtain ⟨r106,er106,H⟩ := zr H
 obtain ⟨B108,MB108,SB108,back⟩ := S.calln 0 ((.z 0 rfl (.z 1 rfl (.z 2 rfl (.z 3 rfl .nil)))))
 refine zu (zq uJ) zca (zdY (a0:=a0) (a1:=a1) SB108 er106) ?_
 rintro _ w107 ⟨v109,rfl,S2⟩
 replace S:=back _ _ _ _ S2 rfl
 clear back S2 SB108
 refine wd (zV rfl) (wd (zt rfl rfl) (wd (zt rfl rfl) (wd (zh rfl) (wd (zE rfl) (zb (zd (zd (za (wd (xb rfl) (wd (does_eqE vU rfl rfl (S.onO 0)) (wd (zL rfl) ?_)))))))))))
 refine wg (fun hg=>zg rfl) ?_
 refine wg (fun hg=>zg rfl) ?_
 refine wg (fun hg=>xm (zw hg) (zw hg)) (wd (xt rfl (fun hp=>(zw (xE hp)))) (zb ?_))
 refine zG rfl (fun hc110=>?_) (fun hc110=>?_)
 ·replace H:=if_t hc110 H
  refine za (wd (Does.to (v' := .agg (Refusal.C (⟨130,SlV.nil⟩ : Refusal)).toArray) (xF (vs:=[(0,.int .i64 130)]) kE (yl rfl rfl) (Bld.one rfl rfl (by rw [Refusal.len]; decide) (Refusal.set_code _ _) Bld.nil)) rfl) ?_)
  refine zX rfl zca fun b112 w111 hw111=>?_
  replace S:=S.new hw111
  refine wd (does_makeInterface rfl) ?_
  replace S:=((S.nil xB 1 IC).front 1).mkE
  refine wd (zE rfl) (zb (zd (za (wd (xb rfl) (wd (zE rfl) (zb (zx ?_)))))))
  refine ⟨_,(zS (zf rfl)),?_⟩
  replace S:=S.arr [0] []
  obtain rfl:=zce H
  exact ⟨(.iface xS (.pointer (some ⟨b112,0,none⟩))),rfl,S⟩
 ·replace H:=if_f hc110 H
  refine zB (zd (za (wd (xb rfl) (wd (zE rfl) (zb (zx ?_))))))
  refine ⟨_,(zS (zf rfl)),?_⟩
  replace S:=S.arr [0] []
  obtain rfl:=zce H
  exact ⟨v109,rfl,S⟩
theorem types_tc_both : ∀ (k:Nat),(∀ {A:Nat→Prop} {N:Oth} {w:World} {a0:PChecker} {a_0:Option Addr} {a1:PTerm} {s_1:SlV} {a2:List (ByteArray × Int)} {a_2:Option Addr} (S:St A N w w [] [oT a_0 a0.t,zn s_1 a1.sub,x8 a_2 a2,oEt]) {r:Int × (Option (Int × List Int))} (H:zdl.f k a0 a1 a2=some r),Calls PP ye #[.agg (Checker.C (⟨a_0⟩ : Checker)).toArray,.agg (Term.C (⟨a1.kind,a1.name,a1.other,a1.form,s_1⟩ : Term)).toArray,.pointer a_2] w fun e w' => ∃ v,e = .returned v∧(∃ vo0:Value,v = .tuple #[.int .i64 r.1,vo0]∧St A N w w' [oE vo0 r.2] []))∧(∀ {A:Nat→Prop} {N:Oth} {w:World} {a0:PChecker} {a_0:Option Addr} {a1:PTerm} {s_1:SlV} {a2:List (ByteArray × Int)} {a_2:Option Addr} {a3:Int} (S:St A N w w [] [oT a_0 a0.t,zn s_1 a1.sub,x8 a_2 a2,oEt]) {r:(Option (Int × List Int))} (H:zdm.f k a0 a1 a2 a3=some r),Calls PP ya #[.agg (Checker.C (⟨a_0⟩ : Checker)).toArray,.agg (Term.C (⟨a1.kind,a1.name,a1.other,a1.form,s_1⟩ : Term)).toArray,.pointer a_2,.int .i64 a3] w fun e w' => ∃ v,e = .returned v∧(∃ vo0:Value,v=vo0∧St A N w w' [oE vo0 r] [])):=by
 intro k
 induction k with
 | zero =>
  refine ⟨?_,?_⟩
  ·intro A N w a0 a_0 a1 s_1 a2 a_2 S r H; cases H
  ·intro A N w a0 a_0 a1 s_1 a2 a_2 a3 S r H; cases H
 | succ k ih =>
  refine ⟨?_,?_⟩
  ·intro A N w a0 a_0 a1 s_1 a2 a_2 S r H; exact types_checker_told_gst ih.1 ih.2 S H
  ·intro A N w a0 a_0 a1 s_1 a2 a_2 a3 S r H; exact zbp ih.1 ih.2 S H
theorem types_checker_told_st {a0:PChecker} {a_0:Option Addr} {a1:PTerm} {s_1:SlV} {a2:List (ByteArray × Int)} {a_2:Option Addr} (S:St A N w w [] [oT a_0 a0.t,zn s_1 a1.sub,x8 a_2 a2,oEt]) {k:Nat} {r:Int × (Option (Int × List Int))} (H:zdl.f k a0 a1 a2=some r) :
  Calls PP ye #[.agg (Checker.C (⟨a_0⟩ : Checker)).toArray,.agg (Term.C (⟨a1.kind,a1.name,a1.other,a1.form,s_1⟩ : Term)).toArray,.pointer a_2] w fun e w' => ∃ v,e = .returned v∧(∃ vo0:Value,v = .tuple #[.int .i64 r.1,vo0]∧St A N w w' [oE vo0 r.2] []):=by exact (types_tc_both k).1 S H
theorem zbJ {a0:PChecker} {a_0:Option Addr} {a1:PTerm} {s_1:SlV} {a2:List (ByteArray × Int)} {a_2:Option Addr} {a3:Int} (S:St A N w w [] [oT a_0 a0.t,zn s_1 a1.sub,x8 a_2 a2,oEt]) {k:Nat} {r:(Option (Int × List Int))} (H:zdm.f k a0 a1 a2 a3=some r) :
  Calls PP ya #[.agg (Checker.C (⟨a_0⟩ : Checker)).toArray,.agg (Term.C (⟨a1.kind,a1.name,a1.other,a1.form,s_1⟩ : Term)).toArray,.pointer a_2,.int .i64 a3] w fun e w' => ∃ v,e = .returned v∧(∃ vo0:Value,v=vo0∧St A N w w' [oE vo0 r] []):=by exact (types_tc_both k).2 S H
theorem types_ahead_st {a0:Tb} {a_0:Option Addr} {a1:List Hyp} {s_1:SlV} {a2:PTerm} {s_2:SlV} {a3:List Int} {s_3:SlV} (S:St A N w w [oS xB 1 IC s_3 a3] [oT a_0 a0,fS 2 Hyp.C s_1 a1,zn s_2 a2.sub]) {k:Nat} {r:(List (ByteArray × Int)) × Int} (H:zdn.f k a0 a1 a2 a3=some r) :
  Calls PP F_types_ahead #[.pointer a_0,s_1.v,.agg (Term.C (⟨a2.kind,a2.name,a2.other,a2.form,s_2⟩ : Term)).toArray,s_3.v] w fun e w' => ∃ v,e = .returned v∧(∃ ao0:Option Addr,v = .tuple #[.pointer ao0,.int .i64 r.2]∧St A N w w' [] [x8 ao0 r.1]):=by
 unfold zdn.f at H
 refine zz (n:=63) fn_types_ahead rfl rfl zcc (zd (za ?_))
 refine zX rfl zca fun b2 w1 hw1=>?_
 replace S:=S.new hw1
 refine wd (xc rfl) ?_
 replace S:=S.nil_fScopeZ
 refine wd (zh rfl) (zb (zd (zd (za (wd (zk rfl) ?_)))))
 obtain ⟨r3,er3,H⟩ := zr H
 obtain ⟨B5,MB5,SB5,back⟩ := S.calln 0 ((.z 1 rfl .nil))
 refine zu (zq ca_formula_Table_Not) zca (zbG SB5 rfl er3) ?_
 rintro _ w4 ⟨rfl,S2⟩
 replace S:=back _ _ _ _ S2 rfl
 clear back S2 SB5
 refine wd (zV rfl) (wd (zt rfl rfl) (wd (zt rfl rfl) (wd (zh rfl) (wd (zh rfl) (zb (zd (za (wd (zg rfl) (wd (zU rfl rfl) (zb ?_))))))))))
 refine zG rfl (fun hc6=>?_) (fun hc6=>?_)
 ·replace H:=if_t hc6 H
  refine zd (za (wd (zg rfl) (wd (xc rfl) ?_)))
  replace S:=S.nil_fScopeZ
  refine wd (zh rfl) (zb (zx ?_))
  refine ⟨_,(xn (zf rfl) (zf rfl)),?_⟩
  replace S:=S.arr [] [0]
  obtain rfl:=zce H
  exact ⟨none,rfl,S⟩
 replace H:=if_f hc6 H
 refine zB (zd (za (wd (xc rfl) ?_)))
 replace S:=S.nil_fScopeZ
 refine zb (zd (zd (za (wd (zA rfl) (wd (xg yk rfl (S.rd 3)) (wd (zg rfl) (zb ?_)))))))
 obtain ⟨o7,e7,Ho7⟩ := zr H
 clear H
 refine x6 [3,12,14,29,30,31,32,33,34,35,36,37,38,39,40,41,42,43,44] (fun fr W => ∃ s8:SlV,∃ a9:Option Addr,fr 3=s8.v∧fr 12 = .pointer a9∧St A N w W [oB b2 zj (Term.C (⟨a2.kind,a2.name,a2.other,a2.form,s_2⟩ : Term)),oS xB 1 IC s8 o7.1] [x8 a9 o7.2,x8 none ([]:List (ByteArray × Int)),oT a_0 a0,fS 2 Hyp.C s_1 a1,zn s_2 a2.sub]) ?_ ?_
 ·refine zP ?_
  refine xY (α:=Nat × Int × (List Int × (List (ByteArray × Int)))) [3,12,14,29,30,31,32,33,34,35,36,37,38,39,40,41,42,43,44] (fun x fr W=>(x.1:Int)=(a1.length:Int) - x.2.1∧0 ≤ x.2.1∧forS (fun i s=>zdn.b0 a1 i s.1 s.2) x.1 x.2.1 x.2.2=some o7 ∧ ∃ s10:SlV,∃ a11:Option Addr,fr 29 = .int .i64 x.2.1∧fr 3=s10.v∧fr 12 = .pointer a11∧St A N w W [oB b2 zj (Term.C (⟨a2.kind,a2.name,a2.other,a2.form,s_2⟩ : Term)),oS xB 1 IC s10 (x.2.2.1)] [x8 a11 (x.2.2.2),x8 none ([]:List (ByteArray × Int)),oT a_0 a0,fS 2 Hyp.C s_1 a1,zn s_2 a2.sub]) (fun x=>x.1) (((a1.length:Int) - 0).toNat,0,(a3,([]:List (ByteArray × Int)))) ⟨(by dsimp only; have hle:=Int.natCast_nonneg (a1.length); omega),(Int.le_refl _),(by dsimp only; exact e7),s_3,none,rfl,rfl,rfl,S⟩ ?_
  rintro ⟨m7,i7,⟨x7_0,x7_1⟩⟩ g7 u7 ⟨hm7,hl7,e7,s12,a13,q7_i,q7_3,q7_12,S⟩
  try dsimp only at hm7
  try dsimp only at hl7
  try dsimp only at e7
  try dsimp only at S
  try dsimp only at q7_i
  try dsimp only at q7_3
  try dsimp only at q7_12
  refine zd (za (wd (xQ q7_i rfl) (zb (zd ?_))))
  refine zG rfl (fun hc14=>?_) (fun hc14=>?_)
  rotate_left
  ·refine yn ?_
   have hge:(a1.length:Int) ≤ i7:=Int.not_lt.1 (of_decide_eq_false hc14)
   obtain rfl:m7=0:=by omega
   replace e7:=forS_0 e7
   obtain rfl:=e7
   exact ⟨rfl,((Dif.self _ _ _).upd rfl _),s12,a13,q7_3,q7_12,S⟩
  refine zB ?_
  have hlt7:i7 < (a1.length:Int):=of_decide_eq_true hc14
  obtain ⟨m7,rfl⟩ : ∃ m,m7=m + 1:=⟨m7 - 1,by omega⟩
  obtain ⟨q7,H,e7⟩ := forS_s e7
  unfold zdn.b0 at H
  try dsimp only at H
  have hb7:=(S.len 3)
  refine zd ?_
  refine zP (zd (za (wd (xa yk rfl q7_i (S.rd 3) (And.intro (show 0 ≤ i7 by omega) (show i7 < (a1.length:Int) from hlt7)).1 (And.intro (show 0 ≤ i7 by omega) (show i7 < (a1.length:Int) from hlt7)).2) (wd (zm ag_Hyp rfl ((S.rd 3).at (ym Hyp.z (And.intro (show 0 ≤ i7 by omega) (show i7 < (a1.length:Int) from hlt7)))) (Hyp.len _)) ?_))))
  refine xd ze_Hyp zca fun b17 w16 hw16=>?_
  replace S:=S.new hw16
  refine zI ag_Hyp rfl rfl (S.blk 0) (Hyp.len _) (by rw [Hyp.len]; decide) (Hyp.one _) (zT (Hyp.len _)) fun w18 B hw18 zw18=>?_
  replace S:=S.store 0 B hw18
  clear B
  refine zb (zd (za (wd (zA q7_3) (wd (ze fl_Hyp_form rfl (o':=1) rfl) (wd (zl zR rfl ((S.blk 0).cell (Hyp.get_form _))) ?_)))))
  refine xD (C:=IC) (l:=[(at_ Hyp.z a1 i7).form]) (vs:=[.int .i64 ((at_ Hyp.z a1 i7).form)]) xG kI.zero rfl rfl (fun _ _=>rfl) zca rfl zca fun b20 w19 s21 hBw19 hw19=>?_
  replace S:=S.lit hBw19 hw19 zcc
  obtain ⟨ha24,H⟩ := xo H
  have ha24:=of_decide_eq_true ha24
  refine zbh (C:=IC) xG kI rfl rfl (S.sl 3) (S.rdO 0) zcc (fun a _ v hv=>by rw [List.mem_singleton.1 hv]; rfl) ha24 zcb zca fun s23 w22 O hw22 gw22=>?_
  replace S:=S.push 3 O (by first | (simp; done) | (simp; omega)) hw22 gw22
  clear O
  refine wd (xP rfl) (zb (za (wd (zk q7_12) (wd (ze fl_Hyp_name rfl (o':=0) rfl) (wd (zl xq rfl ((S.blk 2).cell (Hyp.get_name _))) (wd (ze fl_Hyp_form rfl (o':=1) rfl) (wd (zl zR rfl ((S.blk 2).cell (Hyp.get_form _))) ?_)))))))
  obtain ⟨r25,er25,H⟩ := zr H
  obtain ⟨B27,MB27,SB27,back⟩ := S.sub [0] [] [oS xB 1 IC s23 (x7_0 ++ [(at_ Hyp.z a1 i7).form]),oS xB 1 IC s21 ([(at_ Hyp.z a1 i7).form]),oB b17 xN (Hyp.C (at_ Hyp.z a1 i7)),oB b2 zj (Term.C (⟨a2.kind,a2.name,a2.other,a2.form,s_2⟩ : Term))]
  refine zu (zq yq) zca (types_scope_with_st SB27 er25) ?_
  rintro _ w26 ⟨a28,rfl,S2⟩
  replace S:=back _ _ _ _ _ S2 rfl rfl
  clear back S2 SB27
  refine wd (xc rfl) (zb (za (wd (xK q7_i rfl (c:=i7 + 1) rfl zcb zcb) (wd (zg rfl) (zb ?_)))))
  replace S:=S.arr [3,0] [0,2,3,4,5]
  obtain rfl:=zce H
  exact ⟨rfl,(by repeat first | exact Dif.refl _ _ | exact Dif.self _ _ _ | refine Dif.upd ?_ rfl _ | refine Dif.mask ?_ rfl _),(m7,i7 + 1,(x7_0 ++ [(at_ Hyp.z a1 i7).form],r25)),⟨(by dsimp only; omega),(by dsimp only; omega),e7,s23,a28,rfl,rfl,rfl,S⟩,by dsimp only; omega⟩
 rintro g29 u30 ⟨s8,a9,p7_3,p7_12,S⟩
 have H:=Ho7
 refine zd (zd (za (wd (zA p7_3) (wd (xg xG rfl (S.rdO 1)) (wd (zg rfl) (zb ?_))))))
 obtain ⟨o31,e31,Ho31⟩ := zr H
 clear H
 refine x6 [8,9,16,17,18,47,48,49,50,51,52,53,54,55,56,57,58,59] (fun fr W => ∃ s31:Unit,o31 = .inl s31∧St A N w W [oB b2 zj (Term.C (⟨a2.kind,a2.name,a2.other,a2.form,s_2⟩ : Term)),oS xB 1 IC s8 o7.1] [x8 a9 o7.2,x8 none ([]:List (ByteArray × Int)),oT a_0 a0,fS 2 Hyp.C s_1 a1,zn s_2 a2.sub]) ?_ ?_
 ·refine zP ?_
  refine xY (α:=Nat × Int × Unit) [8,9,16,17,18,47,48,49,50,51,52,53,54,55,56,57,58,59] (fun x fr W=>(x.1:Int)=(o7.1.length:Int) - x.2.1∧0 ≤ x.2.1∧forN (fun i s=>zdn.b1 a0 o7 i) x.1 x.2.1 x.2.2=some o31∧fr 47 = .int .i64 x.2.1∧St A N w W [oB b2 zj (Term.C (⟨a2.kind,a2.name,a2.other,a2.form,s_2⟩ : Term)),oS xB 1 IC s8 o7.1] [x8 a9 o7.2,x8 none ([]:List (ByteArray × Int)),oT a_0 a0,fS 2 Hyp.C s_1 a1,zn s_2 a2.sub]) (fun x=>x.1) (((o7.1.length:Int) - 0).toNat,0,()) ⟨(by dsimp only; have hle:=Int.natCast_nonneg (o7.1.length); omega),(Int.le_refl _),(by dsimp only; exact e31),rfl,S⟩ ?_
  rintro ⟨m31,i31,_⟩ g31 u31 ⟨hm31,hl31,e31,q31_i,S⟩
  try dsimp only at hm31
  try dsimp only at hl31
  try dsimp only at e31
  try dsimp only at S
  try dsimp only at q31_i
  refine zd (za (wd (xQ q31_i rfl) (zb (zd ?_))))
  refine zG rfl (fun hc32=>?_) (fun hc32=>?_)
  rotate_left
  ·refine yn ?_
   have hge:(o7.1.length:Int) ≤ i31:=Int.not_lt.1 (of_decide_eq_false hc32)
   obtain rfl:m31=0:=by omega
   replace e31:=zaZ e31
   exact ⟨rfl,((Dif.self _ _ _).upd rfl _),(),e31,S⟩
  refine zB ?_
  have hlt31:i31 < (o7.1.length:Int):=of_decide_eq_true hc32
  obtain ⟨m31,rfl⟩ : ∃ m,m31=m + 1:=⟨m31 - 1,by omega⟩
  obtain ⟨q31,H,e31⟩ := zba e31
  unfold zdn.b1 at H
  try dsimp only at H
  have hb31:=(S.lenO 1)
  refine zd ?_
  refine zP (zd (za (wd (xa xG rfl q31_i (S.rdO 1) (And.intro (show 0 ≤ i31 by omega) (show i31 < (o7.1.length:Int) from hlt31)).1 (And.intro (show 0 ≤ i31 by omega) (show i31 < (o7.1.length:Int) from hlt31)).2) (wd (zl zR rfl ((S.rdO 1).one (ym (0:Int) (And.intro (show 0 ≤ i31 by omega) (show i31 < (o7.1.length:Int) from hlt31))) rfl)) (wd (zh rfl) (zb (zd (za (wd (zk rfl) (wd (zg rfl) ?_))))))))))
  obtain ⟨r34,er34,H⟩ := zr H
  obtain ⟨B36,MB36,SB36,back⟩ := S.calln 0 ((.z 2 rfl .nil))
  refine zu (zq yv) zca (yx SB36 er34) ?_
  rintro _ w35 ⟨rfl,S2⟩
  replace S:=back _ _ _ _ S2 rfl
  clear back S2 SB36
  refine wd (zV rfl) (wd (zt rfl rfl) (wd (zt rfl rfl) ?_))
  refine xd uD zca fun b38 w37 hw37=>?_
  replace S:=S.new hw37
  refine zI x7 rfl rfl (S.blk 0) (Nd.len _) (by rw [Nd.len]; decide) (Nd.one _) (zT (Nd.len _)) fun w39 B hw39 zw39=>?_
  replace S:=S.store 0 B hw39
  clear B
  refine wd (zo rfl) (zb (zd (za (wd (zL rfl) (wd (xk rfl) (zb ?_))))))
  refine zG rfl (fun hc40=>?_) (fun hc40=>?_)
  ·replace H:=if_t hc40 H
   refine zd (za (wd (xc rfl) ?_))
   replace S:=S.nil_fScopeZ
   refine wd (zh rfl) (zb (zx ?_))
   refine ⟨_,(xn (zf rfl) (zf rfl)),?_⟩
   replace S:=S.arr [] [0]
   obtain rfl:=zce H
   obtain rfl:=e31
   obtain rfl:=jX Ho31
   exact ⟨none,rfl,S⟩
  replace H:=if_f hc40 H
  refine zB (za (wd (xK q31_i rfl (c:=i31 + 1) rfl zcb zcb) (wd (zg rfl) (zb ?_))))
  replace S:=S.arr [1,2] [0,1,2,3,4]
  obtain rfl:=zce H
  exact ⟨rfl,(by repeat first | exact Dif.refl _ _ | exact Dif.self _ _ _ | refine Dif.upd ?_ rfl _ | refine Dif.mask ?_ rfl _),(m31,i31 + 1,()),⟨(by dsimp only; omega),(by dsimp only; omega),e31,rfl,S⟩,by dsimp only; omega⟩
 rintro g41 u42 ⟨s31,rfl,S⟩
 have H:=Ho31
 dsimp only [aft] at H
 refine zd (za (wd (zk p7_12) (wd (zm zD rfl ((S.blk 0).all _ (Term.len _)) (Term.len _)) ?_)))
 obtain ⟨r43,er43,H⟩ := zr H
 obtain ⟨B45,MB45,SB45,back⟩ := S.calln 0 ((.z 4 rfl .nil))
 refine zu (zq ca_term_Check) zca (term_Check_st (a0:=a2) SB45 er43) ?_
 rintro _ w44 ⟨rfl,S2⟩
 replace S:=back _ _ _ _ S2 rfl
 clear back S2 SB45
 refine wd (xc rfl) (wd (zh rfl) (zb (zx ?_)))
 refine ⟨_,(xn (zf rfl) (zf rfl)),?_⟩
 replace S:=S.arr [] [0]
 obtain rfl:=zce H
 exact ⟨a9,rfl,S⟩
theorem types_Where_st {a0:Tb} {a_0:Option Addr} {a1:List Hyp} {s_1:SlV} {a2:PTerm} {s_2:SlV} {a3:Int} (S:St A N w w [] [oT a_0 a0,fS 2 Hyp.C s_1 a1,zn s_2 a2.sub,oEt]) {k:Nat} {r:List Int × Int} (H:zdo.f k a0 a1 a2 a3=some r) :
  Calls PP F_types_Where #[.pointer a_0,s_1.v,.agg (Term.C (⟨a2.kind,a2.name,a2.other,a2.form,s_2⟩ : Term)).toArray,.int .i64 a3] w fun e w' => ∃ v,e = .returned v∧(∃ so0:SlV,v = .tuple #[so0.v,.int .i64 r.2]∧St A N w w' [oS xB 1 IC so0 r.1] []):=by
 unfold zdo.f at H
 refine zz (n:=33) fn_types_Where rfl rfl zcc (zd (za ?_))
 refine zX rfl zca fun b2 w1 hw1=>?_
 replace S:=S.new hw1
 refine wd (xw) (wd (zh rfl) (zb (zd (za (wd (zk rfl) (wd (zA rfl) (wd (zm zD rfl ((S.blk 0).all _ (Term.len _)) (Term.len _)) (wd (zg rfl) ?_))))))))
 refine xD (C:=IC) (l:=[a3]) (vs:=[.int .i64 a3]) xG kI.zero rfl rfl (fun _ _=>rfl) zca rfl zca fun b4 w3 s5 hBw3 hw3=>?_
 replace S:=S.lit hBw3 hw3 zcc
 obtain ⟨r6,er6,H⟩ := zr H
 obtain ⟨B8,MB8,SB8,back⟩ := S.sub [0,1,2] [oS xB 1 IC s5 ([a3])] [oB b2 zj (Term.C (⟨a2.kind,a2.name,a2.other,a2.form,s_2⟩ : Term))]
 refine zu (zq ca_types_ahead) zca (types_ahead_st (a2:=a2) SB8 er6) ?_
 rintro _ w7 ⟨a9,rfl,S2⟩
 replace S:=back _ _ _ _ _ S2 rfl rfl
 clear back S2 SB8
 refine wd (zV rfl) (wd (zt rfl rfl) (wd (zt rfl rfl) (wd (xc rfl) (wd (zh rfl) (zb (zd (zd (za (wd (zg rfl) (wd (xm rfl rfl) (zb ?_)))))))))))
 refine zG rfl (fun hc10=>?_) (fun hc10=>?_)
 ·replace H:=if_t hc10 H
  refine zd (za (wd (zg rfl) (wd (xw) (wd (zh rfl) (zb (zx ?_))))))
  replace S:=S.nil xB 1 IC
  refine ⟨_,(xn (zf rfl) (zf rfl)),?_⟩
  replace S:=S.arr [0] []
  obtain rfl:=zce H
  exact ⟨SlV.nil,rfl,S⟩
 replace H:=if_f hc10 H
 refine zB (zd (za (wd (zk rfl) (wd (Does.to (v' := .agg (Checker.C (⟨a_0⟩ : Checker)).toArray) (xF (vs:=[(0,.pointer a_0)]) bu_Checker (yl rfl rfl) (Bld.one rfl rfl (by rw [Checker.len]; decide) (Checker.set_t _ _) Bld.nil)) rfl) (wd (zm zD rfl ((S.blk 0).all _ (Term.len _)) (Term.len _)) (wd (zk rfl) (wd (zg rfl) ?_)))))))
 obtain ⟨r11,er11,H⟩ := zr H
 obtain ⟨B13,MB13,SB13,back⟩ := S.calln 0 ((.z 1 rfl (.z 3 rfl (.z 0 rfl (.z 4 rfl .nil)))))
 refine zu (zq jC) zca (zbJ (a0:=(⟨a0⟩ : PChecker)) (a1:=a2) SB13 er11) ?_
 rintro v14 w12 ⟨_,rfl,S2⟩
 replace S:=back _ _ _ _ S2 rfl
 clear back S2 SB13
 obtain ⟨r15,er15,H⟩ := zr H
 obtain ⟨B17,MB17,SB17,back⟩ := S.calln 1 ((.z 4 rfl .nil))
 refine zu (zq ca_types_code) zca (types_code_st (a0:=r11) SB17 er15) ?_
 rintro _ w16 ⟨s18,rfl,S2⟩
 replace S:=back _ _ _ _ S2 rfl
 clear back S2 SB17
 refine wd (zt rfl rfl) (wd (zt rfl rfl) (wd (xP rfl) (wd (zh rfl) (zb (zx ?_)))))
 refine ⟨_,(xn (zf rfl) (zf rfl)),?_⟩
 replace S:=S.arr [0] []
 obtain rfl:=zce H
 exact ⟨s18,rfl,S⟩
theorem types_Check_st {a0:Tb} {a_0:Option Addr} {a1:List Hyp} {s_1:SlV} {a2:PTerm} {s_2:SlV} {a3:Int} (S:St A N w w [] [oT a_0 a0,fS 2 Hyp.C s_1 a1,zn s_2 a2.sub,oEt]) {k:Nat} {r:Int} (H:zdp.f k a0 a1 a2 a3=some r) :
  Calls PP F_types_Check #[.pointer a_0,s_1.v,.agg (Term.C (⟨a2.kind,a2.name,a2.other,a2.form,s_2⟩ : Term)).toArray,.int .i64 a3] w fun e w' => ∃ v,e = .returned v∧(v = .int .i64 r∧St A N w w' [] []):=by
 unfold zdp.f at H
 refine zz (n:=20) fn_types_Check rfl rfl zcc (zd (za ?_))
 refine zX rfl zca fun b2 w1 hw1=>?_
 replace S:=S.new hw1
 refine wd (zh rfl) (zb (zd (za (wd (zk rfl) (wd (zA rfl) (wd (zm zD rfl ((S.blk 0).all _ (Term.len _)) (Term.len _)) (wd (zg rfl) ?_)))))))
 obtain ⟨r3,er3,H⟩ := zr H
 obtain ⟨B5,MB5,SB5,back⟩ := S.calln 0 ((.z 0 rfl (.z 1 rfl (.z 2 rfl (.z 3 rfl .nil)))))
 refine zu (zq ca_types_Where) zca (types_Where_st (a2:=a2) SB5 er3) ?_
 rintro _ w4 ⟨s6,rfl,S2⟩
 replace S:=back _ _ _ _ S2 rfl
 clear back S2 SB5
 refine wd (zV rfl) (wd (zt rfl rfl) (wd (zt rfl rfl) (wd (xP rfl) (wd (zh rfl) (zb (zd (za (wd (zg rfl) (wd (zh rfl) (zb (zx ?_)))))))))))
 refine ⟨_,(zS (zf rfl)),?_⟩
 replace S:=S.arr [] []
 obtain rfl:=zce H
 exact ⟨rfl,S⟩
theorem types_Infer_st {a0:Tb} {a_0:Option Addr} {a1:List Hyp} {s_1:SlV} {a2:PTerm} {s_2:SlV} (S:St A N w w [] [oT a_0 a0,fS 2 Hyp.C s_1 a1,zn s_2 a2.sub,oEt]) {k:Nat} {r:Int × Int} (H:zdq.f k a0 a1 a2=some r) :
  Calls PP F_types_Infer #[.pointer a_0,s_1.v,.agg (Term.C (⟨a2.kind,a2.name,a2.other,a2.form,s_2⟩ : Term)).toArray] w fun e w' => ∃ v,e = .returned v∧(v = .tuple #[.int .i64 r.1,.int .i64 r.2]∧St A N w w' [] []):=by
 unfold zdq.f at H
 refine zz (n:=39) fn_types_Infer rfl rfl zcc (zd (za ?_))
 refine zX rfl zca fun b2 w1 hw1=>?_
 replace S:=S.new hw1
 refine wd (zh rfl) (wd (zh rfl) (zb (zd (za (wd (zk rfl) (wd (zA rfl) (wd (zm zD rfl ((S.blk 0).all _ (Term.len _)) (Term.len _)) ?_)))))))
 replace S:=S.nil xB 1 IC
 obtain ⟨r3,er3,H⟩ := zr H
 obtain ⟨B5,MB5,SB5,back⟩ := S.sub [0,1,2] [oS xB 1 IC SlV.nil ([]:List Int)] [oB b2 zj (Term.C (⟨a2.kind,a2.name,a2.other,a2.form,s_2⟩ : Term))]
 refine zu (zK ca_types_ahead (zM rfl (zM rfl (zM rfl (zM SlV.nil_eq rfl))))) zca (types_ahead_st (a2:=a2) SB5 er3) ?_
 rintro _ w4 ⟨a6,rfl,S2⟩
 replace S:=back _ _ _ _ _ S2 rfl rfl
 clear back S2 SB5
 refine wd (zV rfl) (wd (zt rfl rfl) (wd (zt rfl rfl) (wd (xc rfl) (wd (zh rfl) (zb (zd (zd (za (wd (zg rfl) (wd (xm rfl rfl) (zb ?_)))))))))))
 refine zG rfl (fun hc7=>?_) (fun hc7=>?_)
 ·replace H:=if_t hc7 H
  refine zd (za (wd (zg rfl) (wd (zh rfl) (wd (zh rfl) (zb (zx ?_))))))
  refine ⟨_,(xn (zf rfl) (zf rfl)),?_⟩
  replace S:=S.arr [] []
  obtain rfl:=zce H
  exact ⟨rfl,S⟩
 replace H:=if_f hc7 H
 refine zB (zd (za (wd (zk rfl) (wd (Does.to (v' := .agg (Checker.C (⟨a_0⟩ : Checker)).toArray) (xF (vs:=[(0,.pointer a_0)]) bu_Checker (yl rfl rfl) (Bld.one rfl rfl (by rw [Checker.len]; decide) (Checker.set_t _ _) Bld.nil)) rfl) (wd (zm zD rfl ((S.blk 0).all _ (Term.len _)) (Term.len _)) (wd (zk rfl) ?_))))))
 obtain ⟨r8,er8,H⟩ := zr H
 obtain ⟨B10,MB10,SB10,back⟩ := S.calln 0 ((.z 1 rfl (.z 3 rfl (.z 0 rfl (.z 4 rfl .nil)))))
 refine zu (zq uJ) zca (types_checker_told_st (a0:=(⟨a0⟩ : PChecker)) (a1:=a2) SB10 er8) ?_
 rintro _ w9 ⟨v11,rfl,S2⟩
 replace S:=back _ _ _ _ S2 rfl
 clear back S2 SB10
 refine wd (zV rfl) (wd (zt rfl rfl) (wd (zt rfl rfl) (wd (zh rfl) (wd (zE rfl) (zb (zd (zd (za (wd (xb rfl) ?_)))))))))
 obtain ⟨r12,er12,H⟩ := zr H
 obtain ⟨B14,MB14,SB14,back⟩ := S.calln 1 ((.z 4 rfl .nil))
 refine zu (zq ca_types_code) zca (types_code_st (a0:=r8.2) SB14 er12) ?_
 rintro _ w13 ⟨s15,rfl,S2⟩
 replace S:=back _ _ _ _ S2 rfl
 clear back S2 SB14
 refine wd (zV rfl) (wd (zt rfl rfl) (wd (zt rfl rfl) (wd (zh rfl) (zb (zd (za (wd (zg rfl) (wd (xm rfl rfl) (zb ?_)))))))))
 refine zG rfl (fun hc16=>?_) (fun hc16=>?_)
 ·replace H:=if_t hc16 H
  refine zd (za (wd (zg rfl) (wd (zh rfl) (wd (zh rfl) (zb (zx ?_))))))
  refine ⟨_,(xn (zf rfl) (zf rfl)),?_⟩
  replace S:=S.arr [] []
  obtain rfl:=zce H
  exact ⟨rfl,S⟩
 replace H:=if_f hc16 H
 refine zB (zd (za (wd (zg rfl) (wd (zh rfl) (wd (zh rfl) (zb (zx ?_)))))))
 refine ⟨_,(xn (zf rfl) (zf rfl)),?_⟩
 replace S:=S.arr [] []
 obtain rfl:=zce H
 exact ⟨rfl,S⟩
end
end Go.Proofs.YtflieamjacclnaaGreatDoor
