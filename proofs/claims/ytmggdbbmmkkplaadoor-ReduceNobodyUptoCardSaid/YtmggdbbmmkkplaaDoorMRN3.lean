/- Texts put together. -/
import Derived.Test.YtmggdbbmmkkplaaDoorMRN2
set_option linter.unusedVariables false
set_option linter.unusedSimpArgs false
namespace Go.Proofs.YtmggdbbmmkkplaaDoor
section
open Gw Go.RowKit
set_option maxHeartbeats 4000000
set_option maxRecDepth 20000
variable {A:Nat→Prop} {N:Oth} {w:World}
theorem uG {a0:PTerm} {s_0:SlV} {a1:Int} (S:St A N w w [] [za s_0 a0.sub]) {r:PTerm} (H:j7.f a0 a1=some r) :
  Calls PP F_reduce_the #[.agg (Term.C (⟨a0.kind,a0.name,a0.other,a0.form,s_0⟩ : Term)).toArray,.int .i64 a1] w fun e w' => ∃ v,e = .returned v∧(∃ so0:SlV,v = .agg (Term.C (⟨r.kind,r.name,r.other,r.form,so0⟩ : Term)).toArray∧St A N w w' [] [za so0 r.sub]):=by
 unfold j7.f at H
 refine zE (n:=9) fn_reduce_the rfl rfl jL ?_
 refine zg (zd ?_)
 refine zQ rfl jJ fun b2 w1 hw1=>?_
 replace S:St A N w w1 [oB b2 zb (Term.C (⟨a0.kind,a0.name,a0.other,a0.form,s_0⟩ : Term))] [za s_0 a0.sub]:=S.new hw1
 refine zZ xr jJ fun b4 w3 hw3=>?_
 replace S:St A N w w3 [oB b4 zb (Term.C (⟨0,ByteArray.empty,ByteArray.empty,0,SlV.nil⟩ : Term)),oB b2 zb (Term.C (⟨a0.kind,a0.name,a0.other,a0.form,s_0⟩ : Term))] [za s_0 a0.sub]:=S.new hw3
 refine ze ?_
 refine zg (zd ?_)
 refine wd (zp rfl) ?_
 refine wd (zi zq rfl ((S.blk 1).all _ (Term.len _)) (Term.len _)) ?_
 refine ve (C:=Term.C) (l:=[(⟨a0.kind,a0.name,a0.other,a0.form,s_0⟩ : Term)]) (vs:=[.agg (Term.C (⟨a0.kind,a0.name,a0.other,a0.form,s_0⟩ : Term)).toArray]) zz ul.zero rfl rfl (fun a _=>Term.len a) jJ rfl jJ fun b6 w5 s7 hBw5 hw5=>?_
 replace S:St A N w w5 [oS zb 5 Term.C s7 ([(⟨a0.kind,a0.name,a0.other,a0.form,s_0⟩ : Term)]),oB b4 zb (Term.C (⟨0,ByteArray.empty,ByteArray.empty,0,SlV.nil⟩ : Term)),oB b2 zb (Term.C (⟨a0.kind,a0.name,a0.other,a0.form,s_0⟩ : Term))] [za s_0 a0.sub]:=S.lit hBw5 hw5 jL
 replace S:St A N w w5 [oS zb 5 Term.C s7 ([(⟨a0.kind,a0.name,a0.other,a0.form,s_0⟩ : Term)]),oB b4 zb (Term.C (⟨0,ByteArray.empty,ByteArray.empty,0,SlV.nil⟩ : Term)),oB b2 zb (Term.C (⟨a0.kind,a0.name,a0.other,a0.form,s_0⟩ : Term))] [bigA zK ([]:List Term) ([]:List PTerm),za s_0 a0.sub]:=S.bigTm
 replace S:St A N w w5 [oS zb 5 Term.C s7 ([(⟨a0.kind,a0.name,a0.other,a0.form,s_0⟩ : Term)]),oB b4 zb (Term.C (⟨0,ByteArray.empty,ByteArray.empty,0,SlV.nil⟩ : Term)),oB b2 zb (Term.C (⟨a0.kind,a0.name,a0.other,a0.form,s_0⟩ : Term))] [bigA zK [(⟨a0.kind,a0.name,a0.other,a0.form,s_0⟩ : Term)] [a0],za s_0 a0.sub]:=S.consTm (x:=a0) 0
 replace S:St A N w w5 [oB b4 zb (Term.C (⟨0,ByteArray.empty,ByteArray.empty,0,SlV.nil⟩ : Term)),oB b2 zb (Term.C (⟨a0.kind,a0.name,a0.other,a0.form,s_0⟩ : Term))] [za s7 ([a0]),bigA zK [(⟨a0.kind,a0.name,a0.other,a0.form,s_0⟩ : Term)] [a0],za s_0 a0.sub]:=S.frzTm 0 0
 replace S:St A N w w5 [oB b4 zb (Term.C (⟨0,ByteArray.empty,ByteArray.empty,0,SlV.nil⟩ : Term)),oB b2 zb (Term.C (⟨a0.kind,a0.name,a0.other,a0.form,s_0⟩ : Term))] [za s7 ([a0]),za s_0 a0.sub]:=S.zs [0,2]
 refine wd (Does.to (v' := .agg (Term.C (⟨11,ByteArray.empty,ByteArray.empty,a1,s7⟩ : Term)).toArray) (xg (vs:=[(0,.int .i64 11),(3,.int .i64 a1),(4,s7.v)]) xW (xE rfl (xE rfl (xE rfl rfl))) (Bld.one rfl rfl (by rw [Term.len]; decide) (Term.set_kind _ _) (Bld.one rfl rfl (by rw [Term.len]; decide) (Term.set_form _ _) (Bld.one rfl (SlV.one _ _ rfl) (by rw [Term.len]; decide) (Term.set_sub _ _) Bld.nil)))) rfl) ?_
 refine zy zq rfl rfl (S.blk 0) (Term.len _) (by rw [Term.len]; decide) (Term.one _) (zM (Term.len _)) fun w8 B hw8 zw8=>?_
 replace S:St A N w w8 [oB b4 zb (Term.C (⟨11,ByteArray.empty,ByteArray.empty,a1,s7⟩ : Term)),oB b2 zb (Term.C (⟨a0.kind,a0.name,a0.other,a0.form,s_0⟩ : Term))] [za s7 ([a0]),za s_0 a0.sub]:=S.store 0 B hw8
 clear B
 refine ze ?_
 refine zC ?_
 refine ⟨_,(z1 (zV zq rfl ((S.blk 0).all _ (Term.len _)) (Term.len _))),?_⟩
 replace S:St A N w w8 [] [za s7 ([a0])]:=S.arr [] [0]
 obtain rfl:=jN H
 exact ⟨s7,rfl,S⟩
theorem ye {a0:PTerm} {s_0:SlV} {a1:Int} (S:St A N w w [] [za s_0 a0.sub]) {r:Bool} (H:j8.f a0 a1=some r) :
  Calls PP F_reduce_headed #[.agg (Term.C (⟨a0.kind,a0.name,a0.other,a0.form,s_0⟩ : Term)).toArray,.int .i64 a1] w fun e w' => ∃ v,e = .returned v∧(v = .bool r∧St A N w w' [] []):=by
 unfold j8.f at H
 refine zE (n:=18) fn_reduce_headed rfl rfl jL ?_
 refine zg (zd ?_)
 refine zQ rfl jJ fun b2 w1 hw1=>?_
 replace S:St A N w w1 [oB b2 zb (Term.C (⟨a0.kind,a0.name,a0.other,a0.form,s_0⟩ : Term))] [za s_0 a0.sub]:=S.new hw1
 refine wd (zk rfl) ?_
 refine ze ?_
 refine zg (zd ?_)
 refine wd (zh zO rfl (o':=4) rfl) ?_
 refine wd (zt zF rfl ((S.blk 0).cell (Term.get_sub _))) ?_
 refine wd (does_lenF zz rfl (S.onZ 0)) ?_
 refine wd (jo rfl rfl) ?_
 refine wd (zG rfl) ?_
 refine zu (j:=4) (pol:=true) rfl rfl rfl jJ (fun hg=>zh zO rfl (o':=4) rfl) jJ ?_
 refine zu (j:=4) (pol:=true) rfl rfl rfl jJ (fun hg=>zt zF (zw hg) ((S.blk 0).cell (Term.get_sub _))) jJ ?_
 obtain ⟨hi3,H⟩ := chk_g H
 refine zu (j:=4) (pol:=true) rfl rfl rfl jJ (fun hg=>does_indexF zz (zw hg) rfl (S.onZ 0) (zP (hi3 (by simpa using hg))).1 (zP (hi3 (by simpa using hg))).2) jJ ?_
 refine zu (j:=4) (pol:=true) rfl rfl rfl jJ (fun hg=>zh xl (zw hg) (o':=_) rfl) jJ ?_
 refine zu (j:=4) (pol:=true) rfl rfl rfl jJ (fun hg=>zt xd (zw hg) (yl.get_kind (S.onZ 0) (zP (hi3 (by simpa using hg))))) jJ ?_
 refine zu (j:=4) (pol:=true) rfl rfl rfl jJ (fun hg=>zp rfl) jJ ?_
 refine zu (j:=4) (pol:=true) rfl rfl rfl jJ (fun hg=>xb (zw hg) (zw hg)) jJ ?_
 refine wd (xe rfl (fun hp=>(zw (xu hp)))) ?_
 refine wd (zk rfl) ?_
 refine ze ?_
 refine zC ?_
 refine ⟨_,(z1 (zj rfl)),?_⟩
 replace S:St A N w w1 [] []:=S.arr [] []
 obtain rfl:=jN H
 exact ⟨rfl,S⟩
theorem vC {a0:Tb} {a_0:Option Addr} {a1:PTerm} {s_1:SlV} {a2:Int} {a3:Int} (S:St A N w w [] [oT a_0 a0,za s_1 a1.sub]) {r:Bool} (H:j9.f a0 a1 a2 a3=some r) :
  Calls PP F_reduce_beside #[.pointer a_0,.agg (Term.C (⟨a1.kind,a1.name,a1.other,a1.form,s_1⟩ : Term)).toArray,.int .i64 a2,.int .i64 a3] w fun e w' => ∃ v,e = .returned v∧(v = .bool r∧St A N w w' [] []):=by
 unfold j9.f at H
 refine zE (n:=37) fn_reduce_beside rfl rfl jL ?_
 refine zg (zd ?_)
 refine zQ rfl jJ fun b2 w1 hw1=>?_
 replace S:St A N w w1 [oB b2 zb (Term.C (⟨a1.kind,a1.name,a1.other,a1.form,s_1⟩ : Term))] [oT a_0 a0,za s_1 a1.sub]:=S.new hw1
 refine wd (zk rfl) ?_
 refine ze ?_
 refine zg (zg (zd ?_))
 refine wd (zi zq rfl ((S.blk 0).all _ (Term.len _)) (Term.len _)) ?_
 obtain ⟨r3,er3,H⟩ := zB H
 obtain ⟨B5,MB5,SB5,back⟩ := S.calln 0 ((.z 1 rfl .nil))
 refine zJ (zH yc) jJ (ye (a0:=a1) SB5 er3) ?_
 rintro _ w4 ⟨rfl,S2⟩
 replace S:St A N w w4 [oB b2 zb (Term.C (⟨a1.kind,a1.name,a1.other,a1.form,s_1⟩ : Term))] [oT a_0 a0,za s_1 a1.sub]:=back _ _ _ _ S2 rfl
 clear back S2 SB5
 refine wd (xp rfl) ?_
 refine wd (zG rfl) ?_
 refine zu (j:=3) (pol:=false) rfl rfl rfl jJ (fun hg=>zh zO rfl (o':=4) rfl) jJ ?_
 refine zu (j:=3) (pol:=false) rfl rfl rfl jJ (fun hg=>zt zF (zw hg) ((S.blk 0).cell (Term.get_sub _))) jJ ?_
 obtain ⟨hi6,H⟩ := chk_g H
 refine zu (j:=3) (pol:=false) rfl rfl rfl jJ (fun hg=>does_indexF zz (zw hg) rfl (S.onZ 1) (zP (hi6 (by simpa using hg))).1 (zP (hi6 (by simpa using hg))).2) jJ ?_
 obtain ⟨s7,hc8,S⟩ := S.viewTermG (i:=0) 1
 replace S:St A N w w4 [oB b2 zb (Term.C (⟨a1.kind,a1.name,a1.other,a1.form,s_1⟩ : Term))] [za s7 ((at_ PTerm.z a1.sub 0).sub),oT a_0 a0,za s_1 a1.sub]:=S
 refine zu (j:=3) (pol:=false) rfl rfl rfl jJ (fun hg=>zi zq (zw hg) (hc8 (zP (hi6 (by simpa using hg)))) (Term.len _)) jJ ?_
 refine zu (j:=3) (pol:=false) rfl rfl rfl jJ (fun hg=>zp rfl) jJ ?_
 obtain ⟨r9,er9,H⟩ := zB H
 refine xH (j:=3) (pol:=false) rfl rfl rfl jJ (fun hg=>zS yc (zX (zw hg) (zX (zw hg) rfl))) jJ (fun hg=>(have ⟨M,SS⟩ := S.lend ((.z 0 rfl .nil)); quiet (ye (a0:=(at_ PTerm.z a1.sub 0)) SS (if_t (by simpa using hg) er9)) (fun v w' h=>⟨h.1,_,_,h.2⟩))) fun w10 hw10=>?_
 replace S:=S.ext hw10
 refine zu (j:=3) (pol:=false) rfl rfl rfl jJ (fun hg=>xp (zw hg)) jJ ?_
 refine wd (xF rfl (fun hp=>(zw (xu hp)))) ?_
 refine ze ?_
 refine zU rfl (fun hc11=>?_) (fun hc11=>?_)
 ·replace H:=if_t hc11 H
  refine zg (zd ?_)
  refine wd (zk rfl) ?_
  refine ze ?_
  refine zC ?_
  refine ⟨_,(z1 (zj rfl)),?_⟩
  replace S:St A N w w10 [] []:=S.arr [] []
  obtain rfl:=jN H
  exact ⟨rfl,S⟩
 replace H:=if_f hc11 H
 refine zI ?_
 refine zg (zd ?_)
 refine wd (zN rfl) ?_
 refine wd (zh zO rfl (o':=4) rfl) ?_
 refine wd (zt zF rfl ((S.blk 0).cell (Term.get_sub _))) ?_
 obtain ⟨hi12,H⟩ := xh H
 refine wd (does_indexF zz rfl rfl (S.onZ 2) (zP hi12).1 (zP hi12).2) ?_
 refine wd (zh yX rfl (o':=_) rfl) ?_
 refine wd (zt xZ rfl (yl.get_form (S.onZ 2) (zP hi12))) ?_
 obtain ⟨r13,er13,H⟩ := zB H
 obtain ⟨B15,MB15,SB15,back⟩ := S.calln 0 ((.z 1 rfl .nil))
 refine zJ (zH ux) jJ (uy SB15 er13) ?_
 rintro _ w14 ⟨rfl,S2⟩
 replace S:St A N w w14 [oB b2 zb (Term.C (⟨a1.kind,a1.name,a1.other,a1.form,s_1⟩ : Term))] [za s7 ((at_ PTerm.z a1.sub 0).sub),oT a_0 a0,za s_1 a1.sub]:=back _ _ _ _ S2 rfl
 clear back S2 SB15
 refine wd (xn rfl) ?_
 refine wd (zA rfl rfl) ?_
 refine wd (zA rfl rfl) ?_
 refine zZ ze_Nd jJ fun b17 w16 hw16=>?_
 replace S:St A N w w16 [oB b17 T_Nd (Nd.C Nd.z),oB b2 zb (Term.C (⟨a1.kind,a1.name,a1.other,a1.form,s_1⟩ : Term))] [za s7 ((at_ PTerm.z a1.sub 0).sub),oT a_0 a0,za s_1 a1.sub]:=S.new hw16
 refine zy u3 rfl rfl (S.blk 0) (Nd.len _) (by rw [Nd.len]; decide) (Nd.one _) (zM (Nd.len _)) fun w18 B hw18 zw18=>?_
 replace S:St A N w w18 [oB b17 T_Nd (Nd.C r13.1),oB b2 zb (Term.C (⟨a1.kind,a1.name,a1.other,a1.form,s_1⟩ : Term))] [za s7 ((at_ PTerm.z a1.sub 0).sub),oT a_0 a0,za s_1 a1.sub]:=S.store 0 B hw18
 clear B
 refine wd (zk rfl) ?_
 refine ze ?_
 refine zg (zd ?_)
 refine wd (zh fl_Nd_kind rfl (o':=0) rfl) ?_
 refine wd (zt jq rfl ((S.blk 0).cell (Nd.get_kind _))) ?_
 refine wd (zp rfl) ?_
 refine wd (xb rfl rfl) ?_
 refine wd (zk rfl) ?_
 refine ze ?_
 refine zC ?_
 refine ⟨_,(z1 (zj rfl)),?_⟩
 replace S:St A N w w18 [] []:=S.arr [] []
 obtain rfl:=jN H
 exact ⟨rfl,S⟩
theorem uq {a0:Tb} {a_0:Option Addr} {a1:PTerm} {s_1:SlV} {a2:Bool} (S:St A N w w [] [oT a_0 a0,za s_1 a1.sub]) {r:Int} (H:ka.f a0 a1 a2=some r) :
  Calls PP F_reduce_half #[.pointer a_0,.agg (Term.C (⟨a1.kind,a1.name,a1.other,a1.form,s_1⟩ : Term)).toArray,.bool a2] w fun e w' => ∃ v,e = .returned v∧(v = .int .i64 r∧St A N w w' [] []):=by
 unfold ka.f at H
 refine zE (n:=24) fn_reduce_half rfl rfl jL ?_
 refine zg (zd ?_)
 refine zQ rfl jJ fun b2 w1 hw1=>?_
 replace S:St A N w w1 [oB b2 zb (Term.C (⟨a1.kind,a1.name,a1.other,a1.form,s_1⟩ : Term))] [oT a_0 a0,za s_1 a1.sub]:=S.new hw1
 refine wd (zn rfl) ?_
 refine ze ?_
 refine zg (zd ?_)
 refine wd (zN rfl) ?_
 refine wd (zh zO rfl (o':=4) rfl) ?_
 refine wd (zt zF rfl ((S.blk 0).cell (Term.get_sub _))) ?_
 obtain ⟨hi3,H⟩ := xh H
 refine wd (does_indexF zz rfl rfl (S.onZ 1) (zP hi3).1 (zP hi3).2) ?_
 refine wd (zh yX rfl (o':=_) rfl) ?_
 refine wd (zt xZ rfl (yl.get_form (S.onZ 1) (zP hi3))) ?_
 obtain ⟨r4,er4,H⟩ := zB H
 obtain ⟨B6,MB6,SB6,back⟩ := S.calln 0 ((.z 0 rfl .nil))
 refine zJ (zH ux) jJ (uy SB6 er4) ?_
 rintro _ w5 ⟨rfl,S2⟩
 replace S:St A N w w5 [oB b2 zb (Term.C (⟨a1.kind,a1.name,a1.other,a1.form,s_1⟩ : Term))] [oT a_0 a0,za s_1 a1.sub]:=back _ _ _ _ S2 rfl
 clear back S2 SB6
 refine wd (xn rfl) ?_
 refine wd (zA rfl rfl) ?_
 refine wd (zA rfl rfl) ?_
 refine zZ ze_Nd jJ fun b8 w7 hw7=>?_
 replace S:St A N w w7 [oB b8 T_Nd (Nd.C Nd.z),oB b2 zb (Term.C (⟨a1.kind,a1.name,a1.other,a1.form,s_1⟩ : Term))] [oT a_0 a0,za s_1 a1.sub]:=S.new hw7
 refine zy u3 rfl rfl (S.blk 0) (Nd.len _) (by rw [Nd.len]; decide) (Nd.one _) (zM (Nd.len _)) fun w9 B hw9 zw9=>?_
 replace S:St A N w w9 [oB b8 T_Nd (Nd.C r4.1),oB b2 zb (Term.C (⟨a1.kind,a1.name,a1.other,a1.form,s_1⟩ : Term))] [oT a_0 a0,za s_1 a1.sub]:=S.store 0 B hw9
 clear B
 refine wd (zk rfl) ?_
 refine ze ?_
 refine zg (zg (zd ?_))
 refine wd (zG rfl) ?_
 refine ze ?_
 refine zU rfl (fun hc10=>?_) (fun hc10=>?_)
 ·replace H:=if_t hc10 H
  refine zg (zd ?_)
  refine wd (zh fl_Nd_r rfl (o':=3) rfl) ?_
  refine wd (zt xZ rfl ((S.blk 0).cell (Nd.get_r _))) ?_
  refine wd (zn rfl) ?_
  refine ze ?_
  refine zC ?_
  refine ⟨_,(z1 (zj rfl)),?_⟩
  replace S:St A N w w9 [] []:=S.arr [] []
  obtain rfl:=jN H
  exact ⟨rfl,S⟩
 replace H:=if_f hc10 H
 refine zI ?_
 refine zg (zd ?_)
 refine wd (zh fl_Nd_l rfl (o':=2) rfl) ?_
 refine wd (zt xZ rfl ((S.blk 0).cell (Nd.get_l _))) ?_
 refine wd (zn rfl) ?_
 refine ze ?_
 refine zC ?_
 refine ⟨_,(z1 (zj rfl)),?_⟩
 replace S:St A N w w9 [] []:=S.arr [] []
 obtain rfl:=jN H
 exact ⟨rfl,S⟩
theorem reduce_takes_st {a0:PTerm} {s_0:SlV} (S:St A N w w [] [za s_0 a0.sub]) {r:Bool} (H:kb.f a0=some r) :
  Calls PP F_reduce_takes #[.agg (Term.C (⟨a0.kind,a0.name,a0.other,a0.form,s_0⟩ : Term)).toArray] w fun e w' => ∃ v,e = .returned v∧(v = .bool r∧St A N w w' [] []):=by
 unfold kb.f at H
 refine zE (n:=11) fn_reduce_takes rfl rfl jL ?_
 refine zg (zd ?_)
 refine zQ rfl jJ fun b2 w1 hw1=>?_
 replace S:St A N w w1 [oB b2 zb (Term.C (⟨a0.kind,a0.name,a0.other,a0.form,s_0⟩ : Term))] [za s_0 a0.sub]:=S.new hw1
 refine wd (zk rfl) ?_
 refine ze ?_
 refine zg (zd ?_)
 refine wd (zh xl rfl (o':=0) rfl) ?_
 refine wd (zt xd rfl ((S.blk 0).cell (Term.get_kind _))) ?_
 refine wd (xb rfl rfl) ?_
 refine wd (zG rfl) ?_
 refine zu (j:=3) (pol:=false) rfl rfl rfl jJ (fun hg=>zh xl rfl (o':=0) rfl) jJ ?_
 refine zu (j:=3) (pol:=false) rfl rfl rfl jJ (fun hg=>zt xd (zw hg) ((S.blk 0).cell (Term.get_kind _))) jJ ?_
 refine zu (j:=3) (pol:=false) rfl rfl rfl jJ (fun hg=>xb (zw hg) rfl) jJ ?_
 refine wd (xF rfl (fun hp=>(zw (xu hp)))) ?_
 refine wd (zk rfl) ?_
 refine ze ?_
 refine zC ?_
 refine ⟨_,(z1 (zj rfl)),?_⟩
 replace S:St A N w w1 [] []:=S.arr [] []
 obtain rfl:=jN H
 exact ⟨rfl,S⟩
theorem reduce_side_st {a0:PTerm} {s_0:SlV} {a1:PTerm} {s_1:SlV} (S:St A N w w [] [za s_0 a0.sub,za s_1 a1.sub]) {r:PTerm} (H:ke.f a0 a1=some r) :
  Calls PP F_reduce_side #[.agg (Term.C (⟨a0.kind,a0.name,a0.other,a0.form,s_0⟩ : Term)).toArray,.agg (Term.C (⟨a1.kind,a1.name,a1.other,a1.form,s_1⟩ : Term)).toArray] w fun e w' => ∃ v,e = .returned v∧(∃ so0:SlV,v = .agg (Term.C (⟨r.kind,r.name,r.other,r.form,so0⟩ : Term)).toArray∧St A N w w' [] [za so0 r.sub]):=by
 unfold ke.f at H
 refine zE (n:=16) fn_reduce_side rfl rfl jL ?_
 refine zg (zd ?_)
 refine zQ rfl jJ fun b2 w1 hw1=>?_
 replace S:St A N w w1 [oB b2 zb (Term.C (⟨a0.kind,a0.name,a0.other,a0.form,s_0⟩ : Term))] [za s_0 a0.sub,za s_1 a1.sub]:=S.new hw1
 refine zQ rfl jJ fun b4 w3 hw3=>?_
 replace S:St A N w w3 [oB b4 zb (Term.C (⟨a1.kind,a1.name,a1.other,a1.form,s_1⟩ : Term)),oB b2 zb (Term.C (⟨a0.kind,a0.name,a0.other,a0.form,s_0⟩ : Term))] [za s_0 a0.sub,za s_1 a1.sub]:=S.new hw3
 refine zZ xr jJ fun b6 w5 hw5=>?_
 replace S:St A N w w5 [oB b6 zb (Term.C (⟨0,ByteArray.empty,ByteArray.empty,0,SlV.nil⟩ : Term)),oB b4 zb (Term.C (⟨a1.kind,a1.name,a1.other,a1.form,s_1⟩ : Term)),oB b2 zb (Term.C (⟨a0.kind,a0.name,a0.other,a0.form,s_0⟩ : Term))] [za s_0 a0.sub,za s_1 a1.sub]:=S.new hw5
 refine ze ?_
 refine zg (zg (zd ?_))
 refine wd (zh xl rfl (o':=0) rfl) ?_
 refine wd (zt xd rfl ((S.blk 2).cell (Term.get_kind _))) ?_
 refine wd (xb rfl rfl) ?_
 refine ze ?_
 refine zU rfl (fun hc7=>?_) (fun hc7=>?_)
 ·replace H:=if_t hc7 H
  refine zg (zd ?_)
  refine wd (zh zO rfl (o':=4) rfl) ?_
  refine wd (zt zF rfl ((S.blk 1).cell (Term.get_sub _))) ?_
  obtain ⟨hi8,H⟩ := xh H
  refine wd (does_indexF zz rfl rfl (S.onZ 1) (zP hi8).1 (zP hi8).2) ?_
  obtain ⟨s9,hc10,S⟩ := S.viewTerm 1 (zP hi8)
  replace S:St A N w w5 [oB b6 zb (Term.C (⟨0,ByteArray.empty,ByteArray.empty,0,SlV.nil⟩ : Term)),oB b4 zb (Term.C (⟨a1.kind,a1.name,a1.other,a1.form,s_1⟩ : Term)),oB b2 zb (Term.C (⟨a0.kind,a0.name,a0.other,a0.form,s_0⟩ : Term))] [za s9 ((at_ PTerm.z a1.sub 1).sub),za s_0 a0.sub,za s_1 a1.sub]:=S
  refine wd (zi zq rfl hc10 (Term.len _)) ?_
  refine zy zq rfl rfl (S.blk 0) (Term.len _) (by rw [Term.len]; decide) (Term.one _) (zM (Term.len _)) fun w11 B hw11 zw11=>?_
  replace S:St A N w w11 [oB b6 zb (Term.C (⟨(at_ PTerm.z a1.sub 1).kind,(at_ PTerm.z a1.sub 1).name,(at_ PTerm.z a1.sub 1).other,(at_ PTerm.z a1.sub 1).form,s9⟩ : Term)),oB b4 zb (Term.C (⟨a1.kind,a1.name,a1.other,a1.form,s_1⟩ : Term)),oB b2 zb (Term.C (⟨a0.kind,a0.name,a0.other,a0.form,s_0⟩ : Term))] [za s9 ((at_ PTerm.z a1.sub 1).sub),za s_0 a0.sub,za s_1 a1.sub]:=S.store 0 B hw11
  clear B
  refine ze ?_
  refine zC ?_
  refine ⟨_,(z1 (zV zq rfl ((S.blk 0).all _ (Term.len _)) (Term.len _))),?_⟩
  replace S:St A N w w11 [] [za s9 ((at_ PTerm.z a1.sub 1).sub)]:=S.arr [] [0]
  obtain rfl:=jN H
  exact ⟨s9,rfl,S⟩
 replace H:=if_f hc7 H
 refine zI ?_
 refine zg (zd ?_)
 refine wd (zh zO rfl (o':=4) rfl) ?_
 refine wd (zt zF rfl ((S.blk 1).cell (Term.get_sub _))) ?_
 obtain ⟨hi12,H⟩ := xh H
 refine wd (does_indexF zz rfl rfl (S.onZ 1) (zP hi12).1 (zP hi12).2) ?_
 obtain ⟨s13,hc14,S⟩ := S.viewTerm 1 (zP hi12)
 replace S:St A N w w5 [oB b6 zb (Term.C (⟨0,ByteArray.empty,ByteArray.empty,0,SlV.nil⟩ : Term)),oB b4 zb (Term.C (⟨a1.kind,a1.name,a1.other,a1.form,s_1⟩ : Term)),oB b2 zb (Term.C (⟨a0.kind,a0.name,a0.other,a0.form,s_0⟩ : Term))] [za s13 ((at_ PTerm.z a1.sub 0).sub),za s_0 a0.sub,za s_1 a1.sub]:=S
 refine wd (zi zq rfl hc14 (Term.len _)) ?_
 refine zy zq rfl rfl (S.blk 0) (Term.len _) (by rw [Term.len]; decide) (Term.one _) (zM (Term.len _)) fun w15 B hw15 zw15=>?_
 replace S:St A N w w15 [oB b6 zb (Term.C (⟨(at_ PTerm.z a1.sub 0).kind,(at_ PTerm.z a1.sub 0).name,(at_ PTerm.z a1.sub 0).other,(at_ PTerm.z a1.sub 0).form,s13⟩ : Term)),oB b4 zb (Term.C (⟨a1.kind,a1.name,a1.other,a1.form,s_1⟩ : Term)),oB b2 zb (Term.C (⟨a0.kind,a0.name,a0.other,a0.form,s_0⟩ : Term))] [za s13 ((at_ PTerm.z a1.sub 0).sub),za s_0 a0.sub,za s_1 a1.sub]:=S.store 0 B hw15
 clear B
 refine ze ?_
 refine zC ?_
 refine ⟨_,(z1 (zV zq rfl ((S.blk 0).all _ (Term.len _)) (Term.len _))),?_⟩
 replace S:St A N w w15 [] [za s13 ((at_ PTerm.z a1.sub 0).sub)]:=S.arr [] [0]
 obtain rfl:=jN H
 exact ⟨s13,rfl,S⟩
theorem jl {a0:PTerm} {s_0:SlV} (S:St A N w w [] [za s_0 a0.sub]) {r:Bool × Bool} (H:kf.f a0=some r) :
  Calls PP jm #[.agg (Term.C (⟨a0.kind,a0.name,a0.other,a0.form,s_0⟩ : Term)).toArray] w fun e w' => ∃ v,e = .returned v∧(v = .tuple #[.bool r.1,.bool r.2]∧St A N w w' [] []):=by
 unfold kf.f at H
 refine zE (n:=17) fn_reduce_injected rfl rfl jL ?_
 refine zg (zd ?_)
 refine zQ rfl jJ fun b2 w1 hw1=>?_
 replace S:St A N w w1 [oB b2 zb (Term.C (⟨a0.kind,a0.name,a0.other,a0.form,s_0⟩ : Term))] [za s_0 a0.sub]:=S.new hw1
 refine wd (zk rfl) ?_
 refine wd (zk rfl) ?_
 refine ze ?_
 refine zg ?_
 refine xV 14 (Ext w1) hmix jM jM (Ext.drawn _) ?_
 refine zL (fun v K=>zi zq rfl (((S.ext K).blk 0).all _ (Term.len _)) (Term.len _)) ?_
 obtain ⟨r3,er3,H⟩ := zB H
 refine wq_call (fun v=>zH yc) (fun v K=>(have ⟨M,SS⟩ := (S.ext K).lend ((.z 0 rfl .nil)); quiet (ye (a0:=a0) SS er3) (fun v w' h=>⟨h.1,_,_,h.2⟩))) (fun v v' K h=>K.thenExt h) ?_
 refine zL (fun v K=>zh xl rfl (o':=0) rfl) ?_
 refine zL (fun v K=>zt xd rfl (((S.ext K).blk 0).cell (Term.get_kind _))) ?_
 refine zL (fun v K=>xb rfl rfl) ?_
 refine zL (fun v K=>zG rfl) ?_
 refine jH (j:=5) (pol:=true) rfl rfl rfl (fun hg v K=>zi zq rfl (((S.ext K).blk 0).all _ (Term.len _)) (Term.len _)) ?_
 obtain ⟨r4,er4,H⟩ := zB H
 refine wq_gcall (j:=5) (pol:=true) rfl rfl rfl (fun hg v=>zS yc (zX (zw hg) (zX rfl rfl))) (fun hg v K=>(have ⟨M,SS⟩ := (S.ext K).lend ((.z 0 rfl .nil)); quiet (ye (a0:=a0) SS (if_t (by simpa using hg) er4)) (fun v w' h=>⟨h.1,_,_,h.2⟩))) (fun v v' K h=>K.thenExt h) ?_
 refine jH (j:=5) (pol:=true) rfl rfl rfl (fun hg v K=>zG (zw hg)) ?_
 refine wq_guard2 (j:=8) (pol:=false) rfl rfl rfl (fun hg v K=>zi zq rfl (((S.ext K).blk 0).all _ (Term.len _)) (Term.len _)) ?_
 obtain ⟨r5,er5,H⟩ := zB H
 refine wq_gcall2 (j:=8) (pol:=false) rfl rfl rfl (fun hg v=>zS yc (zX (zw hg) (zX rfl rfl))) (fun hg v K=>(have ⟨M,SS⟩ := (S.ext K).lend ((.z 0 rfl .nil)); quiet (ye (a0:=a0) SS (if_t (by simpa using hg) er5)) (fun v w' h=>⟨h.1,_,_,h.2⟩))) (fun v v' K h=>K.thenExt h) ?_
 refine jH (j:=5) (pol:=true) rfl rfl rfl (fun hg v K=>xF (zw hg) (fun hp=>(zw (and_b hg hp)))) ?_
 refine zL (fun v K=>xe rfl (fun hp=>(zw (xu hp)))) ?_
 refine zL (fun v K=>zk rfl) ?_
 refine va fun w6 K=>?_
 replace S:=S.ext K
 clear K
 refine wd (zk rfl) ?_
 refine ze ?_
 refine zC ?_
 refine ⟨_,(xB (zj rfl) (zj rfl)),?_⟩
 replace S:St A N w w6 [] []:=S.arr [] []
 obtain rfl:=jN H
 exact ⟨rfl,S⟩
theorem reduce_told_st {a0:Tb} {a_0:Option Addr} {a1:PTerm} {s_1:SlV} (S:St A N w w [] [oT a_0 a0,za s_1 a1.sub]) {r:Bool × Bool} (H:kg.f a0 a1=some r) :
  Calls PP F_reduce_told #[.pointer a_0,.agg (Term.C (⟨a1.kind,a1.name,a1.other,a1.form,s_1⟩ : Term)).toArray] w fun e w' => ∃ v,e = .returned v∧(v = .tuple #[.bool r.1,.bool r.2]∧St A N w w' [] []):=by
 unfold kg.f at H
 refine zE (n:=22) fn_reduce_told rfl rfl jL ?_
 refine zg (zd ?_)
 refine zQ rfl jJ fun b2 w1 hw1=>?_
 replace S:St A N w w1 [oB b2 zb (Term.C (⟨a1.kind,a1.name,a1.other,a1.form,s_1⟩ : Term))] [oT a_0 a0,za s_1 a1.sub]:=S.new hw1
 refine wd (zk rfl) ?_
 refine wd (zk rfl) ?_
 refine ze ?_
 refine zg (zd ?_)
 refine wd (zN rfl) ?_
 refine wd (zi zq rfl ((S.blk 0).all _ (Term.len _)) (Term.len _)) ?_
 obtain ⟨r3,er3,H⟩ := zB H
 obtain ⟨B5,MB5,SB5,back⟩ := S.calln 0 ((.z 0 rfl (.z 1 rfl .nil)))
 refine zJ (zH vA) jJ (vC (a1:=a1) SB5 er3) ?_
 rintro _ w4 ⟨rfl,S2⟩
 replace S:St A N w w4 [oB b2 zb (Term.C (⟨a1.kind,a1.name,a1.other,a1.form,s_1⟩ : Term))] [oT a_0 a0,za s_1 a1.sub]:=back _ _ _ _ S2 rfl
 clear back S2 SB5
 refine wd (zk rfl) ?_
 refine ze ?_
 refine zg (zd ?_)
 refine wd (zG rfl) ?_
 refine wd (zh xl rfl (o':=0) rfl) ?_
 refine wd (zt xd rfl ((S.blk 0).cell (Term.get_kind _))) ?_
 refine wd (xb rfl rfl) ?_
 refine wd (zG rfl) ?_
 refine zu (j:=4) (pol:=true) rfl rfl rfl jJ (fun hg=>zG rfl) jJ ?_
 refine zu (j:=4) (pol:=true) rfl rfl rfl jJ (fun hg=>zG (zw hg)) jJ ?_
 refine xA (j:=6) (pol:=false) rfl rfl rfl jJ (fun hg=>zN rfl) jJ ?_
 refine xA (j:=6) (pol:=false) rfl rfl rfl jJ (fun hg=>zi zq rfl ((S.blk 0).all _ (Term.len _)) (Term.len _)) jJ ?_
 obtain ⟨r6,er6,H⟩ := zB H
 refine wl_gcall2 (j:=6) (pol:=false) rfl rfl rfl jJ (fun hg=>zS vA (zX (zw hg) (zX (zw hg) (zX rfl (zX rfl rfl))))) jJ (fun hg=>(have ⟨M,SS⟩ := S.lend ((.z 0 rfl (.z 1 rfl .nil))); quiet (vC (a1:=a1) SS (if_t (by simpa using hg) er6)) (fun v w' h=>⟨h.1,_,_,h.2⟩))) fun w7 hw7=>?_
 replace S:=S.ext hw7
 refine zu (j:=4) (pol:=true) rfl rfl rfl jJ (fun hg=>xF (zw hg) (fun hp=>(zw (and_b hg hp)))) jJ ?_
 refine wd (xe rfl (fun hp=>(zw (xu hp)))) ?_
 refine wd (zk rfl) ?_
 refine wd (zk rfl) ?_
 refine ze ?_
 refine zC ?_
 refine ⟨_,(xB (zj rfl) (zj rfl)),?_⟩
 replace S:St A N w w7 [] []:=S.arr [] []
 obtain rfl:=jN H
 exact ⟨rfl,S⟩
theorem reduce_rules_1_st {a0:Tb} {a_0:Option Addr} {a1:PTerm} {s_1:SlV} (S:St A N w w [] [oT a_0 a0,za s_1 a1.sub]) {r:Bool} (H:kh.f a0 a1=some r) :
  Calls PP y4 #[.pointer a_0,.agg (Term.C (⟨a1.kind,a1.name,a1.other,a1.form,s_1⟩ : Term)).toArray] w fun e w' => ∃ v,e = .returned v∧(v = .bool r∧St A N w w' [] []):=by
 unfold kh.f at H
 refine zE (n:=12) fn_reduce_rules_1 rfl rfl jL ?_
 refine zg (zd ?_)
 refine zQ rfl jJ fun b2 w1 hw1=>?_
 replace S:St A N w w1 [oB b2 zb (Term.C (⟨a1.kind,a1.name,a1.other,a1.form,s_1⟩ : Term))] [oT a_0 a0,za s_1 a1.sub]:=S.new hw1
 refine wd (zk rfl) ?_
 refine ze ?_
 refine zg (zd ?_)
 refine wd (zh xl rfl (o':=0) rfl) ?_
 refine wd (zt xd rfl ((S.blk 0).cell (Term.get_kind _))) ?_
 refine wd (xb rfl rfl) ?_
 refine wd (zG rfl) ?_
 refine zu (j:=3) (pol:=true) rfl rfl rfl jJ (fun hg=>zi zq rfl ((S.blk 0).all _ (Term.len _)) (Term.len _)) jJ ?_
 obtain ⟨r3,er3,H⟩ := zB H
 refine xH (j:=3) (pol:=true) rfl rfl rfl jJ (fun hg=>zS yc (zX (zw hg) (zX rfl rfl))) jJ (fun hg=>(have ⟨M,SS⟩ := S.lend ((.z 1 rfl .nil)); quiet (ye (a0:=a1) SS (if_t (by simpa using hg) er3)) (fun v w' h=>⟨h.1,_,_,h.2⟩))) fun w4 hw4=>?_
 replace S:=S.ext hw4
 refine wd (xe rfl (fun hp=>(zw (xu hp)))) ?_
 refine wd (zk rfl) ?_
 refine ze ?_
 refine zC ?_
 refine ⟨_,(z1 (zj rfl)),?_⟩
 replace S:St A N w w4 [] []:=S.arr [] []
 obtain rfl:=jN H
 exact ⟨rfl,S⟩
theorem reduce_rules_3_st {a0:Tb} {a_0:Option Addr} {a1:PTerm} {s_1:SlV} (S:St A N w w [] [oT a_0 a0,za s_1 a1.sub]) {r:Bool} (H:ki.f a0 a1=some r) :
  Calls PP y5 #[.pointer a_0,.agg (Term.C (⟨a1.kind,a1.name,a1.other,a1.form,s_1⟩ : Term)).toArray] w fun e w' => ∃ v,e = .returned v∧(v = .bool r∧St A N w w' [] []):=by
 unfold ki.f at H
 refine zE (n:=13) fn_reduce_rules_3 rfl rfl jL ?_
 refine zg (zd ?_)
 refine zQ rfl jJ fun b2 w1 hw1=>?_
 replace S:St A N w w1 [oB b2 zb (Term.C (⟨a1.kind,a1.name,a1.other,a1.form,s_1⟩ : Term))] [oT a_0 a0,za s_1 a1.sub]:=S.new hw1
 refine wd (zk rfl) ?_
 refine ze ?_
 refine zg (zd ?_)
 refine wd (zh xl rfl (o':=0) rfl) ?_
 refine wd (zt xd rfl ((S.blk 0).cell (Term.get_kind _))) ?_
 refine wd (xb rfl rfl) ?_
 refine wd (zG rfl) ?_
 refine zu (j:=3) (pol:=true) rfl rfl rfl jJ (fun hg=>zN rfl) jJ ?_
 refine zu (j:=3) (pol:=true) rfl rfl rfl jJ (fun hg=>zi zq rfl ((S.blk 0).all _ (Term.len _)) (Term.len _)) jJ ?_
 obtain ⟨r3,er3,H⟩ := zB H
 refine xH (j:=3) (pol:=true) rfl rfl rfl jJ (fun hg=>zS vA (zX (zw hg) (zX (zw hg) (zX rfl (zX rfl rfl))))) jJ (fun hg=>(have ⟨M,SS⟩ := S.lend ((.z 0 rfl (.z 1 rfl .nil))); quiet (vC (a1:=a1) SS (if_t (by simpa using hg) er3)) (fun v w' h=>⟨h.1,_,_,h.2⟩))) fun w4 hw4=>?_
 replace S:=S.ext hw4
 refine wd (xe rfl (fun hp=>(zw (xu hp)))) ?_
 refine wd (zk rfl) ?_
 refine ze ?_
 refine zC ?_
 refine ⟨_,(z1 (zj rfl)),?_⟩
 replace S:St A N w w4 [] []:=S.arr [] []
 obtain rfl:=jN H
 exact ⟨rfl,S⟩
theorem reduce_rules_5_st {a0:Tb} {a_0:Option Addr} {a1:PTerm} {s_1:SlV} (S:St A N w w [] [oT a_0 a0,za s_1 a1.sub]) {r:Bool} (H:kj.f a0 a1=some r) :
  Calls PP y6 #[.pointer a_0,.agg (Term.C (⟨a1.kind,a1.name,a1.other,a1.form,s_1⟩ : Term)).toArray] w fun e w' => ∃ v,e = .returned v∧(v = .bool r∧St A N w w' [] []):=by
 unfold kj.f at H
 refine zE (n:=11) fn_reduce_rules_5 rfl rfl jL ?_
 refine zg (zd ?_)
 refine zQ rfl jJ fun b2 w1 hw1=>?_
 replace S:St A N w w1 [oB b2 zb (Term.C (⟨a1.kind,a1.name,a1.other,a1.form,s_1⟩ : Term))] [oT a_0 a0,za s_1 a1.sub]:=S.new hw1
 refine wd (zk rfl) ?_
 refine ze ?_
 refine zg (zd ?_)
 refine wd (zi zq rfl ((S.blk 0).all _ (Term.len _)) (Term.len _)) ?_
 obtain ⟨r3,er3,H⟩ := zB H
 obtain ⟨B5,MB5,SB5,back⟩ := S.calln 0 ((.z 1 rfl .nil))
 refine zJ (zH ca_reduce_takes) jJ (reduce_takes_st (a0:=a1) SB5 er3) ?_
 rintro _ w4 ⟨rfl,S2⟩
 replace S:St A N w w4 [oB b2 zb (Term.C (⟨a1.kind,a1.name,a1.other,a1.form,s_1⟩ : Term))] [oT a_0 a0,za s_1 a1.sub]:=back _ _ _ _ S2 rfl
 clear back S2 SB5
 refine wd (zG rfl) ?_
 refine zu (j:=2) (pol:=true) rfl rfl rfl jJ (fun hg=>zi zq rfl ((S.blk 0).all _ (Term.len _)) (Term.len _)) jJ ?_
 obtain ⟨r6,er6,H⟩ := zB H
 refine xH (j:=2) (pol:=true) rfl rfl rfl jJ (fun hg=>zS yc (zX (zw hg) (zX rfl rfl))) jJ (fun hg=>(have ⟨M,SS⟩ := S.lend ((.z 1 rfl .nil)); quiet (ye (a0:=a1) SS (if_t (by simpa using hg) er6)) (fun v w' h=>⟨h.1,_,_,h.2⟩))) fun w7 hw7=>?_
 replace S:=S.ext hw7
 refine wd (xe rfl (fun hp=>(zw (xu hp)))) ?_
 refine wd (zk rfl) ?_
 refine ze ?_
 refine zC ?_
 refine ⟨_,(z1 (zj rfl)),?_⟩
 replace S:St A N w w7 [] []:=S.arr [] []
 obtain rfl:=jN H
 exact ⟨rfl,S⟩
theorem reduce_rules_6_st {a0:Tb} {a_0:Option Addr} {a1:PTerm} {s_1:SlV} (S:St A N w w [] [oT a_0 a0,za s_1 a1.sub]) {r:PTerm × Int} (H:kk.f a0 a1=some r) :
  Calls PP yH #[.pointer a_0,.agg (Term.C (⟨a1.kind,a1.name,a1.other,a1.form,s_1⟩ : Term)).toArray] w fun e w' => ∃ v,e = .returned v∧(∃ so0:SlV,v = .tuple #[.agg (Term.C (⟨r.1.kind,r.1.name,r.1.other,r.1.form,so0⟩ : Term)).toArray,.int .i64 r.2]∧St A N w w' [] [za so0 r.1.sub]):=by
 unfold kk.f at H
 refine zE (n:=12) fn_reduce_rules_6 rfl rfl jL ?_
 refine zg (zd ?_)
 refine zQ rfl jJ fun b2 w1 hw1=>?_
 replace S:St A N w w1 [oB b2 zb (Term.C (⟨a1.kind,a1.name,a1.other,a1.form,s_1⟩ : Term))] [oT a_0 a0,za s_1 a1.sub]:=S.new hw1
 refine zZ xr jJ fun b4 w3 hw3=>?_
 replace S:St A N w w3 [oB b4 zb (Term.C (⟨0,ByteArray.empty,ByteArray.empty,0,SlV.nil⟩ : Term)),oB b2 zb (Term.C (⟨a1.kind,a1.name,a1.other,a1.form,s_1⟩ : Term))] [oT a_0 a0,za s_1 a1.sub]:=S.new hw3
 refine wd (zn rfl) ?_
 refine ze ?_
 refine zg ?_
 refine xV 5 (Ext w3) hmix jM jM (Ext.drawn _) ?_
 refine zL (fun v K=>zi zq rfl (((S.ext K).blk 1).all _ (Term.len _)) (Term.len _)) ?_
 refine zL (fun v K=>zh zO rfl (o':=4) rfl) ?_
 refine zL (fun v K=>zt zF rfl (((S.ext K).blk 1).cell (Term.get_sub _))) ?_
 obtain ⟨hi5,H⟩ := xh H
 refine zL (fun v K=>does_indexF zz rfl rfl ((S.ext K).onZ 1) (zP hi5).1 (zP hi5).2) ?_
 obtain ⟨s6,hc7,S⟩ := S.viewTerm 1 (zP hi5)
 replace S:St A N w w3 [oB b4 zb (Term.C (⟨0,ByteArray.empty,ByteArray.empty,0,SlV.nil⟩ : Term)),oB b2 zb (Term.C (⟨a1.kind,a1.name,a1.other,a1.form,s_1⟩ : Term))] [za s6 ((at_ PTerm.z a1.sub 0).sub),oT a_0 a0,za s_1 a1.sub]:=S
 refine zL (fun v K=>zi zq rfl (hc7.chg K (fun x=>x)) (Term.len _)) ?_
 refine va fun w8 K=>?_
 replace S:=S.ext K
 clear K
 obtain ⟨r9,er9,H⟩ := zB H
 obtain ⟨B11,MB11,SB11,back⟩ := S.sub [2,0] [] [oB b4 zb (Term.C (⟨0,ByteArray.empty,ByteArray.empty,0,SlV.nil⟩ : Term)),oB b2 zb (Term.C (⟨a1.kind,a1.name,a1.other,a1.form,s_1⟩ : Term))]
 refine zJ (zH ca_reduce_side) jJ (reduce_side_st (a0:=a1) (a1:=(at_ PTerm.z a1.sub 0)) SB11 er9) ?_
 rintro _ w10 ⟨s12,rfl,S2⟩
 replace S:St A N w w10 [oB b4 zb (Term.C (⟨0,ByteArray.empty,ByteArray.empty,0,SlV.nil⟩ : Term)),oB b2 zb (Term.C (⟨a1.kind,a1.name,a1.other,a1.form,s_1⟩ : Term))] [za s12 r9.sub,za s6 ((at_ PTerm.z a1.sub 0).sub),oT a_0 a0,za s_1 a1.sub]:=back _ _ _ _ _ S2 rfl rfl
 clear back S2 SB11
 refine zy zq rfl rfl (S.blk 0) (Term.len _) (by rw [Term.len]; decide) (Term.one _) (zM (Term.len _)) fun w13 B hw13 zw13=>?_
 replace S:St A N w w13 [oB b4 zb (Term.C (⟨r9.kind,r9.name,r9.other,r9.form,s12⟩ : Term)),oB b2 zb (Term.C (⟨a1.kind,a1.name,a1.other,a1.form,s_1⟩ : Term))] [za s12 r9.sub,za s6 ((at_ PTerm.z a1.sub 0).sub),oT a_0 a0,za s_1 a1.sub]:=S.store 0 B hw13
 clear B
 refine wd (zn rfl) ?_
 refine ze ?_
 refine zC ?_
 refine ⟨_,(xB (zV zq rfl ((S.blk 0).all _ (Term.len _)) (Term.len _)) (zj rfl)),?_⟩
 replace S:St A N w w13 [] [za s12 r9.sub]:=S.arr [] [0]
 obtain rfl:=jN H
 exact ⟨s12,rfl,S⟩
theorem reduce_rules_7_st {a0:Tb} {a_0:Option Addr} {a1:PTerm} {s_1:SlV} (S:St A N w w [] [oT a_0 a0,za s_1 a1.sub]) {r:Bool} (H:km.f a0 a1=some r) :
  Calls PP y7 #[.pointer a_0,.agg (Term.C (⟨a1.kind,a1.name,a1.other,a1.form,s_1⟩ : Term)).toArray] w fun e w' => ∃ v,e = .returned v∧(v = .bool r∧St A N w w' [] []):=by
 unfold km.f at H
 refine zE (n:=12) fn_reduce_rules_7 rfl rfl jL ?_
 refine zg (zd ?_)
 refine zQ rfl jJ fun b2 w1 hw1=>?_
 replace S:St A N w w1 [oB b2 zb (Term.C (⟨a1.kind,a1.name,a1.other,a1.form,s_1⟩ : Term))] [oT a_0 a0,za s_1 a1.sub]:=S.new hw1
 refine wd (zk rfl) ?_
 refine ze ?_
 refine zg (zd ?_)
 refine wd (zi zq rfl ((S.blk 0).all _ (Term.len _)) (Term.len _)) ?_
 obtain ⟨r3,er3,H⟩ := zB H
 obtain ⟨B5,MB5,SB5,back⟩ := S.calln 0 ((.z 1 rfl .nil))
 refine zJ (zH ca_reduce_takes) jJ (reduce_takes_st (a0:=a1) SB5 er3) ?_
 rintro _ w4 ⟨rfl,S2⟩
 replace S:St A N w w4 [oB b2 zb (Term.C (⟨a1.kind,a1.name,a1.other,a1.form,s_1⟩ : Term))] [oT a_0 a0,za s_1 a1.sub]:=back _ _ _ _ S2 rfl
 clear back S2 SB5
 refine wd (zG rfl) ?_
 refine zu (j:=2) (pol:=true) rfl rfl rfl jJ (fun hg=>zN rfl) jJ ?_
 refine zu (j:=2) (pol:=true) rfl rfl rfl jJ (fun hg=>zi zq rfl ((S.blk 0).all _ (Term.len _)) (Term.len _)) jJ ?_
 obtain ⟨r6,er6,H⟩ := zB H
 refine xH (j:=2) (pol:=true) rfl rfl rfl jJ (fun hg=>zS vA (zX (zw hg) (zX (zw hg) (zX rfl (zX rfl rfl))))) jJ (fun hg=>(have ⟨M,SS⟩ := S.lend ((.z 0 rfl (.z 1 rfl .nil))); quiet (vC (a1:=a1) SS (if_t (by simpa using hg) er6)) (fun v w' h=>⟨h.1,_,_,h.2⟩))) fun w7 hw7=>?_
 replace S:=S.ext hw7
 refine wd (xe rfl (fun hp=>(zw (xu hp)))) ?_
 refine wd (zk rfl) ?_
 refine ze ?_
 refine zC ?_
 refine ⟨_,(z1 (zj rfl)),?_⟩
 replace S:St A N w w7 [] []:=S.arr [] []
 obtain rfl:=jN H
 exact ⟨rfl,S⟩
theorem reduce_rules_8_st {a0:Tb} {a_0:Option Addr} {a1:PTerm} {s_1:SlV} (S:St A N w w [] [oT a_0 a0,za s_1 a1.sub]) {r:PTerm × Int} (H:kn.f a0 a1=some r) :
  Calls PP yI #[.pointer a_0,.agg (Term.C (⟨a1.kind,a1.name,a1.other,a1.form,s_1⟩ : Term)).toArray] w fun e w' => ∃ v,e = .returned v∧(∃ so0:SlV,v = .tuple #[.agg (Term.C (⟨r.1.kind,r.1.name,r.1.other,r.1.form,so0⟩ : Term)).toArray,.int .i64 r.2]∧St A N w w' [] [za so0 r.1.sub]):=by
 unfold kn.f at H
 refine zE (n:=22) fn_reduce_rules_8 rfl rfl jL ?_
 refine zg (zd ?_)
 refine zQ rfl jJ fun b2 w1 hw1=>?_
 replace S:St A N w w1 [oB b2 zb (Term.C (⟨a1.kind,a1.name,a1.other,a1.form,s_1⟩ : Term))] [oT a_0 a0,za s_1 a1.sub]:=S.new hw1
 refine zZ xr jJ fun b4 w3 hw3=>?_
 replace S:St A N w w3 [oB b4 zb (Term.C (⟨0,ByteArray.empty,ByteArray.empty,0,SlV.nil⟩ : Term)),oB b2 zb (Term.C (⟨a1.kind,a1.name,a1.other,a1.form,s_1⟩ : Term))] [oT a_0 a0,za s_1 a1.sub]:=S.new hw3
 refine wd (zn rfl) ?_
 refine ze ?_
 refine zg ?_
 obtain ⟨hi12,H⟩ := xh H
 obtain ⟨hi14,H⟩ := xh H
 obtain ⟨r16,er16,H⟩ := zB H
 obtain ⟨s13,S⟩ := S.viewTermC 1 (zP hi12)
 replace S:St A N w w3 [oB b4 zb (Term.C (⟨0,ByteArray.empty,ByteArray.empty,0,SlV.nil⟩ : Term)),oB b2 zb (Term.C (⟨a1.kind,a1.name,a1.other,a1.form,s_1⟩ : Term))] [oCl s_1.blk (s_1.off + Int.toNat 0 * 5) (Term.C (⟨(at_ PTerm.z a1.sub 0).kind,(at_ PTerm.z a1.sub 0).name,(at_ PTerm.z a1.sub 0).other,(at_ PTerm.z a1.sub 0).form,s13⟩ : Term)),za s13 ((at_ PTerm.z a1.sub 0).sub),oT a_0 a0,za s_1 a1.sub]:=S
 obtain ⟨s15,S⟩ := S.viewTermC 1 (zP hi14)
 replace S:St A N w w3 [oB b4 zb (Term.C (⟨0,ByteArray.empty,ByteArray.empty,0,SlV.nil⟩ : Term)),oB b2 zb (Term.C (⟨a1.kind,a1.name,a1.other,a1.form,s_1⟩ : Term))] [oCl s13.blk (s13.off + Int.toNat 0 * 5) (Term.C (⟨(at_ PTerm.z ((at_ PTerm.z a1.sub 0).sub) 0).kind,(at_ PTerm.z ((at_ PTerm.z a1.sub 0).sub) 0).name,(at_ PTerm.z ((at_ PTerm.z a1.sub 0).sub) 0).other,(at_ PTerm.z ((at_ PTerm.z a1.sub 0).sub) 0).form,s15⟩ : Term)),za s15 ((at_ PTerm.z ((at_ PTerm.z a1.sub 0).sub) 0).sub),oCl s_1.blk (s_1.off + Int.toNat 0 * 5) (Term.C (⟨(at_ PTerm.z a1.sub 0).kind,(at_ PTerm.z a1.sub 0).name,(at_ PTerm.z a1.sub 0).other,(at_ PTerm.z a1.sub 0).form,s13⟩ : Term)),za s13 ((at_ PTerm.z a1.sub 0).sub),oT a_0 a0,za s_1 a1.sub]:=S
 replace S:St A N w w3 [oB b4 zb (Term.C (⟨0,ByteArray.empty,ByteArray.empty,0,SlV.nil⟩ : Term)),oB b2 zb (Term.C (⟨a1.kind,a1.name,a1.other,a1.form,s_1⟩ : Term))] [oT a_0 a0,za s_1 a1.sub,oCl s_1.blk (s_1.off + Int.toNat 0 * 5) (Term.C (⟨(at_ PTerm.z a1.sub 0).kind,(at_ PTerm.z a1.sub 0).name,(at_ PTerm.z a1.sub 0).other,(at_ PTerm.z a1.sub 0).form,s13⟩ : Term)),za s13 ((at_ PTerm.z a1.sub 0).sub),oCl s13.blk (s13.off + Int.toNat 0 * 5) (Term.C (⟨(at_ PTerm.z ((at_ PTerm.z a1.sub 0).sub) 0).kind,(at_ PTerm.z ((at_ PTerm.z a1.sub 0).sub) 0).name,(at_ PTerm.z ((at_ PTerm.z a1.sub 0).sub) 0).other,(at_ PTerm.z ((at_ PTerm.z a1.sub 0).sub) 0).form,s15⟩ : Term)),za s15 ((at_ PTerm.z ((at_ PTerm.z a1.sub 0).sub) 0).sub)]:=S.zs [4,5,2,3,0,1]
 refine yM 14 ⟨fun _ _=>True,fun _ _ _=>True,fun i v _=>match i with
  | 0=>v=Value.agg (Term.C (⟨a1.kind,a1.name,a1.other,a1.form,s_1⟩ : Term)).toArray
  | 1=>v=Value.pointer (some ⟨b2,4,none⟩)
  | 2=>v=s_1.v
  | 3=>v=Value.pointer (some ⟨s_1.blk,s_1.off + Int.toNat 0 * 5,none⟩)
  | 4=>v=Value.pointer (some ⟨s_1.blk,s_1.off + Int.toNat 0 * 5 + 4,none⟩)
  | 5=>v=s13.v
  | 6=>v=Value.pointer (some ⟨s13.blk,s13.off + Int.toNat 0 * 5,none⟩)
  | 7=>v=Value.agg (Term.C (⟨(at_ PTerm.z ((at_ PTerm.z a1.sub 0).sub) 0).kind,(at_ PTerm.z ((at_ PTerm.z a1.sub 0).sub) 0).name,(at_ PTerm.z ((at_ PTerm.z a1.sub 0).sub) 0).other,(at_ PTerm.z ((at_ PTerm.z a1.sub 0).sub) 0).form,s15⟩ : Term)).toArray
  | 9=>v=Value.pointer a_0
  | 10=>v=Value.agg (Term.C (⟨a1.kind,a1.name,a1.other,a1.form,s_1⟩ : Term)).toArray
  | 11=>v=Value.pointer (some ⟨b2,0,none⟩)
  | 12=>v=Value.int .i64 a1.kind
  | 13=>v=Value.bool (decide (a1.kind=6))
  | _=>True⟩ (fun L g v => ∃ Z20:List OA,(∀ z ∈ [oT a_0 a0,za s_1 a1.sub,oCl s_1.blk (s_1.off + Int.toNat 0 * 5) (Term.C (⟨(at_ PTerm.z a1.sub 0).kind,(at_ PTerm.z a1.sub 0).name,(at_ PTerm.z a1.sub 0).other,(at_ PTerm.z a1.sub 0).form,s13⟩ : Term)),za s13 ((at_ PTerm.z a1.sub 0).sub),oCl s13.blk (s13.off + Int.toNat 0 * 5) (Term.C (⟨(at_ PTerm.z ((at_ PTerm.z a1.sub 0).sub) 0).kind,(at_ PTerm.z ((at_ PTerm.z a1.sub 0).sub) 0).name,(at_ PTerm.z ((at_ PTerm.z a1.sub 0).sub) 0).other,(at_ PTerm.z ((at_ PTerm.z a1.sub 0).sub) 0).form,s15⟩ : Term)),za s15 ((at_ PTerm.z ((at_ PTerm.z a1.sub 0).sub) 0).sub)],z ∈ Z20)∧Made L g Z20 8 14 (fun (c:SlV)=>Value.agg (Term.C (⟨r16.kind,r16.name,r16.other,r16.form,c⟩ : Term)).toArray) (fun (c:SlV)=>[za c r16.sub])∧St A N w v [oB b4 zb (Term.C (⟨0,ByteArray.empty,ByteArray.empty,0,SlV.nil⟩ : Term)),oB b2 zb (Term.C (⟨a1.kind,a1.name,a1.other,a1.form,s_1⟩ : Term))] Z20) hmix jM (fun _ _ _ _ _ _ _ hv=>hv) (fun g=>⟨_,fun _ h=>h,Made.no,S.ext (Ext.drawn _)⟩) ⟨?_,?_,?_,?_,?_,?_,?_,?_,?_,?_,?_,?_,?_,?_,trivial⟩ ?_
 ·rintro L g v hL hcl hclo ⟨Z20,hZ,hm8,S⟩ 
  refine wd (zi zq rfl ((S.blk 1).all _ (Term.len _)) (Term.len _)) ?_
  exact ze (ob4 trivial rfl ⟨_,hZ,hm8.keep rfl rfl tl0,S⟩)
 ·rintro L g v hL hcl hclo ⟨Z20,hZ,hm8,S⟩ 
  refine wd (zh zO rfl (o':=4) rfl) ?_
  exact ze (ob4 trivial rfl ⟨_,hZ,hm8.keep rfl rfl tl0,S⟩)
 ·rintro L g v hL hcl hclo ⟨Z20,hZ,hm8,S⟩ hv1
  refine wd (zt zF hv1 ((S.blk 1).cell (Term.get_sub _))) ?_
  exact ze (ob4 trivial rfl ⟨_,hZ,hm8.keep rfl rfl tl0,S⟩)
 ·rintro L g v hL hcl hclo ⟨Z20,hZ,hm8,S⟩ hv2
  replace S:=S.zneed hZ
  replace S:St A N w v [oB b4 zb (Term.C (⟨0,ByteArray.empty,ByteArray.empty,0,SlV.nil⟩ : Term)),oB b2 zb (Term.C (⟨a1.kind,a1.name,a1.other,a1.form,s_1⟩ : Term))] (oT a_0 a0 :: za s_1 a1.sub :: oCl s_1.blk (s_1.off + Int.toNat 0 * 5) (Term.C (⟨(at_ PTerm.z a1.sub 0).kind,(at_ PTerm.z a1.sub 0).name,(at_ PTerm.z a1.sub 0).other,(at_ PTerm.z a1.sub 0).form,s13⟩ : Term)) :: za s13 ((at_ PTerm.z a1.sub 0).sub) :: oCl s13.blk (s13.off + Int.toNat 0 * 5) (Term.C (⟨(at_ PTerm.z ((at_ PTerm.z a1.sub 0).sub) 0).kind,(at_ PTerm.z ((at_ PTerm.z a1.sub 0).sub) 0).name,(at_ PTerm.z ((at_ PTerm.z a1.sub 0).sub) 0).other,(at_ PTerm.z ((at_ PTerm.z a1.sub 0).sub) 0).form,s15⟩ : Term)) :: za s15 ((at_ PTerm.z ((at_ PTerm.z a1.sub 0).sub) 0).sub) :: Z20):=S
  refine wd (does_indexF zz hv2 rfl (S.onZ 1) (zP hi12).1 (zP hi12).2) ?_
  exact ze (ob4 trivial rfl ⟨_,(fun z h=>tl6 z (hZ z h)),hm8.keep rfl rfl tl6,S⟩)
 ·rintro L g v hL hcl hclo ⟨Z20,hZ,hm8,S⟩ hv3
  refine wd (zh zO hv3 (o':=_) rfl) ?_
  exact ze (ob4 trivial rfl ⟨_,hZ,hm8.keep rfl rfl tl0,S⟩)
 ·rintro L g v hL hcl hclo ⟨Z20,hZ,hm8,S⟩ hv4
  replace S:=S.zneed hZ
  replace S:St A N w v [oB b4 zb (Term.C (⟨0,ByteArray.empty,ByteArray.empty,0,SlV.nil⟩ : Term)),oB b2 zb (Term.C (⟨a1.kind,a1.name,a1.other,a1.form,s_1⟩ : Term))] (oT a_0 a0 :: za s_1 a1.sub :: oCl s_1.blk (s_1.off + Int.toNat 0 * 5) (Term.C (⟨(at_ PTerm.z a1.sub 0).kind,(at_ PTerm.z a1.sub 0).name,(at_ PTerm.z a1.sub 0).other,(at_ PTerm.z a1.sub 0).form,s13⟩ : Term)) :: za s13 ((at_ PTerm.z a1.sub 0).sub) :: oCl s13.blk (s13.off + Int.toNat 0 * 5) (Term.C (⟨(at_ PTerm.z ((at_ PTerm.z a1.sub 0).sub) 0).kind,(at_ PTerm.z ((at_ PTerm.z a1.sub 0).sub) 0).name,(at_ PTerm.z ((at_ PTerm.z a1.sub 0).sub) 0).other,(at_ PTerm.z ((at_ PTerm.z a1.sub 0).sub) 0).form,s15⟩ : Term)) :: za s15 ((at_ PTerm.z ((at_ PTerm.z a1.sub 0).sub) 0).sub) :: Z20):=S
  refine wd (zt zF hv4 ((S.cl 2).get (Term.get_sub _))) ?_
  exact ze (ob4 trivial rfl ⟨_,(fun z h=>tl6 z (hZ z h)),hm8.keep rfl rfl tl6,S⟩)
 ·rintro L g v hL hcl hclo ⟨Z20,hZ,hm8,S⟩ hv5
  replace S:=S.zneed hZ
  replace S:St A N w v [oB b4 zb (Term.C (⟨0,ByteArray.empty,ByteArray.empty,0,SlV.nil⟩ : Term)),oB b2 zb (Term.C (⟨a1.kind,a1.name,a1.other,a1.form,s_1⟩ : Term))] (oT a_0 a0 :: za s_1 a1.sub :: oCl s_1.blk (s_1.off + Int.toNat 0 * 5) (Term.C (⟨(at_ PTerm.z a1.sub 0).kind,(at_ PTerm.z a1.sub 0).name,(at_ PTerm.z a1.sub 0).other,(at_ PTerm.z a1.sub 0).form,s13⟩ : Term)) :: za s13 ((at_ PTerm.z a1.sub 0).sub) :: oCl s13.blk (s13.off + Int.toNat 0 * 5) (Term.C (⟨(at_ PTerm.z ((at_ PTerm.z a1.sub 0).sub) 0).kind,(at_ PTerm.z ((at_ PTerm.z a1.sub 0).sub) 0).name,(at_ PTerm.z ((at_ PTerm.z a1.sub 0).sub) 0).other,(at_ PTerm.z ((at_ PTerm.z a1.sub 0).sub) 0).form,s15⟩ : Term)) :: za s15 ((at_ PTerm.z ((at_ PTerm.z a1.sub 0).sub) 0).sub) :: Z20):=S
  refine wd (does_indexF zz hv5 rfl (S.onZ 3) (zP hi14).1 (zP hi14).2) ?_
  exact ze (ob4 trivial rfl ⟨_,(fun z h=>tl6 z (hZ z h)),hm8.keep rfl rfl tl6,S⟩)
 ·rintro L g v hL hcl hclo ⟨Z20,hZ,hm8,S⟩ hv6
  replace S:=S.zneed hZ
  replace S:St A N w v [oB b4 zb (Term.C (⟨0,ByteArray.empty,ByteArray.empty,0,SlV.nil⟩ : Term)),oB b2 zb (Term.C (⟨a1.kind,a1.name,a1.other,a1.form,s_1⟩ : Term))] (oT a_0 a0 :: za s_1 a1.sub :: oCl s_1.blk (s_1.off + Int.toNat 0 * 5) (Term.C (⟨(at_ PTerm.z a1.sub 0).kind,(at_ PTerm.z a1.sub 0).name,(at_ PTerm.z a1.sub 0).other,(at_ PTerm.z a1.sub 0).form,s13⟩ : Term)) :: za s13 ((at_ PTerm.z a1.sub 0).sub) :: oCl s13.blk (s13.off + Int.toNat 0 * 5) (Term.C (⟨(at_ PTerm.z ((at_ PTerm.z a1.sub 0).sub) 0).kind,(at_ PTerm.z ((at_ PTerm.z a1.sub 0).sub) 0).name,(at_ PTerm.z ((at_ PTerm.z a1.sub 0).sub) 0).other,(at_ PTerm.z ((at_ PTerm.z a1.sub 0).sub) 0).form,s15⟩ : Term)) :: za s15 ((at_ PTerm.z ((at_ PTerm.z a1.sub 0).sub) 0).sub) :: Z20):=S
  refine wd (zi zq hv6 (S.cl 4) (Term.len _)) ?_
  exact ze (ob4 trivial rfl ⟨_,(fun z h=>tl6 z (hZ z h)),hm8.keep rfl rfl tl6,S⟩)
 ·rintro L g v hL hcl hclo ⟨Z20,hZ,hm8,S⟩ hv0 hv7
  replace S:=S.zneed hZ
  replace S:St A N w v [oB b4 zb (Term.C (⟨0,ByteArray.empty,ByteArray.empty,0,SlV.nil⟩ : Term)),oB b2 zb (Term.C (⟨a1.kind,a1.name,a1.other,a1.form,s_1⟩ : Term))] (oT a_0 a0 :: za s_1 a1.sub :: oCl s_1.blk (s_1.off + Int.toNat 0 * 5) (Term.C (⟨(at_ PTerm.z a1.sub 0).kind,(at_ PTerm.z a1.sub 0).name,(at_ PTerm.z a1.sub 0).other,(at_ PTerm.z a1.sub 0).form,s13⟩ : Term)) :: za s13 ((at_ PTerm.z a1.sub 0).sub) :: oCl s13.blk (s13.off + Int.toNat 0 * 5) (Term.C (⟨(at_ PTerm.z ((at_ PTerm.z a1.sub 0).sub) 0).kind,(at_ PTerm.z ((at_ PTerm.z a1.sub 0).sub) 0).name,(at_ PTerm.z ((at_ PTerm.z a1.sub 0).sub) 0).other,(at_ PTerm.z ((at_ PTerm.z a1.sub 0).sub) 0).form,s15⟩ : Term)) :: za s15 ((at_ PTerm.z ((at_ PTerm.z a1.sub 0).sub) 0).sub) :: Z20):=S
  obtain ⟨B26,MB26,SB26,back⟩ := S.sub [1,5] [] [oB b4 zb (Term.C (⟨0,ByteArray.empty,ByteArray.empty,0,SlV.nil⟩ : Term)),oB b2 zb (Term.C (⟨a1.kind,a1.name,a1.other,a1.form,s_1⟩ : Term))]
  refine zJ (zS ca_reduce_side (zX hv0 (zX hv7 rfl))) jJ (reduce_side_st (a0:=a1) (a1:=(at_ PTerm.z ((at_ PTerm.z a1.sub 0).sub) 0)) SB26 er16) ?_
  rintro _ w25 ⟨s27,rfl,S2⟩
  replace S:St A N w w25 [oB b4 zb (Term.C (⟨0,ByteArray.empty,ByteArray.empty,0,SlV.nil⟩ : Term)),oB b2 zb (Term.C (⟨a1.kind,a1.name,a1.other,a1.form,s_1⟩ : Term))] (za s27 r16.sub :: oT a_0 a0 :: za s_1 a1.sub :: oCl s_1.blk (s_1.off + Int.toNat 0 * 5) (Term.C (⟨(at_ PTerm.z a1.sub 0).kind,(at_ PTerm.z a1.sub 0).name,(at_ PTerm.z a1.sub 0).other,(at_ PTerm.z a1.sub 0).form,s13⟩ : Term)) :: za s13 ((at_ PTerm.z a1.sub 0).sub) :: oCl s13.blk (s13.off + Int.toNat 0 * 5) (Term.C (⟨(at_ PTerm.z ((at_ PTerm.z a1.sub 0).sub) 0).kind,(at_ PTerm.z ((at_ PTerm.z a1.sub 0).sub) 0).name,(at_ PTerm.z ((at_ PTerm.z a1.sub 0).sub) 0).other,(at_ PTerm.z ((at_ PTerm.z a1.sub 0).sub) 0).form,s15⟩ : Term)) :: za s15 ((at_ PTerm.z ((at_ PTerm.z a1.sub 0).sub) 0).sub) :: Z20):=back _ _ _ _ _ S2 rfl rfl
  clear back S2 SB26
  exact ze (ob4 trivial trivial ⟨_,(fun z h=>tl7 z (hZ z h)),Made.one (val:=(fun (c:SlV)=>Value.agg (Term.C (⟨r16.kind,r16.name,r16.other,r16.form,c⟩ : Term)).toArray)) (ps:=(fun (c:SlV)=>[za c r16.sub])) s27 (xP List.mem_cons_self yf),S⟩)
 ·rintro L g v hL hcl hclo ⟨Z20,hZ,hm8,S⟩ 
  refine wd (zN rfl) ?_
  exact ze (ob4 trivial rfl ⟨_,hZ,hm8.keep rfl rfl tl0,S⟩)
 ·rintro L g v hL hcl hclo ⟨Z20,hZ,hm8,S⟩ 
  refine wd (zi zq rfl ((S.blk 1).all _ (Term.len _)) (Term.len _)) ?_
  exact ze (ob4 trivial rfl ⟨_,hZ,hm8.keep rfl rfl tl0,S⟩)
 ·rintro L g v hL hcl hclo ⟨Z20,hZ,hm8,S⟩ 
  refine wd (zh xl rfl (o':=0) rfl) ?_
  exact ze (ob4 trivial rfl ⟨_,hZ,hm8.keep rfl rfl tl0,S⟩)
 ·rintro L g v hL hcl hclo ⟨Z20,hZ,hm8,S⟩ hv11
  refine wd (zt xd hv11 ((S.blk 1).cell (Term.get_kind _))) ?_
  exact ze (ob4 trivial rfl ⟨_,hZ,hm8.keep rfl rfl tl0,S⟩)
 ·rintro L g v hL hcl hclo ⟨Z20,hZ,hm8,S⟩ hv12
  refine wd (xb hv12 rfl) ?_
  exact ze (ob4 trivial rfl ⟨_,hZ,hm8.keep rfl rfl tl0,S⟩)
 rintro L g w28 hLm ⟨Z20,hZ,hm8,S⟩ hv29_0 hv29_1 hv29_2 hv29_3 hv29_4 hv29_5 hv29_6 hv29_7 _ hv29_9 hv29_10 hv29_11 hv29_12 hv29_13
 have hLt : ∀ j,j < 14→L j=true:=fun j hj=>by rw [hLm]; exact decide_eq_true hj
 obtain ⟨s19,hv29_8,hp8⟩ := hm8 (hLt 8 jJ)
 replace S:St A N w w28 [oB b4 zb (Term.C (⟨0,ByteArray.empty,ByteArray.empty,0,SlV.nil⟩ : Term)),oB b2 zb (Term.C (⟨a1.kind,a1.name,a1.other,a1.form,s_1⟩ : Term))] [za s19 r16.sub,oT a_0 a0,za s_1 a1.sub,oCl s_1.blk (s_1.off + Int.toNat 0 * 5) (Term.C (⟨(at_ PTerm.z a1.sub 0).kind,(at_ PTerm.z a1.sub 0).name,(at_ PTerm.z a1.sub 0).other,(at_ PTerm.z a1.sub 0).form,s13⟩ : Term)),za s13 ((at_ PTerm.z a1.sub 0).sub),oCl s13.blk (s13.off + Int.toNat 0 * 5) (Term.C (⟨(at_ PTerm.z ((at_ PTerm.z a1.sub 0).sub) 0).kind,(at_ PTerm.z ((at_ PTerm.z a1.sub 0).sub) 0).name,(at_ PTerm.z ((at_ PTerm.z a1.sub 0).sub) 0).other,(at_ PTerm.z ((at_ PTerm.z a1.sub 0).sub) 0).form,s15⟩ : Term)),za s15 ((at_ PTerm.z ((at_ PTerm.z a1.sub 0).sub) 0).sub)]:=S.pickZ (xy (l1:=[za s19 r16.sub]) hp8 hZ)
 clear hp8 hZ hm8
 obtain ⟨r30,er30,H⟩ := zB H
 obtain ⟨B32,MB32,SB32,back⟩ := S.calln 0 ((.z 1 rfl (.z 2 rfl .nil)))
 refine zJ (zS uh (zX hv29_9 (zX hv29_10 (zX hv29_13 rfl)))) jJ (uq (a1:=a1) SB32 er30) ?_
 rintro _ w31 ⟨rfl,S2⟩
 replace S:St A N w w31 [oB b4 zb (Term.C (⟨0,ByteArray.empty,ByteArray.empty,0,SlV.nil⟩ : Term)),oB b2 zb (Term.C (⟨a1.kind,a1.name,a1.other,a1.form,s_1⟩ : Term))] [za s19 r16.sub,oT a_0 a0,za s_1 a1.sub,oCl s_1.blk (s_1.off + Int.toNat 0 * 5) (Term.C (⟨(at_ PTerm.z a1.sub 0).kind,(at_ PTerm.z a1.sub 0).name,(at_ PTerm.z a1.sub 0).other,(at_ PTerm.z a1.sub 0).form,s13⟩ : Term)),za s13 ((at_ PTerm.z a1.sub 0).sub),oCl s13.blk (s13.off + Int.toNat 0 * 5) (Term.C (⟨(at_ PTerm.z ((at_ PTerm.z a1.sub 0).sub) 0).kind,(at_ PTerm.z ((at_ PTerm.z a1.sub 0).sub) 0).name,(at_ PTerm.z ((at_ PTerm.z a1.sub 0).sub) 0).other,(at_ PTerm.z ((at_ PTerm.z a1.sub 0).sub) 0).form,s15⟩ : Term)),za s15 ((at_ PTerm.z ((at_ PTerm.z a1.sub 0).sub) 0).sub)]:=back _ _ _ _ S2 rfl
 clear back S2 SB32
 obtain ⟨r33,er33,H⟩ := zB H
 obtain ⟨B35,MB35,SB35,back⟩ := S.sub [0] [] [oB b4 zb (Term.C (⟨0,ByteArray.empty,ByteArray.empty,0,SlV.nil⟩ : Term)),oB b2 zb (Term.C (⟨a1.kind,a1.name,a1.other,a1.form,s_1⟩ : Term))]
 refine zJ (zS uF (zX hv29_8 (zX rfl rfl))) jJ (uG (a0:=r16) SB35 er33) ?_
 rintro _ w34 ⟨s36,rfl,S2⟩
 replace S:St A N w w34 [oB b4 zb (Term.C (⟨0,ByteArray.empty,ByteArray.empty,0,SlV.nil⟩ : Term)),oB b2 zb (Term.C (⟨a1.kind,a1.name,a1.other,a1.form,s_1⟩ : Term))] [za s36 r33.sub,za s19 r16.sub,oT a_0 a0,za s_1 a1.sub,oCl s_1.blk (s_1.off + Int.toNat 0 * 5) (Term.C (⟨(at_ PTerm.z a1.sub 0).kind,(at_ PTerm.z a1.sub 0).name,(at_ PTerm.z a1.sub 0).other,(at_ PTerm.z a1.sub 0).form,s13⟩ : Term)),za s13 ((at_ PTerm.z a1.sub 0).sub),oCl s13.blk (s13.off + Int.toNat 0 * 5) (Term.C (⟨(at_ PTerm.z ((at_ PTerm.z a1.sub 0).sub) 0).kind,(at_ PTerm.z ((at_ PTerm.z a1.sub 0).sub) 0).name,(at_ PTerm.z ((at_ PTerm.z a1.sub 0).sub) 0).other,(at_ PTerm.z ((at_ PTerm.z a1.sub 0).sub) 0).form,s15⟩ : Term)),za s15 ((at_ PTerm.z ((at_ PTerm.z a1.sub 0).sub) 0).sub)]:=back _ _ _ _ _ S2 rfl rfl
 clear back S2 SB35
 refine zy zq rfl rfl (S.blk 0) (Term.len _) (by rw [Term.len]; decide) (Term.one _) (zM (Term.len _)) fun w37 B hw37 zw37=>?_
 replace S:St A N w w37 [oB b4 zb (Term.C (⟨r33.kind,r33.name,r33.other,r33.form,s36⟩ : Term)),oB b2 zb (Term.C (⟨a1.kind,a1.name,a1.other,a1.form,s_1⟩ : Term))] [za s36 r33.sub,za s19 r16.sub,oT a_0 a0,za s_1 a1.sub,oCl s_1.blk (s_1.off + Int.toNat 0 * 5) (Term.C (⟨(at_ PTerm.z a1.sub 0).kind,(at_ PTerm.z a1.sub 0).name,(at_ PTerm.z a1.sub 0).other,(at_ PTerm.z a1.sub 0).form,s13⟩ : Term)),za s13 ((at_ PTerm.z a1.sub 0).sub),oCl s13.blk (s13.off + Int.toNat 0 * 5) (Term.C (⟨(at_ PTerm.z ((at_ PTerm.z a1.sub 0).sub) 0).kind,(at_ PTerm.z ((at_ PTerm.z a1.sub 0).sub) 0).name,(at_ PTerm.z ((at_ PTerm.z a1.sub 0).sub) 0).other,(at_ PTerm.z ((at_ PTerm.z a1.sub 0).sub) 0).form,s15⟩ : Term)),za s15 ((at_ PTerm.z ((at_ PTerm.z a1.sub 0).sub) 0).sub)]:=S.store 0 B hw37
 clear B
 refine wd (zn rfl) ?_
 refine ze ?_
 refine zC ?_
 refine ⟨_,(xB (zV zq rfl ((S.blk 0).all _ (Term.len _)) (Term.len _)) (zj rfl)),?_⟩
 replace S:St A N w w37 [] [za s36 r33.sub]:=S.arr [] [0]
 obtain rfl:=jN H
 exact ⟨s36,rfl,S⟩
theorem reduce_rules_9_st {a0:Tb} {a_0:Option Addr} {a1:PTerm} {s_1:SlV} (S:St A N w w [] [oT a_0 a0,za s_1 a1.sub]) {r:Bool} (H:ko.f a0 a1=some r) :
  Calls PP y8 #[.pointer a_0,.agg (Term.C (⟨a1.kind,a1.name,a1.other,a1.form,s_1⟩ : Term)).toArray] w fun e w' => ∃ v,e = .returned v∧(v = .bool r∧St A N w w' [] []):=by
 unfold ko.f at H
 refine zE (n:=13) fn_reduce_rules_9 rfl rfl jL ?_
 refine zg (zd ?_)
 refine zQ rfl jJ fun b2 w1 hw1=>?_
 replace S:St A N w w1 [oB b2 zb (Term.C (⟨a1.kind,a1.name,a1.other,a1.form,s_1⟩ : Term))] [oT a_0 a0,za s_1 a1.sub]:=S.new hw1
 refine wd (zk rfl) ?_
 refine ze ?_
 refine zg (zd ?_)
 refine wd (zi zq rfl ((S.blk 0).all _ (Term.len _)) (Term.len _)) ?_
 obtain ⟨r3,er3,H⟩ := zB H
 obtain ⟨B5,MB5,SB5,back⟩ := S.calln 0 ((.z 1 rfl .nil))
 refine zJ (zH jh) jJ (jl (a0:=a1) SB5 er3) ?_
 rintro _ w4 ⟨rfl,S2⟩
 replace S:St A N w w4 [oB b2 zb (Term.C (⟨a1.kind,a1.name,a1.other,a1.form,s_1⟩ : Term))] [oT a_0 a0,za s_1 a1.sub]:=back _ _ _ _ S2 rfl
 clear back S2 SB5
 refine wd (xn rfl) ?_
 refine wd (zA rfl rfl) ?_
 refine wd (zA rfl rfl) ?_
 refine wd (zk rfl) ?_
 refine wd (zk rfl) ?_
 refine ze ?_
 refine zg (zd ?_)
 refine wd (zG rfl) ?_
 refine wd (zk rfl) ?_
 refine ze ?_
 refine zC ?_
 refine ⟨_,(z1 (zj rfl)),?_⟩
 replace S:St A N w w4 [] []:=S.arr [] []
 obtain rfl:=jN H
 exact ⟨rfl,S⟩
theorem reduce_rules_11_st {a0:Tb} {a_0:Option Addr} {a1:PTerm} {s_1:SlV} (S:St A N w w [] [oT a_0 a0,za s_1 a1.sub]) {r:Bool} (H:kp.f a0 a1=some r) :
  Calls PP yP #[.pointer a_0,.agg (Term.C (⟨a1.kind,a1.name,a1.other,a1.form,s_1⟩ : Term)).toArray] w fun e w' => ∃ v,e = .returned v∧(v = .bool r∧St A N w w' [] []):=by
 unfold kp.f at H
 refine zE (n:=14) fn_reduce_rules_11 rfl rfl jL ?_
 refine zg (zd ?_)
 refine zQ rfl jJ fun b2 w1 hw1=>?_
 replace S:St A N w w1 [oB b2 zb (Term.C (⟨a1.kind,a1.name,a1.other,a1.form,s_1⟩ : Term))] [oT a_0 a0,za s_1 a1.sub]:=S.new hw1
 refine wd (zk rfl) ?_
 refine ze ?_
 refine zg (zd ?_)
 refine wd (zN rfl) ?_
 refine wd (zi zq rfl ((S.blk 0).all _ (Term.len _)) (Term.len _)) ?_
 obtain ⟨r3,er3,H⟩ := zB H
 obtain ⟨B5,MB5,SB5,back⟩ := S.calln 0 ((.z 0 rfl (.z 1 rfl .nil)))
 refine zJ (zH ca_reduce_told) jJ (reduce_told_st (a1:=a1) SB5 er3) ?_
 rintro _ w4 ⟨rfl,S2⟩
 replace S:St A N w w4 [oB b2 zb (Term.C (⟨a1.kind,a1.name,a1.other,a1.form,s_1⟩ : Term))] [oT a_0 a0,za s_1 a1.sub]:=back _ _ _ _ S2 rfl
 clear back S2 SB5
 refine wd (xn rfl) ?_
 refine wd (zA rfl rfl) ?_
 refine wd (zA rfl rfl) ?_
 refine wd (zk rfl) ?_
 refine wd (zk rfl) ?_
 refine ze ?_
 refine zg (zd ?_)
 refine wd (zG rfl) ?_
 refine wd (zk rfl) ?_
 refine ze ?_
 refine zC ?_
 refine ⟨_,(z1 (zj rfl)),?_⟩
 replace S:St A N w w4 [] []:=S.arr [] []
 obtain rfl:=jN H
 exact ⟨rfl,S⟩
theorem reduce_rules_13_st {a0:Tb} {a_0:Option Addr} {a1:PTerm} {s_1:SlV} (S:St A N w w [] [oT a_0 a0,za s_1 a1.sub]) {r:Bool} (H:kq.f a0 a1=some r) :
  Calls PP yQ #[.pointer a_0,.agg (Term.C (⟨a1.kind,a1.name,a1.other,a1.form,s_1⟩ : Term)).toArray] w fun e w' => ∃ v,e = .returned v∧(v = .bool r∧St A N w w' [] []):=by
 unfold kq.f at H
 refine zE (n:=8) fn_reduce_rules_13 rfl rfl jL ?_
 refine zg (zd ?_)
 refine zQ rfl jJ fun b2 w1 hw1=>?_
 replace S:St A N w w1 [oB b2 zb (Term.C (⟨a1.kind,a1.name,a1.other,a1.form,s_1⟩ : Term))] [oT a_0 a0,za s_1 a1.sub]:=S.new hw1
 refine wd (zk rfl) ?_
 refine ze ?_
 refine zg (zd ?_)
 refine wd (zh xl rfl (o':=0) rfl) ?_
 refine wd (zt xd rfl ((S.blk 0).cell (Term.get_kind _))) ?_
 refine wd (xb rfl rfl) ?_
 refine wd (zk rfl) ?_
 refine ze ?_
 refine zC ?_
 refine ⟨_,(z1 (zj rfl)),?_⟩
 replace S:St A N w w1 [] []:=S.arr [] []
 obtain rfl:=jN H
 exact ⟨rfl,S⟩
theorem reduce_rules_15_st {a0:Tb} {a_0:Option Addr} {a1:PTerm} {s_1:SlV} (S:St A N w w [] [oT a_0 a0,za s_1 a1.sub]) {r:Bool} (H:kr.f a0 a1=some r) :
  Calls PP yR #[.pointer a_0,.agg (Term.C (⟨a1.kind,a1.name,a1.other,a1.form,s_1⟩ : Term)).toArray] w fun e w' => ∃ v,e = .returned v∧(v = .bool r∧St A N w w' [] []):=by
 unfold kr.f at H
 refine zE (n:=19) fn_reduce_rules_15 rfl rfl jL ?_
 refine zg (zd ?_)
 refine zQ rfl jJ fun b2 w1 hw1=>?_
 replace S:St A N w w1 [oB b2 zb (Term.C (⟨a1.kind,a1.name,a1.other,a1.form,s_1⟩ : Term))] [oT a_0 a0,za s_1 a1.sub]:=S.new hw1
 refine wd (zk rfl) ?_
 refine ze ?_
 refine zg (zg (zd ?_))
 refine wd (zh xl rfl (o':=0) rfl) ?_
 refine wd (zt xd rfl ((S.blk 0).cell (Term.get_kind _))) ?_
 refine wd (xN rfl rfl) ?_
 refine ze ?_
 refine zU rfl (fun hc3=>?_) (fun hc3=>?_)
 ·replace H:=if_t hc3 H
  refine zg (zd ?_)
  refine wd (zk rfl) ?_
  refine ze ?_
  refine zC ?_
  refine ⟨_,(z1 (zj rfl)),?_⟩
  replace S:St A N w w1 [] []:=S.arr [] []
  obtain rfl:=jN H
  exact ⟨rfl,S⟩
 replace H:=if_f hc3 H
 refine zI ?_
 refine zg (zg (zd ?_))
 refine wd (zh zO rfl (o':=4) rfl) ?_
 refine wd (zt zF rfl ((S.blk 0).cell (Term.get_sub _))) ?_
 obtain ⟨hi4,H⟩ := xh H
 refine wd (does_indexF zz rfl rfl (S.onZ 1) (zP hi4).1 (zP hi4).2) ?_
 refine wd (zh xl rfl (o':=_) rfl) ?_
 refine wd (zt xd rfl (yl.get_kind (S.onZ 1) (zP hi4))) ?_
 refine ze ?_
 refine zY ?_
 refine zg (zg (zd ?_))
 refine wd (xb rfl rfl) ?_
 refine wd (zk rfl) ?_
 refine ze ?_
 refine zU rfl (fun hc5=>?_) (fun hc5=>?_)
 ·replace H:=if_t hc5 H
  refine zI ?_
  refine zU rfl (fun hc6=>?_) (fun hc6=>?_)
  ·replace H:=if_t hc6 H
   refine zg (zd ?_)
   refine wd (zk rfl) ?_
   refine ze ?_
   refine zC ?_
   refine ⟨_,(z1 (zj rfl)),?_⟩
   replace S:St A N w w1 [] []:=S.arr [] []
   obtain rfl:=jN H
   exact ⟨rfl,S⟩
  replace H:=if_f hc6 H
  refine zI ?_
  refine zg (zd ?_)
  refine wd (zk rfl) ?_
  refine ze ?_
  refine zC ?_
  refine ⟨_,(z1 (zj rfl)),?_⟩
  replace S:St A N w w1 [] []:=S.arr [] []
  obtain rfl:=jN H
  exact ⟨rfl,S⟩
 ·replace H:=if_f hc5 H
  refine zg (zd ?_)
  refine wd (xb rfl rfl) ?_
  refine wd (zk rfl) ?_
  refine ze ?_
  refine zU rfl (fun hc7=>?_) (fun hc7=>?_)
  ·replace H:=if_t hc7 H
   refine zI ?_
   refine zU rfl (fun hc8=>?_) (fun hc8=>?_)
   ·replace H:=if_t hc8 H
    refine zg (zd ?_)
    refine wd (zk rfl) ?_
    refine ze ?_
    refine zC ?_
    refine ⟨_,(z1 (zj rfl)),?_⟩
    replace S:St A N w w1 [] []:=S.arr [] []
    obtain rfl:=jN H
    exact ⟨rfl,S⟩
   replace H:=if_f hc8 H
   refine zI ?_
   refine zg (zd ?_)
   refine wd (zk rfl) ?_
   refine ze ?_
   refine zC ?_
   refine ⟨_,(z1 (zj rfl)),?_⟩
   replace S:St A N w w1 [] []:=S.arr [] []
   obtain rfl:=jN H
   exact ⟨rfl,S⟩
  ·replace H:=if_f hc7 H
   refine zg (zd ?_)
   refine wd (xb rfl rfl) ?_
   refine wd (zk rfl) ?_
   refine ze ?_
   refine zU rfl (fun hc9=>?_) (fun hc9=>?_)
   ·replace H:=if_t hc9 H
    refine zI ?_
    refine zU rfl (fun hc10=>?_) (fun hc10=>?_)
    ·replace H:=if_t hc10 H
     refine zg (zd ?_)
     refine wd (zk rfl) ?_
     refine ze ?_
     refine zC ?_
     refine ⟨_,(z1 (zj rfl)),?_⟩
     replace S:St A N w w1 [] []:=S.arr [] []
     obtain rfl:=jN H
     exact ⟨rfl,S⟩
    replace H:=if_f hc10 H
    refine zI ?_
    refine zg (zd ?_)
    refine wd (zk rfl) ?_
    refine ze ?_
    refine zC ?_
    refine ⟨_,(z1 (zj rfl)),?_⟩
    replace S:St A N w w1 [] []:=S.arr [] []
    obtain rfl:=jN H
    exact ⟨rfl,S⟩
   ·replace H:=if_f hc9 H
    refine zg (zd ?_)
    refine wd (xb rfl rfl) ?_
    refine wd (zk rfl) ?_
    refine ze ?_
    refine zU rfl (fun hc11=>?_) (fun hc11=>?_)
    ·replace H:=if_t hc11 H
     refine zI ?_
     refine zU rfl (fun hc12=>?_) (fun hc12=>?_)
     ·replace H:=if_t hc12 H
      refine zg (zd ?_)
      refine wd (zk rfl) ?_
      refine ze ?_
      refine zC ?_
      refine ⟨_,(z1 (zj rfl)),?_⟩
      replace S:St A N w w1 [] []:=S.arr [] []
      obtain rfl:=jN H
      exact ⟨rfl,S⟩
     replace H:=if_f hc12 H
     refine zI ?_
     refine zg (zd ?_)
     refine wd (zk rfl) ?_
     refine ze ?_
     refine zC ?_
     refine ⟨_,(z1 (zj rfl)),?_⟩
     replace S:St A N w w1 [] []:=S.arr [] []
     obtain rfl:=jN H
     exact ⟨rfl,S⟩
    ·replace H:=if_f hc11 H
     refine zd ?_
     refine wd (xb rfl rfl) ?_
     refine wd (zk rfl) ?_
     refine ze ?_
     refine zU rfl (fun hc13=>?_) (fun hc13=>?_)
     ·replace H:=if_t hc13 H
      refine zg (zd ?_)
      refine wd (zk rfl) ?_
      refine ze ?_
      refine zC ?_
      refine ⟨_,(z1 (zj rfl)),?_⟩
      replace S:St A N w w1 [] []:=S.arr [] []
      obtain rfl:=jN H
      exact ⟨rfl,S⟩
     replace H:=if_f hc13 H
     refine zI ?_
     refine zg (zd ?_)
     refine wd (zk rfl) ?_
     refine ze ?_
     refine zC ?_
     refine ⟨_,(z1 (zj rfl)),?_⟩
     replace S:St A N w w1 [] []:=S.arr [] []
     obtain rfl:=jN H
     exact ⟨rfl,S⟩
theorem reduce_rules_16_st {a0:Tb} {a_0:Option Addr} {a1:PTerm} {s_1:SlV} (S:St A N w w [] [oT a_0 a0,za s_1 a1.sub]) {r:PTerm × Int} (H:ku.f a0 a1=some r) :
  Calls PP yq #[.pointer a_0,.agg (Term.C (⟨a1.kind,a1.name,a1.other,a1.form,s_1⟩ : Term)).toArray] w fun e w' => ∃ v,e = .returned v∧(∃ so0:SlV,v = .tuple #[.agg (Term.C (⟨r.1.kind,r.1.name,r.1.other,r.1.form,so0⟩ : Term)).toArray,.int .i64 r.2]∧St A N w w' [] [za so0 r.1.sub]):=by
 unfold ku.f at H
 refine zE (n:=10) fn_reduce_rules_16 rfl rfl jL ?_
 refine zg (zd ?_)
 refine zQ rfl jJ fun b2 w1 hw1=>?_
 replace S:St A N w w1 [oB b2 zb (Term.C (⟨a1.kind,a1.name,a1.other,a1.form,s_1⟩ : Term))] [oT a_0 a0,za s_1 a1.sub]:=S.new hw1
 refine zZ xr jJ fun b4 w3 hw3=>?_
 replace S:St A N w w3 [oB b4 zb (Term.C (⟨0,ByteArray.empty,ByteArray.empty,0,SlV.nil⟩ : Term)),oB b2 zb (Term.C (⟨a1.kind,a1.name,a1.other,a1.form,s_1⟩ : Term))] [oT a_0 a0,za s_1 a1.sub]:=S.new hw3
 refine wd (zn rfl) ?_
 refine ze ?_
 refine zg (zd ?_)
 refine wd (zh zO rfl (o':=4) rfl) ?_
 refine wd (zt zF rfl ((S.blk 1).cell (Term.get_sub _))) ?_
 obtain ⟨hi5,H⟩ := xh H
 refine wd (does_indexF zz rfl rfl (S.onZ 1) (zP hi5).1 (zP hi5).2) ?_
 obtain ⟨s6,hc7,S⟩ := S.viewTerm 1 (zP hi5)
 replace S:St A N w w3 [oB b4 zb (Term.C (⟨0,ByteArray.empty,ByteArray.empty,0,SlV.nil⟩ : Term)),oB b2 zb (Term.C (⟨a1.kind,a1.name,a1.other,a1.form,s_1⟩ : Term))] [za s6 ((at_ PTerm.z a1.sub 0).sub),oT a_0 a0,za s_1 a1.sub]:=S
 refine wd (zi zq rfl hc7 (Term.len _)) ?_
 refine zy zq rfl rfl (S.blk 0) (Term.len _) (by rw [Term.len]; decide) (Term.one _) (zM (Term.len _)) fun w8 B hw8 zw8=>?_
 replace S:St A N w w8 [oB b4 zb (Term.C (⟨(at_ PTerm.z a1.sub 0).kind,(at_ PTerm.z a1.sub 0).name,(at_ PTerm.z a1.sub 0).other,(at_ PTerm.z a1.sub 0).form,s6⟩ : Term)),oB b2 zb (Term.C (⟨a1.kind,a1.name,a1.other,a1.form,s_1⟩ : Term))] [za s6 ((at_ PTerm.z a1.sub 0).sub),oT a_0 a0,za s_1 a1.sub]:=S.store 0 B hw8
 clear B
 refine wd (zn rfl) ?_
 refine ze ?_
 refine zC ?_
 refine ⟨_,(xB (zV zq rfl ((S.blk 0).all _ (Term.len _)) (Term.len _)) (zj rfl)),?_⟩
 replace S:St A N w w8 [] [za s6 ((at_ PTerm.z a1.sub 0).sub)]:=S.arr [] [0]
 obtain rfl:=jN H
 exact ⟨s6,rfl,S⟩
theorem reduce_known_1_gst {zat:Tb→PTerm→Option Bool} (zag : ∀ {A:Nat→Prop} {N:Oth} {w:World} {a0:Tb} {a_0:Option Addr} {a1:PTerm} {s_1:SlV} (S:St A N w w [] [oT a_0 a0,za s_1 a1.sub]) {r:Bool} (H:zat a0 a1=some r),Calls PP yj #[.pointer a_0,.agg (Term.C (⟨a1.kind,a1.name,a1.other,a1.form,s_1⟩ : Term)).toArray] w fun e w' => ∃ v,e = .returned v∧(v = .bool r∧St A N w w' [] [])) {A:Nat→Prop} {N:Oth} {w:World} {a0:PTerm} {s_0:SlV} {a1:Tb} {b_1:Nat} {a_1_1:Option Addr} (S:St A N w w [] [za s_0 a0.sub,oB b_1 xk [.pointer a_1_1],oT a_1_1 a1]) {r:Bool} (H:kv.g zat a0 a1=some r) :
  Calls PP vx #[.agg (Term.C (⟨a0.kind,a0.name,a0.other,a0.form,s_0⟩ : Term)).toArray,.pointer (some ⟨b_1,0,none⟩)] w fun e w' => ∃ v,e = .returned v∧(v = .bool r∧St A N w w' [] []):=by
 unfold kv.g at H
 refine zE (n:=8) fn_reduce_known_1 rfl rfl jL ?_
 refine zg (zd ?_)
 refine zQ rfl jJ fun b2 w1 hw1=>?_
 replace S:St A N w w1 [oB b2 zb (Term.C (⟨a0.kind,a0.name,a0.other,a0.form,s_0⟩ : Term))] [za s_0 a0.sub,oB b_1 xk [.pointer a_1_1],oT a_1_1 a1]:=S.new hw1
 refine wd (zk rfl) ?_
 refine ze ?_
 refine zg (zd ?_)
 refine wd (zt xq rfl ((S.blkZ 1).cell rfl)) ?_
 refine wd (zi zq rfl ((S.blk 0).all _ (Term.len _)) (Term.len _)) ?_
 obtain ⟨r3,er3,H⟩ := zB H
 obtain ⟨B5,MB5,SB5,back⟩ := S.calln 0 ((.z 2 rfl (.z 0 rfl .nil)))
 refine zJ (zH ca_reduce_known) jJ (zag (a1:=a0) SB5 er3) ?_
 rintro _ w4 ⟨rfl,S2⟩
 replace S:St A N w w4 [oB b2 zb (Term.C (⟨a0.kind,a0.name,a0.other,a0.form,s_0⟩ : Term))] [za s_0 a0.sub,oB b_1 xk [.pointer a_1_1],oT a_1_1 a1]:=back _ _ _ _ S2 rfl
 clear back S2 SB5
 refine wd (xp rfl) ?_
 refine wd (zk rfl) ?_
 refine ze ?_
 refine zC ?_
 refine ⟨_,(z1 (zj rfl)),?_⟩
 replace S:St A N w w4 [] []:=S.arr [] []
 obtain rfl:=jN H
 exact ⟨rfl,S⟩
theorem yx {zat:Tb→PTerm→Option Bool} (zag : ∀ {A:Nat→Prop} {N:Oth} {w:World} {a0:Tb} {a_0:Option Addr} {a1:PTerm} {s_1:SlV} (S:St A N w w [] [oT a_0 a0,za s_1 a1.sub]) {r:Bool} (H:zat a0 a1=some r),Calls PP yj #[.pointer a_0,.agg (Term.C (⟨a1.kind,a1.name,a1.other,a1.form,s_1⟩ : Term)).toArray] w fun e w' => ∃ v,e = .returned v∧(v = .bool r∧St A N w w' [] [])) {A:Nat→Prop} {N:Oth} {w:World} {a0:List PTerm} {s_0:SlV} {a1_0:Tb} {b_1:Nat} {a_1_1:Option Addr} (S:St A N w w [] [za s_0 a0,oB b_1 xk [.pointer a_1_1],oT a_1_1 a1_0]) {r:Int} (H:kw.g zat a0 a1_0=some r) :
  Calls PP xQ #[s_0.v,.func (.func vx) #[] #[.pointer (some ⟨b_1,0,none⟩)]] w fun e w' => ∃ v,e = .returned v∧(v = .int .i64 r∧St A N w w' [] []):=by
 unfold kw.g at H
 refine zE (n:=19) yt rfl rfl jL ?_
 refine zg (zd ?_)
 refine wd (zn rfl) ?_
 refine ze ?_
 refine zg (zg (zd ?_))
 refine wd (xa rfl) ?_
 refine wd (does_lenF zz rfl (S.onZ 0)) ?_
 refine wd (zp rfl) ?_
 refine ze ?_
 obtain ⟨o1,e1,Ho1⟩ := zB H
 clear H
 refine yi [4,5,8,9,10,11,12,13,14,15,16,17,18] (fun fr W => ∃ s1:Unit,o1 = .inl s1∧St A N w W [] [za s_0 a0,oB b_1 xk [.pointer a_1_1],oT a_1_1 a1_0]) ?_ ?_
 ·refine zY ?_
  refine x3 (α:=Nat × Int × Unit) [4,5,8,9,10,11,12,13,14,15,16,17,18] (fun x fr W=>(x.1:Int)=(a0.length:Int) - x.2.1∧0 ≤ x.2.1∧forN (fun i s=>kw.b0 zat a0 a1_0 i) x.1 x.2.1 x.2.2=some o1∧fr 8 = .int .i64 x.2.1∧St A N w W [] [za s_0 a0,oB b_1 xk [.pointer a_1_1],oT a_1_1 a1_0]) (fun x=>x.1) (((a0.length:Int) - 0).toNat,0,()) ⟨(by dsimp only; have hle:=Int.natCast_nonneg (a0.length); omega),(Int.le_refl _),(by dsimp only; exact e1),rfl,S⟩ ?_
  rintro ⟨m1,i1,_⟩ g1 u1 ⟨hm1,hl1,e1,q1_i,S⟩
  try dsimp only at hm1
  try dsimp only at hl1
  try dsimp only at e1
  try dsimp only at S
  try dsimp only at q1_i
  refine zg (zd ?_)
  refine wd (xC q1_i rfl) ?_
  refine ze ?_
  refine zg ?_
  refine zU rfl (fun hc2=>?_) (fun hc2=>?_)
  rotate_left
  ·refine yu ?_
   have hge:(a0.length:Int) ≤ i1:=Int.not_lt.1 (of_decide_eq_false hc2)
   obtain rfl:m1=0:=by omega
   replace e1:=forN_0 e1
   exact ⟨rfl,((Dif.self _ _ _).upd rfl _),(),e1,S⟩
  refine zI ?_
  have hlt1:i1 < (a0.length:Int):=of_decide_eq_true hc2
  obtain ⟨m1,rfl⟩ : ∃ m,m1=m + 1:=⟨m1 - 1,by omega⟩
  obtain ⟨q1,H,e1⟩ := forN_s e1
  unfold kw.b0 at H
  try dsimp only at H
  have hb1:=(S.lenFZ 0)
  refine zg ?_
  refine zY ?_
  refine zg (zd ?_)
  refine wd (zp q1_i) ?_
  refine wd (zn rfl) ?_
  refine ze ?_
  refine zg (zd ?_)
  refine wd (vX rfl) ?_
  refine wd (xa rfl) ?_
  refine wd (zp rfl) ?_
  refine wd (does_indexF zz rfl rfl (S.onZ 0) (And.intro (show 0 ≤ i1 by omega) (show i1 < (a0.length:Int) from hlt1)).1 (And.intro (show 0 ≤ i1 by omega) (show i1 < (a0.length:Int) from hlt1)).2) ?_
  obtain ⟨s4,hc5,S⟩ := S.viewTerm 0 (And.intro (show 0 ≤ i1 by omega) (show i1 < (a0.length:Int) from hlt1))
  replace S:St A N w u1 [] [za s4 ((at_ PTerm.z a0 i1).sub),za s_0 a0,oB b_1 xk [.pointer a_1_1],oT a_1_1 a1_0]:=S
  refine wd (zi zq rfl hc5 (Term.len _)) ?_
  obtain ⟨r6,er6,H⟩ := zB H
  obtain ⟨B8,MB8,SB8,back⟩ := S.calln 0 ((.z 0 rfl (.z 2 rfl (.z 3 rfl .nil))))
  refine zJ (yd ca_reduce_known_1 rfl) jJ (reduce_known_1_gst zag (a0:=(at_ PTerm.z a0 i1)) SB8 er6) ?_
  rintro _ w7 ⟨rfl,S2⟩
  replace S:St A N w w7 [] [za s4 ((at_ PTerm.z a0 i1).sub),za s_0 a0,oB b_1 xk [.pointer a_1_1],oT a_1_1 a1_0]:=back _ _ _ _ S2 rfl
  clear back S2 SB8
  refine ze ?_
  refine zU rfl (fun hc9=>?_) (fun hc9=>?_)
  ·replace H:=if_t hc9 H
   refine zg (zd ?_)
   refine wd (zp rfl) ?_
   refine wd (zn rfl) ?_
   refine ze ?_
   refine zC ?_
   refine ⟨_,(z1 (zj rfl)),?_⟩
   replace S:St A N w w7 [] []:=S.arr [] []
   obtain rfl:=jN H
   obtain rfl:=e1
   obtain rfl:=aft_r Ho1
   exact ⟨rfl,S⟩
  replace H:=if_f hc9 H
  refine zI ?_
  refine zd ?_
  refine wd (xx q1_i rfl (c:=i1 + 1) rfl jK jK) ?_
  refine wd (zp rfl) ?_
  refine ze ?_
  replace S:St A N w w7 [] [za s_0 a0,oB b_1 xk [.pointer a_1_1],oT a_1_1 a1_0]:=S.arr [] [1,2,3]
  obtain rfl:=jN H
  exact ⟨rfl,((((((((((((Dif.self _ _ _).upd rfl _).upd rfl _).upd rfl _).upd rfl _).upd rfl _).upd rfl _).upd rfl _).upd rfl _).upd rfl _).upd rfl _).upd rfl _),(m1,i1 + 1,()),⟨(by dsimp only; omega),(by dsimp only; omega),e1,rfl,S⟩,by dsimp only; omega⟩
 rintro g10 u11 ⟨s1,rfl,S⟩
 have H:=Ho1
 dsimp only [aft] at H
 refine zg (zd ?_)
 refine wd (zn rfl) ?_
 refine ze ?_
 refine zC ?_
 refine ⟨_,(z1 (zj rfl)),?_⟩
 replace S:St A N w u11 [] []:=S.arr [] []
 obtain rfl:=jN H
 exact ⟨rfl,S⟩
theorem yh {zat:Tb→PTerm→Option Bool} (zag : ∀ {A:Nat→Prop} {N:Oth} {w:World} {a0:Tb} {a_0:Option Addr} {a1:PTerm} {s_1:SlV} (S:St A N w w [] [oT a_0 a0,za s_1 a1.sub]) {r:Bool} (H:zat a0 a1=some r),Calls PP yj #[.pointer a_0,.agg (Term.C (⟨a1.kind,a1.name,a1.other,a1.form,s_1⟩ : Term)).toArray] w fun e w' => ∃ v,e = .returned v∧(v = .bool r∧St A N w w' [] [])) {A:Nat→Prop} {N:Oth} {w:World} {a0:List PTerm} {s_0:SlV} {a1_0:Tb} {b_1:Nat} {a_1_1:Option Addr} (S:St A N w w [] [za s_0 a0,oB b_1 xk [.pointer a_1_1],oT a_1_1 a1_0]) {r:Bool} (H:kx.g zat a0 a1_0=some r) :
  Calls PP xI #[s_0.v,.func (.func vx) #[] #[.pointer (some ⟨b_1,0,none⟩)]] w fun e w' => ∃ v,e = .returned v∧(v = .bool r∧St A N w w' [] []):=by
 unfold kx.g at H
 refine zE (n:=9) yb rfl rfl jL ?_
 refine zg (zd ?_)
 refine wd (zk rfl) ?_
 refine ze ?_
 refine zg (zd ?_)
 refine wd (xa rfl) ?_
 refine wd (vX rfl) ?_
 obtain ⟨r1,er1,H⟩ := zB H
 obtain ⟨B3,MB3,SB3,back⟩ := S.calln 0 ((.z 0 rfl (.z 1 rfl (.z 2 rfl .nil))))
 refine zJ (zH yr) jJ (yx zag SB3 er1) ?_
 rintro _ w2 ⟨rfl,S2⟩
 replace S:St A N w w2 [] [za s_0 a0,oB b_1 xk [.pointer a_1_1],oT a_1_1 a1_0]:=back _ _ _ _ S2 rfl
 clear back S2 SB3
 refine wd (jn rfl rfl) ?_
 refine wd (zk rfl) ?_
 refine ze ?_
 refine zC ?_
 refine ⟨_,(z1 (zj rfl)),?_⟩
 replace S:St A N w w2 [] []:=S.arr [] []
 obtain rfl:=jN H
 exact ⟨rfl,S⟩
theorem reduce_known_gst {zat:Tb→PTerm→Option Bool} (zag : ∀ {A:Nat→Prop} {N:Oth} {w:World} {a0:Tb} {a_0:Option Addr} {a1:PTerm} {s_1:SlV} (S:St A N w w [] [oT a_0 a0,za s_1 a1.sub]) {r:Bool} (H:zat a0 a1=some r),Calls PP yj #[.pointer a_0,.agg (Term.C (⟨a1.kind,a1.name,a1.other,a1.form,s_1⟩ : Term)).toArray] w fun e w' => ∃ v,e = .returned v∧(v = .bool r∧St A N w w' [] [])) {A:Nat→Prop} {N:Oth} {w:World} {a0:Tb} {a_0:Option Addr} {a1:PTerm} {s_1:SlV} (S:St A N w w [] [oT a_0 a0,za s_1 a1.sub]) {r:Bool} (H:ky.g zat a0 a1=some r) :
  Calls PP yj #[.pointer a_0,.agg (Term.C (⟨a1.kind,a1.name,a1.other,a1.form,s_1⟩ : Term)).toArray] w fun e w' => ∃ v,e = .returned v∧(v = .bool r∧St A N w w' [] []):=by
 unfold ky.g at H
 refine zE (n:=20) fn_reduce_known rfl rfl jL ?_
 refine zg (zd ?_)
 refine wl_box_p rfl jJ fun b2 w1 hw1=>?_
 replace S:St A N w w1 [oB b2 xk [.pointer a_0]] [oT a_0 a0,za s_1 a1.sub]:=S.new hw1
 refine zQ rfl jJ fun b4 w3 hw3=>?_
 replace S:St A N w w3 [oB b4 zb (Term.C (⟨a1.kind,a1.name,a1.other,a1.form,s_1⟩ : Term)),oB b2 xk [.pointer a_0]] [oT a_0 a0,za s_1 a1.sub]:=S.new hw3
 refine wd (zk rfl) ?_
 refine ze ?_
 refine zg ?_
 refine zg ?_
 refine xV 8 (Ext w3) hmix jM jM (Ext.drawn _) ?_
 refine zL (fun v K=>zh xl rfl (o':=0) rfl) ?_
 refine zL (fun v K=>zt xd rfl (((S.ext K).blk 0).cell (Term.get_kind _))) ?_
 refine zL (fun v K=>xb rfl rfl) ?_
 refine zL (fun v K=>zG rfl) ?_
 refine jH (j:=3) (pol:=true) rfl rfl rfl (fun hg v K=>zh yX rfl (o':=3) rfl) ?_
 refine jH (j:=3) (pol:=true) rfl rfl rfl (fun hg v K=>zt xZ (zw hg) (((S.ext K).blk 0).cell (Term.get_form _))) ?_
 refine jH (j:=3) (pol:=true) rfl rfl rfl (fun hg v K=>zt xq rfl (((S.ext K).blk 1).cell rfl)) ?_
 obtain ⟨r5,er5,H⟩ := zB H
 refine wq_gcall (j:=3) (pol:=true) rfl rfl rfl (fun hg v=>zS ca_formula_Table_Len (zX (zw hg) rfl)) (fun hg v K=>(have ⟨M,SS⟩ := (S.ext K).lend ((.z 0 rfl .nil)); quiet (formula_Table_Len_st SS (if_t (by simpa using hg) er5)) (fun v w' h=>⟨h.1,_,_,h.2⟩))) (fun v v' K h=>K.thenExt h) ?_
 refine va fun w6 K=>?_
 replace S:=S.ext K
 clear K
 refine zu (j:=3) (pol:=true) rfl rfl rfl jJ (fun hg=>jn (zw hg) (zw hg)) jJ ?_
 refine wd (xe rfl (fun hp=>(zw (xu hp)))) ?_
 refine ze ?_
 refine zU rfl (fun hc7=>?_) (fun hc7=>?_)
 ·replace H:=if_t hc7 H
  refine zg (zd ?_)
  refine wd (zk rfl) ?_
  refine ze ?_
  refine zC ?_
  refine ⟨_,(z1 (zj rfl)),?_⟩
  replace S:St A N w w6 [] []:=S.arr [] []
  obtain rfl:=jN H
  exact ⟨rfl,S⟩
 replace H:=if_f hc7 H
 refine zI ?_
 refine zg (zd ?_)
 refine wd (zh zO rfl (o':=4) rfl) ?_
 refine wd (zt zF rfl ((S.blk 0).cell (Term.get_sub _))) ?_
 refine wd (does_funcl) ?_
 obtain ⟨r8,er8,H⟩ := zB H
 obtain ⟨B10,MB10,SB10,back⟩ := S.calln 0 ((.z 1 rfl (.o 1 rfl (.z 0 rfl .nil))))
 refine zJ (zH ya) jJ (yh zag SB10 er8) ?_
 rintro _ w9 ⟨rfl,S2⟩
 replace S:St A N w w9 [oB b4 zb (Term.C (⟨a1.kind,a1.name,a1.other,a1.form,s_1⟩ : Term)),oB b2 xk [.pointer a_0]] [oT a_0 a0,za s_1 a1.sub]:=back _ _ _ _ S2 rfl
 clear back S2 SB10
 refine wd (xp rfl) ?_
 refine wd (zk rfl) ?_
 refine ze ?_
 refine zC ?_
 refine ⟨_,(z1 (zj rfl)),?_⟩
 replace S:St A N w w9 [] []:=S.arr [] []
 obtain rfl:=jN H
 exact ⟨rfl,S⟩
theorem reduce_known_st {a0:Tb} {a_0:Option Addr} {a1:PTerm} {s_1:SlV} (S:St A N w w [] [oT a_0 a0,za s_1 a1.sub]) {k:Nat} {r:Bool} (H:ky.f k a0 a1=some r) :
  Calls PP yj #[.pointer a_0,.agg (Term.C (⟨a1.kind,a1.name,a1.other,a1.form,s_1⟩ : Term)).toArray] w fun e w' => ∃ v,e = .returned v∧(v = .bool r∧St A N w w' [] []):=by
 have main : ∀ (k:Nat) {A:Nat→Prop} {N:Oth} {w:World} {a0:Tb} {a_0:Option Addr} {a1:PTerm} {s_1:SlV} (S:St A N w w [] [oT a_0 a0,za s_1 a1.sub]) {r:Bool} (H:ky.f k a0 a1=some r),Calls PP yj #[.pointer a_0,.agg (Term.C (⟨a1.kind,a1.name,a1.other,a1.form,s_1⟩ : Term)).toArray] w fun e w' => ∃ v,e = .returned v∧(v = .bool r∧St A N w w' [] []):=by
  intro k
  induction k with
  | zero=>intro A N w a0 a_0 a1 s_1 S r H; cases H
  | succ k ih=>intro A N w a0 a_0 a1 s_1 S r H; exact reduce_known_gst ih S H
 exact main k S H
theorem reduce_rules_st  (S:St A N w w [] [oPw]) {r:Unit} (H:kz.f  = some r) :
  Calls PP F_reduce_rules #[] w fun e w' => ∃ v,e = .returned v∧(∃ so0:SlV,v=so0.v∧St A N w w' [oS zl 2 RRule.C so0 zD] []):=by
 unfold kz.f at H
 refine zE (n:=10) fn_reduce_rules rfl rfl jL ?_
 refine zg (zd ?_)
 refine wd (yk) ?_
 refine ze ?_
 refine zg (zd ?_)
 refine wd (Does.to (v':=Value.agg (RRule.C (zx 0)).toArray) (xg (vs:=[(0,.func (.func y4) #[] #[]),(1,.func (.func yF) #[] #[])]) uf (xE rfl (xE rfl rfl)) (Bld.one rfl rfl (by rw [RRule.len]; decide) (RRule.set_fits _ (.mk (.func y4) #[] #[])) (Bld.one rfl rfl (by rw [RRule.len]; decide) (RRule.set_does _ (.mk (.func yF) #[] #[])) Bld.nil))) rfl) ?_
 refine wd (Does.to (v':=Value.agg (RRule.C (zx 1)).toArray) (xg (vs:=[(0,.func (.func y5) #[] #[]),(1,.func (.func yG) #[] #[])]) uf (xE rfl (xE rfl rfl)) (Bld.one rfl rfl (by rw [RRule.len]; decide) (RRule.set_fits _ (.mk (.func y5) #[] #[])) (Bld.one rfl rfl (by rw [RRule.len]; decide) (RRule.set_does _ (.mk (.func yG) #[] #[])) Bld.nil))) rfl) ?_
 refine wd (Does.to (v':=Value.agg (RRule.C (zx 2)).toArray) (xg (vs:=[(0,.func (.func y6) #[] #[]),(1,.func (.func yH) #[] #[])]) uf (xE rfl (xE rfl rfl)) (Bld.one rfl rfl (by rw [RRule.len]; decide) (RRule.set_fits _ (.mk (.func y6) #[] #[])) (Bld.one rfl rfl (by rw [RRule.len]; decide) (RRule.set_does _ (.mk (.func yH) #[] #[])) Bld.nil))) rfl) ?_
 refine wd (Does.to (v':=Value.agg (RRule.C (zx 3)).toArray) (xg (vs:=[(0,.func (.func y7) #[] #[]),(1,.func (.func yI) #[] #[])]) uf (xE rfl (xE rfl rfl)) (Bld.one rfl rfl (by rw [RRule.len]; decide) (RRule.set_fits _ (.mk (.func y7) #[] #[])) (Bld.one rfl rfl (by rw [RRule.len]; decide) (RRule.set_does _ (.mk (.func yI) #[] #[])) Bld.nil))) rfl) ?_
 refine wd (Does.to (v':=Value.agg (RRule.C (zx 4)).toArray) (xg (vs:=[(0,.func (.func y8) #[] #[]),(1,.func (.func yn) #[] #[])]) uf (xE rfl (xE rfl rfl)) (Bld.one rfl rfl (by rw [RRule.len]; decide) (RRule.set_fits _ (.mk (.func y8) #[] #[])) (Bld.one rfl rfl (by rw [RRule.len]; decide) (RRule.set_does _ (.mk (.func yn) #[] #[])) Bld.nil))) rfl) ?_
 refine wd (Does.to (v':=Value.agg (RRule.C (zx 5)).toArray) (xg (vs:=[(0,.func (.func yP) #[] #[]),(1,.func (.func yo) #[] #[])]) uf (xE rfl (xE rfl rfl)) (Bld.one rfl rfl (by rw [RRule.len]; decide) (RRule.set_fits _ (.mk (.func yP) #[] #[])) (Bld.one rfl rfl (by rw [RRule.len]; decide) (RRule.set_does _ (.mk (.func yo) #[] #[])) Bld.nil))) rfl) ?_
 refine wd (Does.to (v':=Value.agg (RRule.C (zx 6)).toArray) (xg (vs:=[(0,.func (.func yQ) #[] #[]),(1,.func (.func yp) #[] #[])]) uf (xE rfl (xE rfl rfl)) (Bld.one rfl rfl (by rw [RRule.len]; decide) (RRule.set_fits _ (.mk (.func yQ) #[] #[])) (Bld.one rfl rfl (by rw [RRule.len]; decide) (RRule.set_does _ (.mk (.func yp) #[] #[])) Bld.nil))) rfl) ?_
 refine wd (Does.to (v':=Value.agg (RRule.C (zx 7)).toArray) (xg (vs:=[(0,.func (.func yR) #[] #[]),(1,.func (.func yq) #[] #[])]) uf (xE rfl (xE rfl rfl)) (Bld.one rfl rfl (by rw [RRule.len]; decide) (RRule.set_fits _ (.mk (.func yR) #[] #[])) (Bld.one rfl rfl (by rw [RRule.len]; decide) (RRule.set_does _ (.mk (.func yq) #[] #[])) Bld.nil))) rfl) ?_
 refine ve (C:=RRule.C) (l:=zD) (vs:=[.agg (RRule.C (zx 0)).toArray,.agg (RRule.C (zx 1)).toArray,.agg (RRule.C (zx 2)).toArray,.agg (RRule.C (zx 3)).toArray,.agg (RRule.C (zx 4)).toArray,.agg (RRule.C (zx 5)).toArray,.agg (RRule.C (zx 6)).toArray,.agg (RRule.C (zx 7)).toArray]) xG el_RRule.zero rfl rfl (fun a _=>RRule.len a) jJ rfl jJ fun b2 w1 s3 hBw1 hw1=>?_
 replace S:St A N w w1 [oS zl 2 RRule.C s3 zD] [oPw]:=S.lit hBw1 hw1 jJ
 refine wd (vV rfl) ?_
 refine ze ?_
 refine zC ?_
 refine ⟨_,(z1 (zj rfl)),?_⟩
 replace S:St A N w w1 [oS zl 2 RRule.C s3 zD] []:=S.arr [0] []
 obtain rfl:=jN H
 exact ⟨s3,rfl,S⟩
theorem uT {a0:Tb} {a_0:Option Addr} {a1:PTerm} {s_1:SlV} (S:St A N w w [] [oT a_0 a0,za s_1 a1.sub,oPw]) {k:Nat} {r:Bool × Int} (H:kA.f k a0 a1=some r) :
  Calls PP F_reduce_begun #[.pointer a_0,.agg (Term.C (⟨a1.kind,a1.name,a1.other,a1.form,s_1⟩ : Term)).toArray] w fun e w' => ∃ v,e = .returned v∧(∃ ao0:Option Addr,v = .tuple #[.pointer ao0,.int .i64 r.2]∧St A N w w' [] [oMa ao0 a_0 r.1]):=by
 unfold kA.f at H
 refine zE (n:=23) fn_reduce_begun rfl rfl jL ?_
 refine zg (zd ?_)
 refine zQ rfl jJ fun b2 w1 hw1=>?_
 replace S:St A N w w1 [oB b2 zb (Term.C (⟨a1.kind,a1.name,a1.other,a1.form,s_1⟩ : Term))] [oT a_0 a0,za s_1 a1.sub,oPw]:=S.new hw1
 refine wd (x4 rfl) ?_
 replace S:St A N w w1 [oB b2 zb (Term.C (⟨a1.kind,a1.name,a1.other,a1.form,s_1⟩ : Term))] [oMa none a_0 false,oT a_0 a0,za s_1 a1.sub,oPw]:=S.nil_oMaZ
 refine wd (zn rfl) ?_
 refine ze ?_
 refine zg (zg (zd ?_))
 refine wd (zN rfl) ?_
 obtain ⟨r3,er3,H⟩ := zB H
 obtain ⟨B5,MB5,SB5,back⟩ := S.calln 0 ((.z 1 rfl .nil))
 refine zJ (zH ca_formula_Table_Copy) jJ (formula_Table_Copy_st SB5 er3) ?_
 rintro _ w4 ⟨a6,rfl,hnilw4,S2⟩
 replace S:St A N w w4 [oT a6 r3,oB b2 zb (Term.C (⟨a1.kind,a1.name,a1.other,a1.form,s_1⟩ : Term))] [oMa none a_0 false,oT a_0 a0,za s_1 a1.sub,oPw]:=back _ _ _ _ S2 rfl
 clear back S2 SB5
 refine wd (does_isnilp yO rfl rfl hnilw4) ?_
 refine ze ?_
 refine zU rfl (fun hc7=>?_) (fun hc7=>?_)
 ·replace H:=if_t hc7 H
  refine zg (zd ?_)
  refine wd (x4 rfl) ?_
  replace S:St A N w w4 [oT a6 r3,oB b2 zb (Term.C (⟨a1.kind,a1.name,a1.other,a1.form,s_1⟩ : Term))] [oMa none a_0 false,oMa none a_0 false,oT a_0 a0,za s_1 a1.sub,oPw]:=S.nil_oMaZ
  refine wd (zn rfl) ?_
  refine ze ?_
  refine zC ?_
  refine ⟨_,(xB (zj rfl) (zj rfl)),?_⟩
  replace S:St A N w w4 [] [oMa none a_0 false]:=S.arr [] [0]
  obtain rfl:=jN H
  exact ⟨none,rfl,S⟩
 replace H:=if_f hc7 H
 refine zI ?_
 refine zg (zg (zd ?_))
 refine wd (zi zq rfl ((S.blk 1).all _ (Term.len _)) (Term.len _)) ?_
 obtain ⟨r8,er8,H⟩ := zB H
 obtain ⟨B10,MB10,SB10,back⟩ := S.calln 0 ((.z 2 rfl .nil))
 refine zJ (zH vM) jJ (vO (a0:=a1) SB10 er8) ?_
 rintro _ w9 ⟨rfl,S2⟩
 replace S:St A N w w9 [oT a6 r3,oB b2 zb (Term.C (⟨a1.kind,a1.name,a1.other,a1.form,s_1⟩ : Term))] [oMa none a_0 false,oT a_0 a0,za s_1 a1.sub,oPw]:=back _ _ _ _ S2 rfl
 clear back S2 SB10
 refine wd (zn rfl) ?_
 refine ze ?_
 refine zg (zd ?_)
 refine wd (zp rfl) ?_
 refine wd (xN rfl rfl) ?_
 refine ze ?_
 refine zU rfl (fun hc11=>?_) (fun hc11=>?_)
 ·replace H:=if_t hc11 H
  refine zg (zd ?_)
  refine wd (zp rfl) ?_
  refine wd (x4 rfl) ?_
  replace S:St A N w w9 [oT a6 r3,oB b2 zb (Term.C (⟨a1.kind,a1.name,a1.other,a1.form,s_1⟩ : Term))] [oMa none a_0 false,oMa none a_0 false,oT a_0 a0,za s_1 a1.sub,oPw]:=S.nil_oMaZ
  refine wd (zn rfl) ?_
  refine ze ?_
  refine zC ?_
  refine ⟨_,(xB (zj rfl) (zj rfl)),?_⟩
  replace S:St A N w w9 [] [oMa none a_0 false]:=S.arr [] [0]
  obtain rfl:=jN H
  exact ⟨none,rfl,S⟩
 replace H:=if_f hc11 H
 refine zI ?_
 refine zg (zg (zd ?_))
 refine wd (zN rfl) ?_
 refine wd (zi zq rfl ((S.blk 1).all _ (Term.len _)) (Term.len _)) ?_
 obtain ⟨r12,er12,H⟩ := zB H
 obtain ⟨B14,MB14,SB14,back⟩ := S.calln 0 ((.z 1 rfl (.z 2 rfl .nil)))
 refine zJ (zH ca_reduce_known) jJ (reduce_known_st (a1:=a1) SB14 er12) ?_
 rintro _ w13 ⟨rfl,S2⟩
 replace S:St A N w w13 [oT a6 r3,oB b2 zb (Term.C (⟨a1.kind,a1.name,a1.other,a1.form,s_1⟩ : Term))] [oMa none a_0 false,oT a_0 a0,za s_1 a1.sub,oPw]:=back _ _ _ _ S2 rfl
 clear back S2 SB14
 refine wd (xp rfl) ?_
 refine ze ?_
 refine zU rfl (fun hc15=>?_) (fun hc15=>?_)
 ·replace H:=if_t hc15 H
  refine zg (zd ?_)
  refine wd (x4 rfl) ?_
  replace S:St A N w w13 [oT a6 r3,oB b2 zb (Term.C (⟨a1.kind,a1.name,a1.other,a1.form,s_1⟩ : Term))] [oMa none a_0 false,oMa none a_0 false,oT a_0 a0,za s_1 a1.sub,oPw]:=S.nil_oMaZ
  refine wd (zn rfl) ?_
  refine ze ?_
  refine zC ?_
  refine ⟨_,(xB (zj rfl) (zj rfl)),?_⟩
  replace S:St A N w w13 [] [oMa none a_0 false]:=S.arr [] [0]
  obtain rfl:=jN H
  exact ⟨none,rfl,S⟩
 replace H:=if_f hc15 H
 refine zI ?_
 refine zg (zd ?_)
 refine wd (zN rfl) ?_
 obtain ⟨r16,er16,H⟩ := zB H
 obtain ⟨B18,MB18,SB18,back⟩ := S.calln 0 ((.z 3 rfl .nil))
 refine zJ (zH ca_reduce_rules) jJ (reduce_rules_st SB18 er16) ?_
 rintro _ w17 ⟨s19,rfl,S2⟩
 replace S:St A N w w17 [oS zl 2 RRule.C s19 zD,oT a6 r3,oB b2 zb (Term.C (⟨a1.kind,a1.name,a1.other,a1.form,s_1⟩ : Term))] [oMa none a_0 false,oT a_0 a0,za s_1 a1.sub,oPw]:=back _ _ _ _ S2 rfl
 clear back S2 SB18
 refine wd (Does.to (v' := .agg (Machine.C (⟨a_0,s19⟩ : Machine)).toArray) (xg (vs:=[(0,.pointer a_0),(1,s19.v)]) bu_Machine (xE rfl (xE rfl rfl)) (Bld.one rfl rfl (by rw [Machine.len]; decide) (Machine.set_t _ _) (Bld.one rfl (SlV.one _ _ rfl) (by rw [Machine.len]; decide) (Machine.set_rules _ _) Bld.nil))) rfl) ?_
 refine zQ rfl jJ fun b21 w20 hw20=>?_
 replace S:St A N w w20 [oB b21 xv (Machine.C (⟨a_0,s19⟩ : Machine)),oS zl 2 RRule.C s19 zD,oT a6 r3,oB b2 zb (Term.C (⟨a1.kind,a1.name,a1.other,a1.form,s_1⟩ : Term))] [oMa none a_0 false,oT a_0 a0,za s_1 a1.sub,oPw]:=S.new hw20
 replace S:=S.front 1
 replace S:=S.front 1
 replace S:St A N w w20 [oMa (some ⟨b21,0,none⟩) a_0 true,oT a6 r3,oB b2 zb (Term.C (⟨a1.kind,a1.name,a1.other,a1.form,s_1⟩ : Term))] [oMa none a_0 false,oT a_0 a0,za s_1 a1.sub,oPw]:=S.shut_oMa rfl
 replace S:St A N w w20 [oT a6 r3,oB b2 zb (Term.C (⟨a1.kind,a1.name,a1.other,a1.form,s_1⟩ : Term))] [oMa (some ⟨b21,0,none⟩) a_0 true,oMa none a_0 false,oT a_0 a0,za s_1 a1.sub,oPw]:=S.frzO 0
 refine wd (x4 rfl) ?_
 refine wd (zn rfl) ?_
 refine ze ?_
 refine zC ?_
 refine ⟨_,(xB (zj rfl) (zj rfl)),?_⟩
 replace S:St A N w w20 [] [oMa (some ⟨b21,0,none⟩) a_0 true]:=S.arr [] [0]
 obtain rfl:=jN H
 exact ⟨(some ⟨b21,0,none⟩),rfl,S⟩
end
section
open Go.RowKit
namespace Gw
variable {Z:List OA}
theorem tl10 {a0 a1 a2 a3 a4 a5 a6 a7 a8 a9:OA} : ∀ z ∈ Z,z ∈ a0 :: a1 :: a2 :: a3 :: a4 :: a5 :: a6 :: a7 :: a8 :: a9 :: Z:=fun z q => .tail _ (.tail _ (.tail _ (.tail _ (.tail _ (.tail _ (.tail _ (.tail _ (.tail _ (.tail _ (q))))))))))
theorem tl11 {a0 a1 a2 a3 a4 a5 a6 a7 a8 a9 a10:OA} : ∀ z ∈ Z,z ∈ a0 :: a1 :: a2 :: a3 :: a4 :: a5 :: a6 :: a7 :: a8 :: a9 :: a10 :: Z:=fun z q => .tail _ (.tail _ (.tail _ (.tail _ (.tail _ (.tail _ (.tail _ (.tail _ (.tail _ (.tail _ (.tail _ (q)))))))))))
end Gw
end
section
open Gw
theorem term_clone_nil {zaz:PTerm→Option PTerm} {a0 r:PTerm} (h:a0.sub=[]) (H:kF.g zaz a0=some r):some a0=some r:=by
 unfold kF.g at H
 rw [h] at H
 cases a0
 simp only [PTerm.sub] at h
 subst h
 exact H
end
end Go.Proofs.YtmggdbbmmkkplaaDoor
