/- Texts put together. -/
import Derived.Test.YtmggdbbmmkkplaaGreatDoorMRKeeps4
set_option linter.unusedVariables false
set_option linter.unusedSimpArgs false
namespace Go.Proofs.YtmggdbbmmkkplaaGreatDoor
section
open Gw Go.RowKit
set_option maxHeartbeats 4000000
set_option maxRecDepth 20000
variable {A:Nat→Prop} {N:Oth} {w:World}
theorem vV {a0:PChecker} {a_0:Option Addr} {a1:Int} {a2:Int} (S:St A N w w [] [oT a_0 a0.t]) {r:Nd × (Option (Int × List Int))} (H:zdx.f a0 a1 a2=some r) :
  Calls PP kZ #[.agg (Checker.C (⟨a_0⟩ : Checker)).toArray,.int .i64 a1,.int .i64 a2] w fun e w' => ∃ v,e = .returned v∧(∃ vo0:Value,v = .tuple #[.agg (Nd.C r.1).toArray,vo0]∧St A N w w' [oE vo0 r.2] []):=by
 unfold zdx.f at H
 refine zy (n:=26) Tryz.func142 rfl rfl zbC (zb (za ?_))
 refine zE rfl zbA fun b2 w1 hw1=>?_
 replace S:=S.new hw1
 refine zQ kw zbA fun b4 w3 hw3=>?_
 replace S:=S.new hw3
 refine wd (zI rfl) (zd (zb (za (wd (zf fl_Checker_t rfl (o':=0) rfl) (wd (zl xp rfl ((S.blk 1).cell (Checker.get_t _))) (wd (zi rfl) ?_))))))
 obtain ⟨r5,er5,H⟩ := zq H
 obtain ⟨B7,MB7,SB7,back⟩ := S.calln 0 ((.z 0 rfl .nil))
 refine zu (zt yT) zbA (yZ SB7 er5) ?_
 rintro _ w6 ⟨rfl,S2⟩
 replace S:=back _ _ _ _ S2 rfl
 clear back S2 SB7
 refine wd (zU rfl) (wd (zn rfl rfl) (wd (zn rfl rfl) ?_))
 refine zQ kw zbA fun b9 w8 hw8=>?_
 replace S:=S.new hw8
 refine zT yo rfl rfl (S.blk 0) (Nd.len _) (by rw [Nd.len]; decide) (Nd.one _) (xe (Nd.len _)) fun w10 B hw10 zw10=>?_
 replace S:=S.store 0 B hw10
 clear B
 refine wd (zj rfl) (zd (zb (zb (za (wd (zf fl_Nd_kind rfl (o':=0) rfl) (wd (zl jS rfl ((S.blk 0).cell (Nd.get_kind _))) (wd (zi rfl) (wd (xr rfl rfl) (zd ?_)))))))))
 refine zJ rfl (fun hc11=>?_) (fun hc11=>?_)
 ·replace H:=if_t hc11 H
  refine zb (za (wd (zm yo rfl ((S.blk 0).all _ (Nd.len _)) (Nd.len _)) (wd (Does.to (v' := .agg (Refusal.C (⟨130,SlV.nil⟩ : Refusal)).toArray) (z1 (vs:=[(0,.int .i64 130)]) kC (xT rfl rfl) (Bld.one rfl rfl (by rw [Refusal.len]; decide) (Refusal.set_code _ _) Bld.nil)) rfl) ?_)))
  refine zE rfl zbA fun b13 w12 hw12=>?_
  replace S:=S.new hw12
  refine wd (does_makeInterface rfl) ?_
  replace S:=((S.nil xh 1 IC).front 1).mkE
  refine zT yo rfl rfl (S.blk 2) (Nd.len _) (by rw [Nd.len]; decide) (Nd.one _) (xe (Nd.len _)) fun w14 B hw14 zw14=>?_
  replace S:=S.store 2 B hw14
  clear B
  refine wd (zI rfl) (zd (zr ?_))
  refine ⟨_,(xd (yw yo rfl ((S.blk 0).all _ (Nd.len _)) (Nd.len _)) (ze rfl)),?_⟩
  replace S:=S.arr [1] []
  obtain rfl:=zbE H
  exact ⟨(.iface xS (.pointer (some ⟨b13,0,none⟩))),rfl,S⟩
 replace H:=if_f hc11 H
 refine zx (zb (za (wd (zm yo rfl ((S.blk 0).all _ (Nd.len _)) (Nd.len _)) ?_)))
 refine zT yo rfl rfl (S.blk 1) (Nd.len _) (by rw [Nd.len]; decide) (Nd.one _) (xe (Nd.len _)) fun w15 B hw15 zw15=>?_
 replace S:=S.store 1 B hw15
 clear B
 refine wd (zI rfl) (zd (zr ?_))
 replace S:=S.nilE
 refine ⟨_,(xd (yw yo rfl ((S.blk 1).all _ (Nd.len _)) (Nd.len _)) (ze rfl)),?_⟩
 replace S:=S.arr [0] []
 obtain rfl:=zbE H
 exact ⟨.nilIface,rfl,S⟩
theorem yr {zen:PChecker→PTerm→(List (ByteArray × Int))→Option (Int × (Option (Int × List Int)))} (zdX : ∀ {A:Nat→Prop} {N:Oth} {w:World} {a0:PChecker} {a_0:Option Addr} {a1:PTerm} {s_1:SlV} {a2:List (ByteArray × Int)} {a_2:Option Addr} (S:St A N w w [] [oT a_0 a0.t,zg s_1 a1.sub,yc a_2 a2,oEt]) {r:Int × (Option (Int × List Int))} (H:zen a0 a1 a2=some r),Calls PP x5 #[.agg (Checker.C (⟨a_0⟩ : Checker)).toArray,.agg (tmC a1 s_1).toArray,.pointer a_2] w fun e w' => ∃ v,e = .returned v∧(∃ vo0:Value,v = .tuple #[.int .i64 r.1,vo0]∧St A N w w' [oE vo0 r.2] [])) {A:Nat→Prop} {N:Oth} {w:World} {a0:PChecker} {a_0:Option Addr} {a1:PTerm} {s_1:SlV} {a2:Int} {a3:List (ByteArray × Int)} {a_3:Option Addr} (S:St A N w w [] [oT a_0 a0.t,zg s_1 a1.sub,yc a_3 a3,oEt]) {r:Int × (Option (Int × List Int))} (H:zdy.g zen a0 a1 a2 a3=some r) :
  Calls PP k0 #[.agg (Checker.C (⟨a_0⟩ : Checker)).toArray,.agg (tmC a1 s_1).toArray,.int .i64 a2,.pointer a_3] w fun e w' => ∃ v,e = .returned v∧(∃ vo0:Value,v = .tuple #[.int .i64 r.1,vo0]∧St A N w w' [oE vo0 r.2] []):=by
 unfold zdy.g at H
 refine zy (n:=27) Tryz.func96 rfl rfl zbC (zb (za ?_))
 refine zE rfl zbA fun b2 w1 hw1=>?_
 replace S:=S.new hw1
 refine zE rfl zbA fun b4 w3 hw3=>?_
 replace S:=S.new hw3
 refine wd (zh rfl) (wd (zI rfl) (zd (zb ?_)))
 refine wc_ws hmix fun w10 K=>?_
 replace S:=S.ext K
 clear K
 obtain ⟨hi11,H⟩ := xb H
 obtain ⟨s12,hc13,S⟩ := S.viewTerm 1 (zM hi11)
 replace S:=S.zs [1,2,3,4,0]
 refine vp 0 7 [] zbD zbA zbD
  (V:=fun i v u=>match i with
  | _=>True) ?_ ?_
 ·intro i v u u' hi hx hv
  match i,hv with
  | _,_=>exact trivial
 refine zC (fun v K=>zm xw rfl (((S.ext K).blk 1).all _ (Checker.len _)) (Checker.len _)) rfl (zC (fun v K=>zf zG rfl (o':=4) rfl) rfl (zC (fun v K=>zl zB rfl (((S.ext K).blk 0).cell (Term.get_sub _))) rfl (zC (fun v K=>zi rfl) rfl (zC (fun v K=>does_indexF zz rfl rfl ((S.ext K).onZ 1) (zM hi11).1 (zM hi11).2) rfl (zC (fun v K=>zm zR rfl (hc13.chg K (fun x=>x)) (Term.len _)) rfl (zC (fun v K=>zw rfl) rfl ?_))))))
 refine y8 fun g w14 K hV=>?_
 replace S:=S.ext K
 clear K hV
 refine jE 7 9 zbD zbA ?_
 obtain ⟨r16,er16,H⟩ := zq H
 obtain ⟨B18,MB18,SB18,back⟩ := S.calln 0 ((.z 0 rfl (.z 4 rfl (.z 2 rfl (.z 3 rfl .nil)))))
 refine zu (zt uQ) zbA (zdX (a0:=a0) (a1:=(kd a1 a2)) SB18 er16) ?_
 rintro _ w17 ⟨v19,rfl,S2⟩
 replace S:=back _ _ _ _ S2 rfl
 clear back S2 SB18
 refine wd (zU rfl) (zd ⟨rfl,?_⟩)
 refine vp 9 12 [] zbD zbA zbD
  (V:=fun i v u=>match i with
  | _=>True) ?_ ?_
 ·intro i v u u' hi hx hv
  match i,hv with
  | _,_=>exact trivial
 refine zC (fun v K=>zn rfl rfl) rfl (zC (fun v K=>zn rfl rfl) rfl (zC (fun v K=>zh rfl) rfl ?_))
 refine y8 fun g w20 K hV=>?_
 replace S:=S.ext K
 clear K hV
 refine kT 12 zbD zbA (wd (zI rfl) (zd (zb (za (wd (zi rfl) (wd (zi rfl) (wd (z7 rfl) ?_)))))))
 obtain ⟨r22,er22,H⟩ := zq H
 obtain ⟨B24,MB24,SB24,back⟩ := S.calln 1 ((.z 3 rfl .nil))
 refine zu (zt ca_types_at) zbA (types_at_st (a1:=r16.2) SB24 er22) ?_
 rintro v25 w23 ⟨_,rfl,S2⟩
 replace S:=back _ _ _ _ S2 rfl
 clear back S2 SB24
 refine wd (zh rfl) (wd (zI rfl) (zd (zr ?_)))
 refine ⟨_,(xd (ze rfl) (ze rfl)),?_⟩
 replace S:=S.arr [0] []
 obtain rfl:=zbE H
 exact ⟨v25,rfl,S⟩
theorem xA {zem:PChecker→PTerm→(List (ByteArray × Int))→Int→Option (Option (Int × List Int))} (zdW : ∀ {A:Nat→Prop} {N:Oth} {w:World} {a0:PChecker} {a_0:Option Addr} {a1:PTerm} {s_1:SlV} {a2:List (ByteArray × Int)} {a_2:Option Addr} {a3:Int} (S:St A N w w [] [oT a_0 a0.t,zg s_1 a1.sub,yc a_2 a2,oEt]) {r:(Option (Int × List Int))} (H:zem a0 a1 a2 a3=some r),Calls PP xX #[.agg (Checker.C (⟨a_0⟩ : Checker)).toArray,.agg (tmC a1 s_1).toArray,.pointer a_2,.int .i64 a3] w fun e w' => ∃ v,e = .returned v∧(∃ vo0:Value,v=vo0∧St A N w w' [oE vo0 r] [])) {A:Nat→Prop} {N:Oth} {w:World} {a0:PChecker} {a_0:Option Addr} {a1:PTerm} {s_1:SlV} {a2:Int} {a3:List (ByteArray × Int)} {a_3:Option Addr} {a4:Int} (S:St A N w w [] [oT a_0 a0.t,zg s_1 a1.sub,yc a_3 a3,oEt]) {r:(Option (Int × List Int))} (H:zdz.g zem a0 a1 a2 a3 a4=some r) :
  Calls PP kz #[.agg (Checker.C (⟨a_0⟩ : Checker)).toArray,.agg (tmC a1 s_1).toArray,.int .i64 a2,.pointer a_3,.int .i64 a4] w fun e w' => ∃ v,e = .returned v∧(∃ vo0:Value,v=vo0∧St A N w w' [oE vo0 r] []):=by
 unfold zdz.g at H
 refine zy (n:=22) Tryz.func95 rfl rfl zbC (zb (za ?_))
 refine zE rfl zbA fun b2 w1 hw1=>?_
 replace S:=S.new hw1
 refine zE rfl zbA fun b4 w3 hw3=>?_
 replace S:=S.new hw3
 refine wd (zI rfl) (zd (zb ?_))
 obtain ⟨hi5,H⟩ := xb H
 obtain ⟨s6,hc7,S⟩ := S.viewTerm 1 (zM hi5)
 replace S:=S.zs [1,2,3,4,0]
 obtain ⟨r8,er8,H⟩ := zq H
 refine wc_semi 10 [9]
  (fun i v u=>match i with
  | 9 => ∃ v9:Value,v=v9 ∧ ∃ F,(oE v9 r8).holds u F ∧ ∀ i,F i→w3.heap.size ≤ i
  | _=>True) hmix zbD zbD ?_ ?_
 ·intro i v u u' hi hx hv
  match i,hv with
  | 9,⟨b,e1,F,hb,hl⟩ => exact ⟨b,e1,F,OA.loc _ hb hx (fun _ _ x=>x),hl⟩
  | 0,_=>exact trivial
  | 1,_=>exact trivial
  | 2,_=>exact trivial
  | 3,_=>exact trivial
  | 4,_=>exact trivial
  | 5,_=>exact trivial
  | 6,_=>exact trivial
  | 7,_=>exact trivial
  | 8,_=>exact trivial
  | _ + 10,_=>exact trivial
 refine zC (fun v K=>zi rfl) rfl (zC (fun v K=>zm xw rfl (((S.ext K).blk 1).all _ (Checker.len _)) (Checker.len _)) rfl (zC (fun v K=>zf zG rfl (o':=4) rfl) rfl (zC (fun v K=>zl zB rfl (((S.ext K).blk 0).cell (Term.get_sub _))) rfl (zC (fun v K=>zi rfl) rfl (zC (fun v K=>does_indexF zz rfl rfl ((S.ext K).onZ 1) (zM hi5).1 (zM hi5).2) rfl (zC (fun v K=>zm zR rfl (hc7.chg K (fun x=>x)) (Term.len _)) rfl (zC (fun v K=>zw rfl) rfl (zC (fun v K=>zi rfl) rfl ?_))))))))
 refine un (fun g v K G=>(have ⟨M,SS⟩ := (S.ext K).lend ((.z 0 rfl (.z 4 rfl (.z 2 rfl (.z 3 rfl .nil))))); ⟨_,_,zF jC (zK rfl (zK rfl (zK rfl (zK rfl rfl)))),newc (zdW (a0:=a0) (a1:=(kd a1 a2)) SS er8) fun _ _ ⟨v9,hv,h⟩ => ⟨h.frame,v9,hv,h.newP.elim fun F hF=>⟨F,hF.1,fun i hi=>by have:=hF.2 i hi; have:=K.size; omega⟩⟩⟩)) rfl ?_
 refine y8 fun g w10 K hV=>?_
 obtain ⟨v9,hv119,F9,hb9,hf9⟩ := hV 9 rfl zbA
 replace S:=S.add (b:=oE v9 r8) K hb9 hf9
 clear K hV
 obtain ⟨r12,er12,H⟩ := zq H
 obtain ⟨B14,MB14,SB14,back⟩ := S.calln 1 ((.z 3 rfl .nil))
 refine zu (zF ca_types_at (zK rfl (zK hv119 rfl))) zbA (types_at_st (a1:=r8) SB14 er12) ?_
 rintro v15 w13 ⟨_,rfl,S2⟩
 replace S:=back _ _ _ _ S2 rfl
 clear back S2 SB14
 refine wd (zI rfl) (zd (zr ?_))
 refine ⟨_,(zS (ze rfl)),?_⟩
 replace S:=S.arr [0] []
 obtain rfl:=zbE H
 exact ⟨v15,rfl,S⟩
theorem yq {zen:PChecker→PTerm→(List (ByteArray × Int))→Option (Int × (Option (Int × List Int)))} (zdX : ∀ {A:Nat→Prop} {N:Oth} {w:World} {a0:PChecker} {a_0:Option Addr} {a1:PTerm} {s_1:SlV} {a2:List (ByteArray × Int)} {a_2:Option Addr} (S:St A N w w [] [oT a_0 a0.t,zg s_1 a1.sub,yc a_2 a2,oEt]) {r:Int × (Option (Int × List Int))} (H:zen a0 a1 a2=some r),Calls PP x5 #[.agg (Checker.C (⟨a_0⟩ : Checker)).toArray,.agg (tmC a1 s_1).toArray,.pointer a_2] w fun e w' => ∃ v,e = .returned v∧(∃ vo0:Value,v = .tuple #[.int .i64 r.1,vo0]∧St A N w w' [oE vo0 r.2] [])) {A:Nat→Prop} {N:Oth} {w:World} {a0:PChecker} {a_0:Option Addr} {a1:PTerm} {s_1:SlV} {a2:List (ByteArray × Int)} {a_2:Option Addr} {a3:Int} (S:St A N w w [] [oT a_0 a0.t,zg s_1 a1.sub,yc a_2 a2,oEt]) {r:Nd × (Option (Int × List Int))} (H:zdA.g zen a0 a1 a2 a3=some r) :
  Calls PP kY #[.agg (Checker.C (⟨a_0⟩ : Checker)).toArray,.agg (tmC a1 s_1).toArray,.pointer a_2,.int .i64 a3] w fun e w' => ∃ v,e = .returned v∧(∃ vo0:Value,v = .tuple #[.agg (Nd.C r.1).toArray,vo0]∧St A N w w' [oE vo0 r.2] []):=by
 unfold zdA.g at H
 refine zy (n:=29) Tryz.func94 rfl rfl zbC (zb (za ?_))
 refine zE rfl zbA fun b2 w1 hw1=>?_
 replace S:=S.new hw1
 refine zE rfl zbA fun b4 w3 hw3=>?_
 replace S:=S.new hw3
 refine zQ kw zbA fun b6 w5 hw5=>?_
 replace S:=S.new hw5
 refine wd (zI rfl) (zd (zb (za (wd (zm xw rfl ((S.blk 2).all _ (Checker.len _)) (Checker.len _)) (wd (zm zR rfl ((S.blk 1).all _ (Term.len _)) (Term.len _)) (wd (zw rfl) ?_))))))
 obtain ⟨r7,er7,H⟩ := zq H
 obtain ⟨B9,MB9,SB9,back⟩ := S.calln 0 ((.z 0 rfl (.z 1 rfl (.z 2 rfl (.z 3 rfl .nil)))))
 refine zu (zt yy) zbA (yr zdX (a0:=a0) (a1:=a1) SB9 er7) ?_
 rintro _ w8 ⟨v10,rfl,S2⟩
 replace S:=back _ _ _ _ S2 rfl
 clear back S2 SB9
 refine wd (zU rfl) (wd (zn rfl rfl) (wd (zn rfl rfl) (wd (zh rfl) (wd (zI rfl) (zd (zb (zb (za (wd (z7 rfl) (wd (does_neE ue rfl rfl (S.onO 0)) (zd ?_)))))))))))
 refine zJ rfl (fun hc11=>?_) (fun hc11=>?_)
 ·replace H:=if_t hc11 H
  refine zb (za (wd (vr bu_Nd Bld.nil) (wd (z7 rfl) ?_)))
  refine zT yo rfl rfl (S.blk 1) (Nd.len _) (by rw [Nd.len]; decide) (Nd.one _) (xe (Nd.len _)) fun w12 B hw12 zw12=>?_
  replace S:=S.store 1 B hw12
  clear B
  refine wd (zI rfl) (zd (zr ?_))
  refine ⟨_,(xd (yw yo rfl ((S.blk 0).all _ (Nd.len _)) (Nd.len _)) (ze rfl)),?_⟩
  replace S:=S.arr [1] []
  obtain rfl:=zbE H
  exact ⟨v10,rfl,S⟩
 replace H:=if_f hc11 H
 refine zx (zb (za (wd (zm xw rfl ((S.blk 3).all _ (Checker.len _)) (Checker.len _)) (wd (zi rfl) (wd (zi rfl) ?_)))))
 obtain ⟨r13,er13,H⟩ := zq H
 obtain ⟨B15,MB15,SB15,back⟩ := S.calln 0 ((.z 0 rfl .nil))
 refine zu (zt vU) zbA (vV (a0:=a0) SB15 er13) ?_
 rintro _ w14 ⟨v16,rfl,S2⟩
 replace S:=back _ _ _ _ S2 rfl
 clear back S2 SB15
 refine wd (zn rfl rfl) (wd (zn rfl rfl) ?_)
 refine zT yo rfl rfl (S.blk 2) (Nd.len _) (by rw [Nd.len]; decide) (Nd.one _) (xe (Nd.len _)) fun w17 B hw17 zw17=>?_
 replace S:=S.store 2 B hw17
 clear B
 refine wd (zI rfl) (zd (zr ?_))
 refine ⟨_,(xd (yw yo rfl ((S.blk 0).all _ (Nd.len _)) (Nd.len _)) (ze rfl)),?_⟩
 replace S:=S.arr [1] []
 obtain rfl:=zbE H
 exact ⟨v16,rfl,S⟩
theorem types_checker_told_gst {zen:PChecker→PTerm→(List (ByteArray × Int))→Option (Int × (Option (Int × List Int)))} (zdX : ∀ {A:Nat→Prop} {N:Oth} {w:World} {a0:PChecker} {a_0:Option Addr} {a1:PTerm} {s_1:SlV} {a2:List (ByteArray × Int)} {a_2:Option Addr} (S:St A N w w [] [oT a_0 a0.t,zg s_1 a1.sub,yc a_2 a2,oEt]) {r:Int × (Option (Int × List Int))} (H:zen a0 a1 a2=some r),Calls PP x5 #[.agg (Checker.C (⟨a_0⟩ : Checker)).toArray,.agg (tmC a1 s_1).toArray,.pointer a_2] w fun e w' => ∃ v,e = .returned v∧(∃ vo0:Value,v = .tuple #[.int .i64 r.1,vo0]∧St A N w w' [oE vo0 r.2] [])) {zem:PChecker→PTerm→(List (ByteArray × Int))→Int→Option (Option (Int × List Int))} (zdW : ∀ {A:Nat→Prop} {N:Oth} {w:World} {a0:PChecker} {a_0:Option Addr} {a1:PTerm} {s_1:SlV} {a2:List (ByteArray × Int)} {a_2:Option Addr} {a3:Int} (S:St A N w w [] [oT a_0 a0.t,zg s_1 a1.sub,yc a_2 a2,oEt]) {r:(Option (Int × List Int))} (H:zem a0 a1 a2 a3=some r),Calls PP xX #[.agg (Checker.C (⟨a_0⟩ : Checker)).toArray,.agg (tmC a1 s_1).toArray,.pointer a_2,.int .i64 a3] w fun e w' => ∃ v,e = .returned v∧(∃ vo0:Value,v=vo0∧St A N w w' [oE vo0 r] [])) {A:Nat→Prop} {N:Oth} {w:World} {a0:PChecker} {a_0:Option Addr} {a1:PTerm} {s_1:SlV} {a2:List (ByteArray × Int)} {a_2:Option Addr} (S:St A N w w [] [oT a_0 a0.t,zg s_1 a1.sub,yc a_2 a2,oEt]) {r:Int × (Option (Int × List Int))} (H:zdB.g zen zem a0 a1 a2=some r) :
  Calls PP x5 #[.agg (Checker.C (⟨a_0⟩ : Checker)).toArray,.agg (tmC a1 s_1).toArray,.pointer a_2] w fun e w' => ∃ v,e = .returned v∧(∃ vo0:Value,v = .tuple #[.int .i64 r.1,vo0]∧St A N w w' [oE vo0 r.2] []):=by
 unfold zdB.g at H
 refine zy (n:=175) Tryz.func61 rfl rfl zbC (zb (za ?_))
 refine zE rfl zbA fun b2 w1 hw1=>?_
 replace S:=S.new hw1
 refine zE rfl zbA fun b4 w3 hw3=>?_
 replace S:=S.new hw3
 refine wd (zh rfl) (wd (zI rfl) (zd (zb (zb (za (wd (zf xj rfl (o':=0) rfl) (wd (zl zY rfl ((S.blk 0).cell (Term.get_kind _))) (zd ?_))))))))
 refine zO (zb (za (wd (zV rfl rfl) (wd (zj rfl) (zd ?_)))))
 refine zJ rfl (fun hc5=>?_) (fun hc5=>?_)
 ·replace H:=if_t hc5 H
  refine zb (za (wd (zw rfl) (wd (zf xK rfl (o':=1) rfl) (wd (zl xk rfl ((S.blk 0).cell (Term.get_name _))) ?_))))
  obtain ⟨r6,er6,H⟩ := zq H
  obtain ⟨B8,MB8,SB8,back⟩ := S.calln 0 ((.z 2 rfl .nil))
  refine zu (zt ca_types_scope_find) zbA (types_scope_find_st SB8 er6) ?_
  rintro _ w7 ⟨v9,rfl,S2⟩
  replace S:=back _ _ _ _ S2 rfl
  clear back S2 SB8
  refine wd (zn rfl rfl) (wd (zn rfl rfl) (wd (zh rfl) (wd (zI rfl) (zd (zr ?_)))))
  refine ⟨_,(xd (ze rfl) (ze rfl)),?_⟩
  replace S:=S.arr [0] []
  obtain rfl:=zbE H
  exact ⟨v9,rfl,S⟩
 replace H:=if_f hc5 H
 refine zb (za (wd (zV rfl rfl) (wd (zj rfl) (zd ?_))))
 refine zJ rfl (fun hc10=>?_) (fun hc10=>?_)
 ·replace H:=if_t hc10 H
  refine zb (za (wd (zm xw rfl ((S.blk 1).all _ (Checker.len _)) (Checker.len _)) (wd (zm zR rfl ((S.blk 0).all _ (Term.len _)) (Term.len _)) (wd (zw rfl) ?_))))
  obtain ⟨r11,er11,H⟩ := zq H
  obtain ⟨B13,MB13,SB13,back⟩ := S.calln 0 ((.z 0 rfl (.z 1 rfl (.z 2 rfl (.z 3 rfl .nil)))))
  refine zu (zt yx) zbA (yq zdX (a0:=a0) (a1:=a1) SB13 er11) ?_
  rintro _ w12 ⟨v14,rfl,S2⟩
  replace S:=back _ _ _ _ S2 rfl
  clear back S2 SB13
  refine wd (zU rfl) (wd (zn rfl rfl) (wd (zn rfl rfl) ?_))
  refine zQ kw zbA fun b16 w15 hw15=>?_
  replace S:=S.new hw15
  refine zT yo rfl rfl (S.blk 0) (Nd.len _) (by rw [Nd.len]; decide) (Nd.one _) (xe (Nd.len _)) fun w17 B hw17 zw17=>?_
  replace S:=S.store 0 B hw17
  clear B
  refine wd (zI rfl) (zd (zb (zb (za (wd (z7 rfl) (wd (does_neE ue rfl rfl (S.onO 1)) (zd ?_)))))))
  refine zJ rfl (fun hc18=>?_) (fun hc18=>?_)
  ·replace H:=if_t hc18 H
   refine zb (za (wd (z7 rfl) (wd (zh rfl) (wd (zI rfl) (zd (zr ?_))))))
   refine ⟨_,(xd (ze rfl) (ze rfl)),?_⟩
   replace S:=S.arr [1] []
   obtain rfl:=zbE H
   exact ⟨v14,rfl,S⟩
  replace H:=if_f hc18 H
  refine zx (zb ?_)
  obtain ⟨r19,er19,H⟩ := zq H
  refine wc_semi 8 [7]
   (fun i v u=>match i with
   | 7 => ∃ v20:Value,v=v20 ∧ ∃ F,(oE v20 r19).holds u F ∧ ∀ i,F i→w17.heap.size ≤ i
   | _=>True) hmix zbD zbD ?_ ?_
  ·intro i v u u' hi hx hv
   match i,hv with
   | 7,⟨b,e1,F,hb,hl⟩ => exact ⟨b,e1,F,OA.loc _ hb hx (fun _ _ x=>x),hl⟩
   | 0,_=>exact trivial
   | 1,_=>exact trivial
   | 2,_=>exact trivial
   | 3,_=>exact trivial
   | 4,_=>exact trivial
   | 5,_=>exact trivial
   | 6,_=>exact trivial
   | _ + 8,_=>exact trivial
  refine zC (fun v K=>zf uE rfl (o':=3) rfl) rfl (zC (fun v K=>zl xv rfl (((S.ext K).blk 0).cell (Nd.get_r _))) rfl (zC (fun v K=>zm xw rfl (((S.ext K).blk 3).all _ (Checker.len _)) (Checker.len _)) rfl (zC (fun v K=>zm zR rfl (((S.ext K).blk 2).all _ (Term.len _)) (Term.len _)) rfl (zC (fun v K=>zw rfl) rfl (zC (fun v K=>zf uD rfl (o':=2) rfl) rfl (zC (fun v K=>zl xv rfl (((S.ext K).blk 0).cell (Nd.get_l _))) rfl ?_))))))
  refine un (fun g v K G=>(have ⟨M,SS⟩ := (S.ext K).lend ((.z 0 rfl (.z 1 rfl (.z 2 rfl (.z 3 rfl .nil))))); ⟨_,_,zF xE (zK rfl (zK rfl (zK rfl (zK rfl (zK rfl rfl))))),newc (xA zdW (a0:=a0) (a1:=a1) SS er19) fun _ _ ⟨v20,hv,h⟩ => ⟨h.frame,v20,hv,h.newP.elim fun F hF=>⟨F,hF.1,fun i hi=>by have:=hF.2 i hi; have:=K.size; omega⟩⟩⟩)) rfl ?_
  refine y8 fun g w21 K hV=>?_
  obtain ⟨v20,hv227,F7,hb7,hf7⟩ := hV 7 rfl zbA
  replace S:=S.add (b:=oE v20 r19) K hb7 hf7
  clear K hV
  refine wd (zh rfl) (wd (zI hv227) (zd (zr ?_)))
  refine ⟨_,(xd (ze rfl) (ze rfl)),?_⟩
  replace S:=S.arr [0] []
  obtain rfl:=zbE H
  exact ⟨v20,rfl,S⟩
 replace H:=if_f hc10 H
 refine zb (za (wd (zV rfl rfl) (wd (zj rfl) (zd ?_))))
 refine zJ rfl (fun hc23=>?_) (fun hc23=>?_)
 ·replace H:=if_t hc23 H
  refine zb (za (wd (zm xw rfl ((S.blk 1).all _ (Checker.len _)) (Checker.len _)) (wd (zm zR rfl ((S.blk 0).all _ (Term.len _)) (Term.len _)) (wd (zw rfl) ?_))))
  obtain ⟨r24,er24,H⟩ := zq H
  obtain ⟨B26,MB26,SB26,back⟩ := S.calln 0 ((.z 0 rfl (.z 1 rfl (.z 2 rfl (.z 3 rfl .nil)))))
  refine zu (zt yx) zbA (yq zdX (a0:=a0) (a1:=a1) SB26 er24) ?_
  rintro _ w25 ⟨v27,rfl,S2⟩
  replace S:=back _ _ _ _ S2 rfl
  clear back S2 SB26
  refine wd (zU rfl) (wd (zn rfl rfl) (wd (zn rfl rfl) ?_))
  refine zQ kw zbA fun b29 w28 hw28=>?_
  replace S:=S.new hw28
  refine zT yo rfl rfl (S.blk 0) (Nd.len _) (by rw [Nd.len]; decide) (Nd.one _) (xe (Nd.len _)) fun w30 B hw30 zw30=>?_
  replace S:=S.store 0 B hw30
  clear B
  refine wd (zI rfl) (zd (zb (za (wd (zf uD rfl (o':=2) rfl) (wd (zl xv rfl ((S.blk 0).cell (Nd.get_l _))) (wd (z7 rfl) (wd (zh rfl) (wd (zI rfl) (zd (zr ?_))))))))))
  refine ⟨_,(xd (ze rfl) (ze rfl)),?_⟩
  replace S:=S.arr [1] []
  obtain rfl:=zbE H
  exact ⟨v27,rfl,S⟩
 replace H:=if_f hc23 H
 refine zb (za (wd (zV rfl rfl) (wd (zj rfl) (zd ?_))))
 refine zJ rfl (fun hc31=>?_) (fun hc31=>?_)
 ·replace H:=if_t hc31 H
  refine zb (za (wd (zm xw rfl ((S.blk 1).all _ (Checker.len _)) (Checker.len _)) (wd (zm zR rfl ((S.blk 0).all _ (Term.len _)) (Term.len _)) (wd (zw rfl) ?_))))
  obtain ⟨r32,er32,H⟩ := zq H
  obtain ⟨B34,MB34,SB34,back⟩ := S.calln 0 ((.z 0 rfl (.z 1 rfl (.z 2 rfl (.z 3 rfl .nil)))))
  refine zu (zt yx) zbA (yq zdX (a0:=a0) (a1:=a1) SB34 er32) ?_
  rintro _ w33 ⟨v35,rfl,S2⟩
  replace S:=back _ _ _ _ S2 rfl
  clear back S2 SB34
  refine wd (zU rfl) (wd (zn rfl rfl) (wd (zn rfl rfl) ?_))
  refine zQ kw zbA fun b37 w36 hw36=>?_
  replace S:=S.new hw36
  refine zT yo rfl rfl (S.blk 0) (Nd.len _) (by rw [Nd.len]; decide) (Nd.one _) (xe (Nd.len _)) fun w38 B hw38 zw38=>?_
  replace S:=S.store 0 B hw38
  clear B
  refine wd (zI rfl) (zd (zb (za (wd (zf uE rfl (o':=3) rfl) (wd (zl xv rfl ((S.blk 0).cell (Nd.get_r _))) (wd (z7 rfl) (wd (zh rfl) (wd (zI rfl) (zd (zr ?_))))))))))
  refine ⟨_,(xd (ze rfl) (ze rfl)),?_⟩
  replace S:=S.arr [1] []
  obtain rfl:=zbE H
  exact ⟨v35,rfl,S⟩
 replace H:=if_f hc31 H
 refine zb (za (wd (zV rfl rfl) (wd (zj rfl) (zd ?_))))
 refine zJ rfl (fun hc39=>?_) (fun hc39=>?_)
 ·replace H:=if_t hc39 H
  refine zb (zb (za (wd (zf fl_Checker_t rfl (o':=0) rfl) (wd (zl xp rfl ((S.blk 1).cell (Checker.get_t _))) (wd (zf yG rfl (o':=3) rfl) (wd (zl xv rfl ((S.blk 0).cell (Term.get_form _))) ?_))))))
  obtain ⟨r40,er40,H⟩ := zq H
  obtain ⟨B42,MB42,SB42,back⟩ := S.calln 0 ((.z 0 rfl .nil))
  refine zu (zt yT) zbA (yZ SB42 er40) ?_
  rintro _ w41 ⟨rfl,S2⟩
  replace S:=back _ _ _ _ S2 rfl
  clear back S2 SB42
  refine wd (zU rfl) (wd (zn rfl rfl) (wd (zn rfl rfl) ?_))
  refine zQ kw zbA fun b44 w43 hw43=>?_
  replace S:=S.new hw43
  refine zT yo rfl rfl (S.blk 0) (Nd.len _) (by rw [Nd.len]; decide) (Nd.one _) (xe (Nd.len _)) fun w45 B hw45 zw45=>?_
  replace S:=S.store 0 B hw45
  clear B
  refine wd (zj rfl) (zd (zb (za (wd (zA rfl) (wd (xg rfl) (zd ?_))))))
  refine zJ rfl (fun hc46=>?_) (fun hc46=>?_)
  ·replace H:=if_t hc46 H
   refine zb (za (wd (Does.to (v' := .agg (Refusal.C (⟨31,SlV.nil⟩ : Refusal)).toArray) (z1 (vs:=[(0,.int .i64 31)]) kC (xT rfl rfl) (Bld.one rfl rfl (by rw [Refusal.len]; decide) (Refusal.set_code _ _) Bld.nil)) rfl) ?_))
   refine zE rfl zbA fun b48 w47 hw47=>?_
   replace S:=S.new hw47
   refine wd (does_makeInterface rfl) ?_
   replace S:=((S.nil xh 1 IC).front 1).mkE
   refine wd (zh rfl) (wd (zI rfl) (zd (zr ?_)))
   refine ⟨_,(xd (ze rfl) (ze rfl)),?_⟩
   replace S:=S.arr [0] []
   obtain rfl:=zbE H
   exact ⟨(.iface xS (.pointer (some ⟨b48,0,none⟩))),rfl,S⟩
  replace H:=if_f hc46 H
  refine zx (zb ?_)
  obtain ⟨r49,er49,H⟩ := zq H
  refine wc_semi 8 [7]
   (fun i v u=>match i with
   | 7 => ∃ v50:Value,v=v50 ∧ ∃ F,(oE v50 r49).holds u F ∧ ∀ i,F i→w45.heap.size ≤ i
   | _=>True) hmix zbD zbD ?_ ?_
  ·intro i v u u' hi hx hv
   match i,hv with
   | 7,⟨b,e1,F,hb,hl⟩ => exact ⟨b,e1,F,OA.loc _ hb hx (fun _ _ x=>x),hl⟩
   | 0,_=>exact trivial
   | 1,_=>exact trivial
   | 2,_=>exact trivial
   | 3,_=>exact trivial
   | 4,_=>exact trivial
   | 5,_=>exact trivial
   | 6,_=>exact trivial
   | _ + 8,_=>exact trivial
  refine zC (fun v K=>zf yG rfl (o':=3) rfl) rfl (zC (fun v K=>zl xv rfl (((S.ext K).blk 1).cell (Term.get_form _))) rfl (zC (fun v K=>zm xw rfl (((S.ext K).blk 2).all _ (Checker.len _)) (Checker.len _)) rfl (zC (fun v K=>zm zR rfl (((S.ext K).blk 1).all _ (Term.len _)) (Term.len _)) rfl (zC (fun v K=>zw rfl) rfl (zC (fun v K=>zf yG rfl (o':=3) rfl) rfl (zC (fun v K=>zl xv rfl (((S.ext K).blk 1).cell (Term.get_form _))) rfl ?_))))))
  refine un (fun g v K G=>(have ⟨M,SS⟩ := (S.ext K).lend ((.z 0 rfl (.z 1 rfl (.z 2 rfl (.z 3 rfl .nil))))); ⟨_,_,zF xE (zK rfl (zK rfl (zK rfl (zK rfl (zK rfl rfl))))),newc (xA zdW (a0:=a0) (a1:=a1) SS er49) fun _ _ ⟨v50,hv,h⟩ => ⟨h.frame,v50,hv,h.newP.elim fun F hF=>⟨F,hF.1,fun i hi=>by have:=hF.2 i hi; have:=K.size; omega⟩⟩⟩)) rfl ?_
  refine y8 fun g w51 K hV=>?_
  obtain ⟨v50,hv527,F7,hb7,hf7⟩ := hV 7 rfl zbA
  replace S:=S.add (b:=oE v50 r49) K hb7 hf7
  clear K hV
  refine wd (zh rfl) (wd (zI hv527) (zd (zr ?_)))
  refine ⟨_,(xd (ze rfl) (ze rfl)),?_⟩
  replace S:=S.arr [0] []
  obtain rfl:=zbE H
  exact ⟨v50,rfl,S⟩
 replace H:=if_f hc39 H
 refine zb (za (wd (zV rfl rfl) (wd (zj rfl) (zd ?_))))
 refine zJ rfl (fun hc53=>?_) (fun hc53=>?_)
 ·replace H:=if_t hc53 H
  refine zb (za (wd (zm xw rfl ((S.blk 1).all _ (Checker.len _)) (Checker.len _)) (wd (zm zR rfl ((S.blk 0).all _ (Term.len _)) (Term.len _)) (wd (zw rfl) ?_))))
  obtain ⟨r54,er54,H⟩ := zq H
  obtain ⟨B56,MB56,SB56,back⟩ := S.calln 0 ((.z 0 rfl (.z 1 rfl (.z 2 rfl (.z 3 rfl .nil)))))
  refine zu (zt yy) zbA (yr zdX (a0:=a0) (a1:=a1) SB56 er54) ?_
  rintro _ w55 ⟨v57,rfl,S2⟩
  replace S:=back _ _ _ _ S2 rfl
  clear back S2 SB56
  refine wd (zU rfl) (wd (zn rfl rfl) (wd (zn rfl rfl) (wd (zh rfl) (wd (zI rfl) (zd (zb (zb (za (wd (z7 rfl) (wd (does_neE ue rfl rfl (S.onO 0)) (zd ?_)))))))))))
  refine zJ rfl (fun hc58=>?_) (fun hc58=>?_)
  ·replace H:=if_t hc58 H
   refine zb (za (wd (z7 rfl) (wd (zh rfl) (wd (zI rfl) (zd (zr ?_))))))
   refine ⟨_,(xd (ze rfl) (ze rfl)),?_⟩
   replace S:=S.arr [0] []
   obtain rfl:=zbE H
   exact ⟨v57,rfl,S⟩
  replace H:=if_f hc58 H
  refine zx (zb ?_)
  refine wc_ws hmix fun w62 K=>?_
  replace S:=S.ext K
  clear K
  refine vp 0 7 [6] zbD zbA zbD
   (V:=fun i v u=>match i with
   | 6 => ∃ b:Nat,v=Value.pointer (some ⟨b,0,none⟩)∧Blk u b uB (Scope.C ⟨a1.name,r54.1,a_2⟩)∧w62.heap.size ≤ b
   | _=>True) ?_ ?_
  ·intro i v u u' hi hx hv
   match i,hv with
   | 6,⟨b,e1,hb,hl⟩ => exact ⟨b,e1,hb.ext hx,hl⟩
   | 0,_=>exact trivial
   | 1,_=>exact trivial
   | 2,_=>exact trivial
   | 3,_=>exact trivial
   | 4,_=>exact trivial
   | 5,_=>exact trivial
   | _ + 7,_=>exact trivial
  refine zC (fun v K=>zm xw rfl (((S.ext K).blk 2).all _ (Checker.len _)) (Checker.len _)) rfl (zC (fun v K=>zm zR rfl (((S.ext K).blk 1).all _ (Term.len _)) (Term.len _)) rfl (zC (fun v K=>zw rfl) rfl (zC (fun v K=>zf xK rfl (o':=1) rfl) rfl (zC (fun v K=>zl xk rfl (((S.ext K).blk 1).cell (Term.get_name _))) rfl (zC (fun v K=>zi rfl) rfl ?_)))))
  refine un (fun g v K G=>⟨_,_,zF yi (zK rfl (zK rfl (zK rfl rfl))),newc (yk _ _ _ _) fun _ _ ⟨b,hv,hx,hb,hl⟩ => ⟨hx,b,hv,hb,by have:=K.size; omega⟩⟩) rfl ?_
  refine y8 fun g w64 K hV=>?_
  obtain ⟨b63,hv656,hb6,hf6⟩ := hV 6 rfl zbA
  replace S:=(S.newAt K hb6 hf6).pushScope 0 2
  clear K hV
  refine jE 7 8 zbD zbA ?_
  obtain ⟨r66,er66,H⟩ := zq H
  obtain ⟨B68,MB68,SB68,back⟩ := S.calln 0 ((.z 1 rfl (.z 2 rfl (.z 0 rfl (.z 4 rfl .nil)))))
  refine zu (zF yy (zK rfl (zK rfl (zK rfl (zK hv656 rfl))))) zbA (yr zdX (a0:=a0) (a1:=a1) SB68 er66) ?_
  rintro _ w67 ⟨v69,rfl,S2⟩
  replace S:=back _ _ _ _ S2 rfl
  clear back S2 SB68
  refine zd ⟨rfl,?_⟩
  refine vp 8 10 [] zbD zbA zbD
   (V:=fun i v u=>match i with
   | _=>True) ?_ ?_
  ·intro i v u u' hi hx hv
   match i,hv with
   | _,_=>exact trivial
  refine zC (fun v K=>zn rfl rfl) rfl (zC (fun v K=>zn rfl rfl) rfl ?_)
  refine y8 fun g w70 K hV=>?_
  replace S:=S.ext K
  clear K hV
  refine kT 10 zbD zbA (wd (zh rfl) (wd (zI rfl) (zd (zr ?_))))
  refine ⟨_,(xd (ze rfl) (ze rfl)),?_⟩
  replace S:=S.arr [0] []
  obtain rfl:=zbE H
  exact ⟨v69,rfl,S⟩
 replace H:=if_f hc53 H
 refine zb (za (wd (zV rfl rfl) (wd (zj rfl) (zd ?_))))
 refine zJ rfl (fun hc72=>?_) (fun hc72=>?_)
 ·replace H:=if_t hc72 H
  refine zb (za (wd (zm xw rfl ((S.blk 1).all _ (Checker.len _)) (Checker.len _)) (wd (zm zR rfl ((S.blk 0).all _ (Term.len _)) (Term.len _)) (wd (zw rfl) ?_))))
  obtain ⟨r73,er73,H⟩ := zq H
  obtain ⟨B75,MB75,SB75,back⟩ := S.calln 0 ((.z 0 rfl (.z 1 rfl (.z 2 rfl (.z 3 rfl .nil)))))
  refine zu (zt yx) zbA (yq zdX (a0:=a0) (a1:=a1) SB75 er73) ?_
  rintro _ w74 ⟨v76,rfl,S2⟩
  replace S:=back _ _ _ _ S2 rfl
  clear back S2 SB75
  refine wd (zU rfl) (wd (zn rfl rfl) (wd (zn rfl rfl) ?_))
  refine zQ kw zbA fun b78 w77 hw77=>?_
  replace S:=S.new hw77
  refine zT yo rfl rfl (S.blk 0) (Nd.len _) (by rw [Nd.len]; decide) (Nd.one _) (xe (Nd.len _)) fun w79 B hw79 zw79=>?_
  replace S:=S.store 0 B hw79
  clear B
  refine wd (zI rfl) (zd (zb (zb (za (wd (z7 rfl) (wd (does_neE ue rfl rfl (S.onO 1)) (zd ?_)))))))
  refine zJ rfl (fun hc80=>?_) (fun hc80=>?_)
  ·replace H:=if_t hc80 H
   refine zb (za (wd (z7 rfl) (wd (zh rfl) (wd (zI rfl) (zd (zr ?_))))))
   refine ⟨_,(xd (ze rfl) (ze rfl)),?_⟩
   replace S:=S.arr [1] []
   obtain rfl:=zbE H
   exact ⟨v76,rfl,S⟩
  replace H:=if_f hc80 H
  refine zx (zb ?_)
  refine wc_ws hmix fun w84 K=>?_
  replace S:=S.ext K
  clear K
  refine vp 0 8 [7] zbD zbA zbD
   (V:=fun i v u=>match i with
   | 7 => ∃ b:Nat,v=Value.pointer (some ⟨b,0,none⟩)∧Blk u b uB (Scope.C ⟨a1.name,r73.1.l,a_2⟩)∧w84.heap.size ≤ b
   | _=>True) ?_ ?_
  ·intro i v u u' hi hx hv
   match i,hv with
   | 7,⟨b,e1,hb,hl⟩ => exact ⟨b,e1,hb.ext hx,hl⟩
   | 0,_=>exact trivial
   | 1,_=>exact trivial
   | 2,_=>exact trivial
   | 3,_=>exact trivial
   | 4,_=>exact trivial
   | 5,_=>exact trivial
   | 6,_=>exact trivial
   | _ + 8,_=>exact trivial
  refine zC (fun v K=>zm xw rfl (((S.ext K).blk 3).all _ (Checker.len _)) (Checker.len _)) rfl (zC (fun v K=>zm zR rfl (((S.ext K).blk 2).all _ (Term.len _)) (Term.len _)) rfl (zC (fun v K=>zw rfl) rfl (zC (fun v K=>zf xK rfl (o':=1) rfl) rfl (zC (fun v K=>zl xk rfl (((S.ext K).blk 2).cell (Term.get_name _))) rfl (zC (fun v K=>zf uD rfl (o':=2) rfl) rfl (zC (fun v K=>zl xv rfl (((S.ext K).blk 0).cell (Nd.get_l _))) rfl ?_))))))
  refine un (fun g v K G=>⟨_,_,zF yi (zK rfl (zK rfl (zK rfl rfl))),newc (yk _ _ _ _) fun _ _ ⟨b,hv,hx,hb,hl⟩ => ⟨hx,b,hv,hb,by have:=K.size; omega⟩⟩) rfl ?_
  refine y8 fun g w86 K hV=>?_
  obtain ⟨b85,hv877,hb7,hf7⟩ := hV 7 rfl zbA
  replace S:=(S.newAt K hb7 hf7).pushScope 0 2
  clear K hV
  refine jE 8 10 zbD zbA ?_
  obtain ⟨r88,er88,H⟩ := zq H
  obtain ⟨B90,MB90,SB90,back⟩ := S.calln 0 ((.z 1 rfl (.z 2 rfl (.z 0 rfl (.z 4 rfl .nil)))))
  refine zu (zF yy (zK rfl (zK rfl (zK rfl (zK hv877 rfl))))) zbA (yr zdX (a0:=a0) (a1:=a1) SB90 er88) ?_
  rintro _ w89 ⟨v91,rfl,S2⟩
  replace S:=back _ _ _ _ S2 rfl
  clear back S2 SB90
  refine wd (zU rfl) (zd ⟨rfl,?_⟩)
  refine vp 10 13 [] zbD zbA zbD
   (V:=fun i v u=>match i with
   | _=>True) ?_ ?_
  ·intro i v u u' hi hx hv
   match i,hv with
   | _,_=>exact trivial
  refine zC (fun v K=>zn rfl rfl) rfl (zC (fun v K=>zn rfl rfl) rfl (zC (fun v K=>zh rfl) rfl ?_))
  refine y8 fun g w92 K hV=>?_
  replace S:=S.ext K
  clear K hV
  refine kT 13 zbD zbA (wd (zI rfl) (zd (zb (zb (za (wd (z7 rfl) (wd (does_neE ue rfl rfl (S.onO 0)) (zd ?_))))))))
  refine zJ rfl (fun hc94=>?_) (fun hc94=>?_)
  ·replace H:=if_t hc94 H
   refine zb (za (wd (z7 rfl) (wd (zh rfl) (wd (zI rfl) (zd (zr ?_))))))
   refine ⟨_,(xd (ze rfl) (ze rfl)),?_⟩
   replace S:=S.arr [0] []
   obtain rfl:=zbE H
   exact ⟨v91,rfl,S⟩
  replace H:=if_f hc94 H
  refine zx (zb ?_)
  refine wc_ws hmix fun w98 K=>?_
  replace S:=S.ext K
  clear K
  refine vp 0 8 [7] zbD zbA zbD
   (V:=fun i v u=>match i with
   | 7 => ∃ b:Nat,v=Value.pointer (some ⟨b,0,none⟩)∧Blk u b uB (Scope.C ⟨a1.other,r73.1.r,a_2⟩)∧w98.heap.size ≤ b
   | _=>True) ?_ ?_
  ·intro i v u u' hi hx hv
   match i,hv with
   | 7,⟨b,e1,hb,hl⟩ => exact ⟨b,e1,hb.ext hx,hl⟩
   | 0,_=>exact trivial
   | 1,_=>exact trivial
   | 2,_=>exact trivial
   | 3,_=>exact trivial
   | 4,_=>exact trivial
   | 5,_=>exact trivial
   | 6,_=>exact trivial
   | _ + 8,_=>exact trivial
  refine zC (fun v K=>zm xw rfl (((S.ext K).blk 4).all _ (Checker.len _)) (Checker.len _)) rfl (zC (fun v K=>zm zR rfl (((S.ext K).blk 3).all _ (Term.len _)) (Term.len _)) rfl (zC (fun v K=>zw rfl) rfl (zC (fun v K=>zf vH rfl (o':=2) rfl) rfl (zC (fun v K=>zl xk rfl (((S.ext K).blk 3).cell (Term.get_other _))) rfl (zC (fun v K=>zf uE rfl (o':=3) rfl) rfl (zC (fun v K=>zl xv rfl (((S.ext K).blk 1).cell (Nd.get_r _))) rfl ?_))))))
  refine un (fun g v K G=>⟨_,_,zF yi (zK rfl (zK rfl (zK rfl rfl))),newc (yk _ _ _ _) fun _ _ ⟨b,hv,hx,hb,hl⟩ => ⟨hx,b,hv,hb,by have:=K.size; omega⟩⟩) rfl ?_
  refine y8 fun g w100 K hV=>?_
  obtain ⟨b99,hv1017,hb7,hf7⟩ := hV 7 rfl zbA
  replace S:=(S.newAt K hb7 hf7).pushScope 0 3
  clear K hV
  refine jE 8 10 zbD zbA ?_
  obtain ⟨r102,er102,H⟩ := zq H
  obtain ⟨B104,MB104,SB104,back⟩ := S.calln 0 ((.z 2 rfl (.z 3 rfl (.z 0 rfl (.z 5 rfl .nil)))))
  refine zu (zF yy (zK rfl (zK rfl (zK rfl (zK hv1017 rfl))))) zbA (yr zdX (a0:=a0) (a1:=a1) SB104 er102) ?_
  rintro _ w103 ⟨v105,rfl,S2⟩
  replace S:=back _ _ _ _ S2 rfl
  clear back S2 SB104
  refine wd (zU rfl) (zd ⟨rfl,?_⟩)
  refine vp 10 13 [] zbD zbA zbD
   (V:=fun i v u=>match i with
   | _=>True) ?_ ?_
  ·intro i v u u' hi hx hv
   match i,hv with
   | _,_=>exact trivial
  refine zC (fun v K=>zn rfl rfl) rfl (zC (fun v K=>zn rfl rfl) rfl (zC (fun v K=>zh rfl) rfl ?_))
  refine y8 fun g w106 K hV=>?_
  replace S:=S.ext K
  clear K hV
  refine kT 13 zbD zbA (wd (zI rfl) (zd (zb (zb (za (wd (z7 rfl) (wd (does_eqE ue rfl rfl (S.onO 0)) (wd (zA rfl) ?_))))))))
  refine wg (fun hg=>zi rfl) ?_
  refine wg (fun hg=>zi rfl) ?_
  refine wg (fun hg=>xr (zp hg) (zp hg)) (wd (zZ rfl (fun hp=>(zp (xz hp)))) (zd ?_))
  refine zJ rfl (fun hc108=>?_) (fun hc108=>?_)
  ·replace H:=if_t hc108 H
   refine za (wd (Does.to (v' := .agg (Refusal.C (⟨130,SlV.nil⟩ : Refusal)).toArray) (z1 (vs:=[(0,.int .i64 130)]) kC (xT rfl rfl) (Bld.one rfl rfl (by rw [Refusal.len]; decide) (Refusal.set_code _ _) Bld.nil)) rfl) ?_)
   refine zE rfl zbA fun b110 w109 hw109=>?_
   replace S:=S.new hw109
   refine wd (does_makeInterface rfl) ?_
   replace S:=((S.nil xh 1 IC).front 1).mkE
   refine wd (zI rfl) (zd (zb (za (wd (zi rfl) (wd (z7 rfl) (wd (zh rfl) (wd (zI rfl) (zd (zr ?_)))))))))
   refine ⟨_,(xd (ze rfl) (ze rfl)),?_⟩
   replace S:=S.arr [0] []
   obtain rfl:=zbE H
   exact ⟨(.iface xS (.pointer (some ⟨b110,0,none⟩))),rfl,S⟩
  ·replace H:=if_f hc108 H
   refine zx (zb (za (wd (zi rfl) (wd (z7 rfl) (wd (zh rfl) (wd (zI rfl) (zd (zr ?_))))))))
   refine ⟨_,(xd (ze rfl) (ze rfl)),?_⟩
   replace S:=S.arr [0] []
   obtain rfl:=zbE H
   exact ⟨v105,rfl,S⟩
 replace H:=if_f hc72 H
 refine zx (zb (za (wd (Does.to (v' := .agg (Refusal.C (⟨132,SlV.nil⟩ : Refusal)).toArray) (z1 (vs:=[(0,.int .i64 132)]) kC (xT rfl rfl) (Bld.one rfl rfl (by rw [Refusal.len]; decide) (Refusal.set_code _ _) Bld.nil)) rfl) ?_)))
 refine zE rfl zbA fun b112 w111 hw111=>?_
 replace S:=S.new hw111
 refine wd (does_makeInterface rfl) ?_
 replace S:=((S.nil xh 1 IC).front 1).mkE
 refine wd (zh rfl) (wd (zI rfl) (zd (zr ?_)))
 refine ⟨_,(xd (ze rfl) (ze rfl)),?_⟩
 replace S:=S.arr [0] []
 obtain rfl:=zbE H
 exact ⟨(.iface xS (.pointer (some ⟨b112,0,none⟩))),rfl,S⟩
theorem zaX {zen:PChecker→PTerm→(List (ByteArray × Int))→Option (Int × (Option (Int × List Int)))} (zdX : ∀ {A:Nat→Prop} {N:Oth} {w:World} {a0:PChecker} {a_0:Option Addr} {a1:PTerm} {s_1:SlV} {a2:List (ByteArray × Int)} {a_2:Option Addr} (S:St A N w w [] [oT a_0 a0.t,zg s_1 a1.sub,yc a_2 a2,oEt]) {r:Int × (Option (Int × List Int))} (H:zen a0 a1 a2=some r),Calls PP x5 #[.agg (Checker.C (⟨a_0⟩ : Checker)).toArray,.agg (tmC a1 s_1).toArray,.pointer a_2] w fun e w' => ∃ v,e = .returned v∧(∃ vo0:Value,v = .tuple #[.int .i64 r.1,vo0]∧St A N w w' [oE vo0 r.2] [])) {zem:PChecker→PTerm→(List (ByteArray × Int))→Int→Option (Option (Int × List Int))} (zdW : ∀ {A:Nat→Prop} {N:Oth} {w:World} {a0:PChecker} {a_0:Option Addr} {a1:PTerm} {s_1:SlV} {a2:List (ByteArray × Int)} {a_2:Option Addr} {a3:Int} (S:St A N w w [] [oT a_0 a0.t,zg s_1 a1.sub,yc a_2 a2,oEt]) {r:(Option (Int × List Int))} (H:zem a0 a1 a2 a3=some r),Calls PP xX #[.agg (Checker.C (⟨a_0⟩ : Checker)).toArray,.agg (tmC a1 s_1).toArray,.pointer a_2,.int .i64 a3] w fun e w' => ∃ v,e = .returned v∧(∃ vo0:Value,v=vo0∧St A N w w' [oE vo0 r] [])) {A:Nat→Prop} {N:Oth} {w:World} {a0:PChecker} {a_0:Option Addr} {a1:PTerm} {s_1:SlV} {a2:List (ByteArray × Int)} {a_2:Option Addr} {a3:Int} (S:St A N w w [] [oT a_0 a0.t,zg s_1 a1.sub,yc a_2 a2,oEt]) {r:(Option (Int × List Int))} (H:zdC.g zen zem a0 a1 a2 a3=some r) :
  Calls PP xX #[.agg (Checker.C (⟨a_0⟩ : Checker)).toArray,.agg (tmC a1 s_1).toArray,.pointer a_2,.int .i64 a3] w fun e w' => ∃ v,e = .returned v∧(∃ vo0:Value,v=vo0∧St A N w w' [oE vo0 r] []):=by
 unfold zdC.g at H
 refine zy (n:=186) Tryz.func86 rfl rfl zbC (zb (za ?_))
 refine zE rfl zbA fun b2 w1 hw1=>?_
 replace S:=S.new hw1
 refine zE rfl zbA fun b4 w3 hw3=>?_
 replace S:=S.new hw3
 refine wd (zI rfl) (zd (zb (zb (za (wd (zf xj rfl (o':=0) rfl) (wd (zl zY rfl ((S.blk 0).cell (Term.get_kind _))) (zd ?_)))))))
 refine zO (zb (za (wd (zV rfl rfl) (wd (zj rfl) (zd ?_)))))
 refine zJ rfl (fun hc5=>?_) (fun hc5=>?_)
 ·replace H:=if_t hc5 H
  refine zb (za (wd (zm xw rfl ((S.blk 1).all _ (Checker.len _)) (Checker.len _)) (wd (zi rfl) ?_)))
  obtain ⟨r6,er6,H⟩ := zq H
  obtain ⟨B8,MB8,SB8,back⟩ := S.calln 0 ((.z 0 rfl .nil))
  refine zu (zt vU) zbA (vV (a0:=a0) SB8 er6) ?_
  rintro _ w7 ⟨v9,rfl,S2⟩
  replace S:=back _ _ _ _ S2 rfl
  clear back S2 SB8
  refine wd (zU rfl) (wd (zn rfl rfl) (wd (zn rfl rfl) ?_))
  refine zQ kw zbA fun b11 w10 hw10=>?_
  replace S:=S.new hw10
  refine zT yo rfl rfl (S.blk 0) (Nd.len _) (by rw [Nd.len]; decide) (Nd.one _) (xe (Nd.len _)) fun w12 B hw12 zw12=>?_
  replace S:=S.store 0 B hw12
  clear B
  refine wd (zI rfl) (zd (zb (zb (za (wd (z7 rfl) (wd (does_neE ue rfl rfl (S.onO 1)) (zd ?_)))))))
  refine zJ rfl (fun hc13=>?_) (fun hc13=>?_)
  ·replace H:=if_t hc13 H
   refine zb (za (wd (z7 rfl) (wd (zI rfl) (zd (zr ?_)))))
   refine ⟨_,(zS (ze rfl)),?_⟩
   replace S:=S.arr [1] []
   obtain rfl:=zbE H
   exact ⟨v9,rfl,S⟩
  replace H:=if_f hc13 H
  refine zx (zb ?_)
  refine wc_semi 10 [7]
   (fun i v u=>match i with
   | 7 => ∃ b:Nat,v=Value.pointer (some ⟨b,0,none⟩)∧Blk u b uB (Scope.C ⟨a1.name,r6.1.l,a_2⟩)∧w12.heap.size ≤ b
   | _=>True) hmix zbD zbD ?_ ?_
  ·intro i v u u' hi hx hv
   match i,hv with
   | 7,⟨b,e1,hb,hl⟩ => exact ⟨b,e1,hb.ext hx,hl⟩
   | 0,_=>exact trivial
   | 1,_=>exact trivial
   | 2,_=>exact trivial
   | 3,_=>exact trivial
   | 4,_=>exact trivial
   | 5,_=>exact trivial
   | 6,_=>exact trivial
   | _ + 8,_=>exact trivial
  refine zC (fun v K=>zm xw rfl (((S.ext K).blk 3).all _ (Checker.len _)) (Checker.len _)) rfl (zC (fun v K=>zm zR rfl (((S.ext K).blk 2).all _ (Term.len _)) (Term.len _)) rfl (zC (fun v K=>zw rfl) rfl (zC (fun v K=>zf xK rfl (o':=1) rfl) rfl (zC (fun v K=>zl xk rfl (((S.ext K).blk 2).cell (Term.get_name _))) rfl (zC (fun v K=>zf uD rfl (o':=2) rfl) rfl (zC (fun v K=>zl xv rfl (((S.ext K).blk 0).cell (Nd.get_l _))) rfl ?_))))))
  refine un (fun g v K G=>⟨_,_,zF yi (zK rfl (zK rfl (zK rfl rfl))),newc (yk _ _ _ _) fun _ _ ⟨b,hv,hx,hb,hl⟩ => ⟨hx,b,hv,hb,by have:=K.size; omega⟩⟩) rfl (zC (fun v K=>zf uE rfl (o':=3) rfl) rfl (zC (fun v K=>zl xv rfl (((S.ext K).blk 0).cell (Nd.get_r _))) rfl ?_))
  refine y8 fun g w15 K hV=>?_
  obtain ⟨b14,hv167,hb7,hf7⟩ := hV 7 rfl zbA
  replace S:=(S.newAt K hb7 hf7).pushScope 0 2
  clear K hV
  obtain ⟨r17,er17,H⟩ := zq H
  obtain ⟨B19,MB19,SB19,back⟩ := S.calln 0 ((.z 1 rfl (.z 2 rfl (.z 0 rfl (.z 4 rfl .nil)))))
  refine zu (zF xE (zK rfl (zK rfl (zK rfl (zK hv167 (zK rfl rfl)))))) zbA (xA zdW (a0:=a0) (a1:=a1) SB19 er17) ?_
  rintro v20 w18 ⟨_,rfl,S2⟩
  replace S:=back _ _ _ _ S2 rfl
  clear back S2 SB19
  refine wd (zI rfl) (zd (zr ?_))
  refine ⟨_,(zS (ze rfl)),?_⟩
  replace S:=S.arr [0] []
  obtain rfl:=zbE H
  exact ⟨v20,rfl,S⟩
 replace H:=if_f hc5 H
 refine zb (za (wd (zV rfl rfl) (wd (zj rfl) (zd ?_))))
 refine zJ rfl (fun hc21=>?_) (fun hc21=>?_)
 ·replace H:=if_t hc21 H
  refine zb (za (wd (zm xw rfl ((S.blk 1).all _ (Checker.len _)) (Checker.len _)) (wd (zi rfl) ?_)))
  obtain ⟨r22,er22,H⟩ := zq H
  obtain ⟨B24,MB24,SB24,back⟩ := S.calln 0 ((.z 0 rfl .nil))
  refine zu (zt vU) zbA (vV (a0:=a0) SB24 er22) ?_
  rintro _ w23 ⟨v25,rfl,S2⟩
  replace S:=back _ _ _ _ S2 rfl
  clear back S2 SB24
  refine wd (zU rfl) (wd (zn rfl rfl) (wd (zn rfl rfl) ?_))
  refine zQ kw zbA fun b27 w26 hw26=>?_
  replace S:=S.new hw26
  refine zT yo rfl rfl (S.blk 0) (Nd.len _) (by rw [Nd.len]; decide) (Nd.one _) (xe (Nd.len _)) fun w28 B hw28 zw28=>?_
  replace S:=S.store 0 B hw28
  clear B
  refine wd (zI rfl) (zd (zb (zb (za (wd (z7 rfl) (wd (does_neE ue rfl rfl (S.onO 1)) (zd ?_)))))))
  refine zJ rfl (fun hc29=>?_) (fun hc29=>?_)
  ·replace H:=if_t hc29 H
   refine zb (za (wd (z7 rfl) (wd (zI rfl) (zd (zr ?_)))))
   refine ⟨_,(zS (ze rfl)),?_⟩
   replace S:=S.arr [1] []
   obtain rfl:=zbE H
   exact ⟨v25,rfl,S⟩
  replace H:=if_f hc29 H
  refine zx (zb (zb (za (wd (zm xw rfl ((S.blk 3).all _ (Checker.len _)) (Checker.len _)) (wd (zm zR rfl ((S.blk 2).all _ (Term.len _)) (Term.len _)) (wd (zw rfl) (wd (zf uD rfl (o':=2) rfl) (wd (zl xv rfl ((S.blk 0).cell (Nd.get_l _))) ?_))))))))
  obtain ⟨r30,er30,H⟩ := zq H
  obtain ⟨B32,MB32,SB32,back⟩ := S.calln 0 ((.z 0 rfl (.z 1 rfl (.z 2 rfl (.z 3 rfl .nil)))))
  refine zu (zt xE) zbA (xA zdW (a0:=a0) (a1:=a1) SB32 er30) ?_
  rintro v33 w31 ⟨_,rfl,S2⟩
  replace S:=back _ _ _ _ S2 rfl
  clear back S2 SB32
  refine wd (zI rfl) (zd (zb (za (wd (z7 rfl) (wd (does_neE ue rfl rfl (S.onO 0)) (zd ?_))))))
  refine zJ rfl (fun hc34=>?_) (fun hc34=>?_)
  ·replace H:=if_t hc34 H
   refine zb (za (wd (z7 rfl) (wd (zI rfl) (zd (zr ?_)))))
   refine ⟨_,(zS (ze rfl)),?_⟩
   replace S:=S.arr [0] []
   obtain rfl:=zbE H
   exact ⟨v33,rfl,S⟩
  replace H:=if_f hc34 H
  refine zx (zb (za (wd (zm xw rfl ((S.blk 4).all _ (Checker.len _)) (Checker.len _)) (wd (zm zR rfl ((S.blk 3).all _ (Term.len _)) (Term.len _)) (wd (zw rfl) (wd (zf uE rfl (o':=3) rfl) (wd (zl xv rfl ((S.blk 1).cell (Nd.get_r _))) ?_)))))))
  obtain ⟨r35,er35,H⟩ := zq H
  obtain ⟨B37,MB37,SB37,back⟩ := S.calln 0 ((.z 0 rfl (.z 1 rfl (.z 2 rfl (.z 3 rfl .nil)))))
  refine zu (zt xE) zbA (xA zdW (a0:=a0) (a1:=a1) SB37 er35) ?_
  rintro v38 w36 ⟨_,rfl,S2⟩
  replace S:=back _ _ _ _ S2 rfl
  clear back S2 SB37
  refine wd (zI rfl) (zd (zr ?_))
  refine ⟨_,(zS (ze rfl)),?_⟩
  replace S:=S.arr [0] []
  obtain rfl:=zbE H
  exact ⟨v38,rfl,S⟩
 replace H:=if_f hc21 H
 refine zb (zb (za (wd (zV rfl rfl) (wd (zj rfl) (zd ?_)))))
 obtain ⟨o39,e39,Ho39⟩ := zq H
 replace H:=e39; clear e39
 refine xV [75,77] (fun fr W=>fr 75 = .bool o39∧St A N w W [oB b4 zo (tmC a1 s_1),oB b2 T_Checker (Checker.C (⟨a_0⟩ : Checker))] [oT a_0 a0.t,zg s_1 a1.sub,yc a_2 a2,oEt]) ?_ ?_
 ·refine zJ rfl (fun hc40=>?_) (fun hc40=>?_)
  ·replace H:=if_t hc40 H
   refine zx ?_
   obtain rfl:=zbE H
   exact ⟨rfl,(Dif.refl _ _),rfl,S⟩
  ·replace H:=if_f hc40 H
   refine za (wd (zV rfl rfl) (wd (zj rfl) (zd ?_)))
   obtain rfl:=zbE H
   exact ⟨rfl,(((Dif.refl _ _).upd rfl _).upd rfl _),rfl,S⟩
 rintro g41 u42 ⟨p39_75,S⟩
 have H:=Ho39
 refine zJ p39_75 (fun hc43=>?_) (fun hc43=>?_)
 ·replace H:=if_t hc43 H
  refine zb (za (wd (zm xw rfl ((S.blk 1).all _ (Checker.len _)) (Checker.len _)) (wd (zi rfl) ?_)))
  obtain ⟨r44,er44,H⟩ := zq H
  obtain ⟨B46,MB46,SB46,back⟩ := S.calln 0 ((.z 0 rfl .nil))
  refine zu (zt vU) zbA (vV (a0:=a0) SB46 er44) ?_
  rintro _ w45 ⟨v47,rfl,S2⟩
  replace S:=back _ _ _ _ S2 rfl
  clear back S2 SB46
  refine wd (zU rfl) (wd (zn rfl rfl) (wd (zn rfl rfl) ?_))
  refine zQ kw zbA fun b49 w48 hw48=>?_
  replace S:=S.new hw48
  refine zT yo rfl rfl (S.blk 0) (Nd.len _) (by rw [Nd.len]; decide) (Nd.one _) (xe (Nd.len _)) fun w50 B hw50 zw50=>?_
  replace S:=S.store 0 B hw50
  clear B
  refine wd (zI rfl) (zd (zb (zb (za (wd (z7 rfl) (wd (does_neE ue rfl rfl (S.onO 1)) (zd ?_)))))))
  refine zJ rfl (fun hc51=>?_) (fun hc51=>?_)
  ·replace H:=if_t hc51 H
   refine zb (za (wd (z7 rfl) (wd (zI rfl) (zd (zr ?_)))))
   refine ⟨_,(zS (ze rfl)),?_⟩
   replace S:=S.arr [1] []
   obtain rfl:=zbE H
   exact ⟨v47,rfl,S⟩
  replace H:=if_f hc51 H
  refine zx (zb (zb (za (wd (zf xj rfl (o':=0) rfl) (wd (zl zY rfl ((S.blk 2).cell (Term.get_kind _))) (wd (zV rfl rfl) (zd ?_)))))))
  refine zJ rfl (fun hc52=>?_) (fun hc52=>?_)
  ·replace H:=if_t hc52 H
   refine zb (za (wd (zm xw rfl ((S.blk 3).all _ (Checker.len _)) (Checker.len _)) (wd (zm zR rfl ((S.blk 2).all _ (Term.len _)) (Term.len _)) (wd (zw rfl) (wd (zf uD rfl (o':=2) rfl) (wd (zl xv rfl ((S.blk 0).cell (Nd.get_l _))) ?_))))))
   obtain ⟨r53,er53,H⟩ := zq H
   obtain ⟨B55,MB55,SB55,back⟩ := S.calln 0 ((.z 0 rfl (.z 1 rfl (.z 2 rfl (.z 3 rfl .nil)))))
   refine zu (zt xE) zbA (xA zdW (a0:=a0) (a1:=a1) SB55 er53) ?_
   rintro v56 w54 ⟨_,rfl,S2⟩
   replace S:=back _ _ _ _ S2 rfl
   clear back S2 SB55
   refine wd (zI rfl) (zd (zr ?_))
   refine ⟨_,(zS (ze rfl)),?_⟩
   replace S:=S.arr [0] []
   obtain rfl:=zbE H
   exact ⟨v56,rfl,S⟩
  replace H:=if_f hc52 H
  refine zx (zb (za (wd (zm xw rfl ((S.blk 3).all _ (Checker.len _)) (Checker.len _)) (wd (zm zR rfl ((S.blk 2).all _ (Term.len _)) (Term.len _)) (wd (zw rfl) (wd (zf uE rfl (o':=3) rfl) (wd (zl xv rfl ((S.blk 0).cell (Nd.get_r _))) ?_)))))))
  obtain ⟨r57,er57,H⟩ := zq H
  obtain ⟨B59,MB59,SB59,back⟩ := S.calln 0 ((.z 0 rfl (.z 1 rfl (.z 2 rfl (.z 3 rfl .nil)))))
  refine zu (zt xE) zbA (xA zdW (a0:=a0) (a1:=a1) SB59 er57) ?_
  rintro v60 w58 ⟨_,rfl,S2⟩
  replace S:=back _ _ _ _ S2 rfl
  clear back S2 SB59
  refine wd (zI rfl) (zd (zr ?_))
  refine ⟨_,(zS (ze rfl)),?_⟩
  replace S:=S.arr [0] []
  obtain rfl:=zbE H
  exact ⟨v60,rfl,S⟩
 replace H:=if_f hc43 H
 refine zb (za (wd (zV rfl rfl) (wd (zj rfl) (zd ?_))))
 refine zJ rfl (fun hc61=>?_) (fun hc61=>?_)
 ·replace H:=if_t hc61 H
  refine zb (za (wd (zm xw rfl ((S.blk 1).all _ (Checker.len _)) (Checker.len _)) (wd (zm zR rfl ((S.blk 0).all _ (Term.len _)) (Term.len _)) (wd (zw rfl) ?_))))
  obtain ⟨r62,er62,H⟩ := zq H
  obtain ⟨B64,MB64,SB64,back⟩ := S.calln 0 ((.z 0 rfl (.z 1 rfl (.z 2 rfl (.z 3 rfl .nil)))))
  refine zu (zt yx) zbA (yq zdX (a0:=a0) (a1:=a1) SB64 er62) ?_
  rintro _ w63 ⟨v65,rfl,S2⟩
  replace S:=back _ _ _ _ S2 rfl
  clear back S2 SB64
  refine wd (zU rfl) (wd (zn rfl rfl) (wd (zn rfl rfl) ?_))
  refine zQ kw zbA fun b67 w66 hw66=>?_
  replace S:=S.new hw66
  refine zT yo rfl rfl (S.blk 0) (Nd.len _) (by rw [Nd.len]; decide) (Nd.one _) (xe (Nd.len _)) fun w68 B hw68 zw68=>?_
  replace S:=S.store 0 B hw68
  clear B
  refine wd (zI rfl) (zd (zb (zb (za (wd (z7 rfl) (wd (does_neE ue rfl rfl (S.onO 1)) (zd ?_)))))))
  refine zJ rfl (fun hc69=>?_) (fun hc69=>?_)
  ·replace H:=if_t hc69 H
   refine zb (za (wd (z7 rfl) (wd (zI rfl) (zd (zr ?_)))))
   refine ⟨_,(zS (ze rfl)),?_⟩
   replace S:=S.arr [1] []
   obtain rfl:=zbE H
   exact ⟨v65,rfl,S⟩
  replace H:=if_f hc69 H
  refine zx (zb (zb ?_))
  refine wc_semi 9 [7]
   (fun i v u=>match i with
   | 7 => ∃ b:Nat,v=Value.pointer (some ⟨b,0,none⟩)∧Blk u b uB (Scope.C ⟨a1.name,r62.1.l,a_2⟩)∧w68.heap.size ≤ b
   | _=>True) hmix zbD zbD ?_ ?_
  ·intro i v u u' hi hx hv
   match i,hv with
   | 7,⟨b,e1,hb,hl⟩ => exact ⟨b,e1,hb.ext hx,hl⟩
   | 0,_=>exact trivial
   | 1,_=>exact trivial
   | 2,_=>exact trivial
   | 3,_=>exact trivial
   | 4,_=>exact trivial
   | 5,_=>exact trivial
   | 6,_=>exact trivial
   | _ + 8,_=>exact trivial
  refine zC (fun v K=>zm xw rfl (((S.ext K).blk 3).all _ (Checker.len _)) (Checker.len _)) rfl (zC (fun v K=>zm zR rfl (((S.ext K).blk 2).all _ (Term.len _)) (Term.len _)) rfl (zC (fun v K=>zw rfl) rfl (zC (fun v K=>zf xK rfl (o':=1) rfl) rfl (zC (fun v K=>zl xk rfl (((S.ext K).blk 2).cell (Term.get_name _))) rfl (zC (fun v K=>zf uD rfl (o':=2) rfl) rfl (zC (fun v K=>zl xv rfl (((S.ext K).blk 0).cell (Nd.get_l _))) rfl ?_))))))
  refine un (fun g v K G=>⟨_,_,zF yi (zK rfl (zK rfl (zK rfl rfl))),newc (yk _ _ _ _) fun _ _ ⟨b,hv,hx,hb,hl⟩ => ⟨hx,b,hv,hb,by have:=K.size; omega⟩⟩) rfl (zC (fun v K=>zi rfl) rfl ?_)
  refine y8 fun g w71 K hV=>?_
  obtain ⟨b70,hv727,hb7,hf7⟩ := hV 7 rfl zbA
  replace S:=(S.newAt K hb7 hf7).pushScope 0 2
  clear K hV
  obtain ⟨r73,er73,H⟩ := zq H
  obtain ⟨B75,MB75,SB75,back⟩ := S.calln 0 ((.z 1 rfl (.z 2 rfl (.z 0 rfl (.z 4 rfl .nil)))))
  refine zu (zF xE (zK rfl (zK rfl (zK rfl (zK hv727 (zK rfl rfl)))))) zbA (xA zdW (a0:=a0) (a1:=a1) SB75 er73) ?_
  rintro v76 w74 ⟨_,rfl,S2⟩
  replace S:=back _ _ _ _ S2 rfl
  clear back S2 SB75
  refine wd (zI rfl) (zd (zb (za (wd (z7 rfl) (wd (does_neE ue rfl rfl (S.onO 0)) (zd ?_))))))
  refine zJ rfl (fun hc77=>?_) (fun hc77=>?_)
  ·replace H:=if_t hc77 H
   refine zb (za (wd (z7 rfl) (wd (zI rfl) (zd (zr ?_)))))
   refine ⟨_,(zS (ze rfl)),?_⟩
   replace S:=S.arr [0] []
   obtain rfl:=zbE H
   exact ⟨v76,rfl,S⟩
  replace H:=if_f hc77 H
  refine zx (zb ?_)
  refine wc_semi 9 [7]
   (fun i v u=>match i with
   | 7 => ∃ b:Nat,v=Value.pointer (some ⟨b,0,none⟩)∧Blk u b uB (Scope.C ⟨a1.other,r62.1.r,a_2⟩)∧w74.heap.size ≤ b
   | _=>True) hmix zbD zbD ?_ ?_
  ·intro i v u u' hi hx hv
   match i,hv with
   | 7,⟨b,e1,hb,hl⟩ => exact ⟨b,e1,hb.ext hx,hl⟩
   | 0,_=>exact trivial
   | 1,_=>exact trivial
   | 2,_=>exact trivial
   | 3,_=>exact trivial
   | 4,_=>exact trivial
   | 5,_=>exact trivial
   | 6,_=>exact trivial
   | _ + 8,_=>exact trivial
  refine zC (fun v K=>zm xw rfl (((S.ext K).blk 4).all _ (Checker.len _)) (Checker.len _)) rfl (zC (fun v K=>zm zR rfl (((S.ext K).blk 3).all _ (Term.len _)) (Term.len _)) rfl (zC (fun v K=>zw rfl) rfl (zC (fun v K=>zf vH rfl (o':=2) rfl) rfl (zC (fun v K=>zl xk rfl (((S.ext K).blk 3).cell (Term.get_other _))) rfl (zC (fun v K=>zf uE rfl (o':=3) rfl) rfl (zC (fun v K=>zl xv rfl (((S.ext K).blk 1).cell (Nd.get_r _))) rfl ?_))))))
  refine un (fun g v K G=>⟨_,_,zF yi (zK rfl (zK rfl (zK rfl rfl))),newc (yk _ _ _ _) fun _ _ ⟨b,hv,hx,hb,hl⟩ => ⟨hx,b,hv,hb,by have:=K.size; omega⟩⟩) rfl (zC (fun v K=>zi rfl) rfl ?_)
  refine y8 fun g w79 K hV=>?_
  obtain ⟨b78,hv807,hb7,hf7⟩ := hV 7 rfl zbA
  replace S:=(S.newAt K hb7 hf7).pushScope 0 3
  clear K hV
  obtain ⟨r81,er81,H⟩ := zq H
  obtain ⟨B83,MB83,SB83,back⟩ := S.calln 0 ((.z 2 rfl (.z 3 rfl (.z 0 rfl (.z 5 rfl .nil)))))
  refine zu (zF xE (zK rfl (zK rfl (zK rfl (zK hv807 (zK rfl rfl)))))) zbA (xA zdW (a0:=a0) (a1:=a1) SB83 er81) ?_
  rintro v84 w82 ⟨_,rfl,S2⟩
  replace S:=back _ _ _ _ S2 rfl
  clear back S2 SB83
  refine wd (zI rfl) (zd (zr ?_))
  refine ⟨_,(zS (ze rfl)),?_⟩
  replace S:=S.arr [0] []
  obtain rfl:=zbE H
  exact ⟨v84,rfl,S⟩
 replace H:=if_f hc61 H
 refine zb (za (wd (zV rfl rfl) (wd (zj rfl) (zd ?_))))
 refine zJ rfl (fun hc85=>?_) (fun hc85=>?_)
 ·replace H:=if_t hc85 H
  refine zb (za (wd (zm xw rfl ((S.blk 1).all _ (Checker.len _)) (Checker.len _)) (wd (zm zR rfl ((S.blk 0).all _ (Term.len _)) (Term.len _)) (wd (zw rfl) ?_))))
  obtain ⟨r86,er86,H⟩ := zq H
  obtain ⟨B88,MB88,SB88,back⟩ := S.calln 0 ((.z 0 rfl (.z 1 rfl (.z 2 rfl (.z 3 rfl .nil)))))
  refine zu (zt yx) zbA (yq zdX (a0:=a0) (a1:=a1) SB88 er86) ?_
  rintro _ w87 ⟨v89,rfl,S2⟩
  replace S:=back _ _ _ _ S2 rfl
  clear back S2 SB88
  refine wd (zU rfl) (wd (zn rfl rfl) (wd (zn rfl rfl) ?_))
  refine zQ kw zbA fun b91 w90 hw90=>?_
  replace S:=S.new hw90
  refine zT yo rfl rfl (S.blk 0) (Nd.len _) (by rw [Nd.len]; decide) (Nd.one _) (xe (Nd.len _)) fun w92 B hw92 zw92=>?_
  replace S:=S.store 0 B hw92
  clear B
  refine wd (zI rfl) (zd (zb (za (wd (z7 rfl) (wd (zI rfl) (zd (zr ?_)))))))
  refine ⟨_,(zS (ze rfl)),?_⟩
  replace S:=S.arr [1] []
  obtain rfl:=zbE H
  exact ⟨v89,rfl,S⟩
 replace H:=if_f hc85 H
 refine zb (za (wd (zV rfl rfl) (wd (zj rfl) (zd ?_))))
 refine zJ rfl (fun hc93=>?_) (fun hc93=>?_)
 ·replace H:=if_t hc93 H
  refine zb (za (wd (zm xw rfl ((S.blk 1).all _ (Checker.len _)) (Checker.len _)) (wd (zm zR rfl ((S.blk 0).all _ (Term.len _)) (Term.len _)) (wd (zw rfl) ?_))))
  obtain ⟨r94,er94,H⟩ := zq H
  obtain ⟨B96,MB96,SB96,back⟩ := S.calln 0 ((.z 0 rfl (.z 1 rfl (.z 2 rfl (.z 3 rfl .nil)))))
  refine zu (zt yy) zbA (yr zdX (a0:=a0) (a1:=a1) SB96 er94) ?_
  rintro _ w95 ⟨v97,rfl,S2⟩
  replace S:=back _ _ _ _ S2 rfl
  clear back S2 SB96
  refine wd (zU rfl) (wd (zn rfl rfl) (wd (zn rfl rfl) (wd (zh rfl) (wd (zI rfl) (zd (zb (zb (za (wd (z7 rfl) (wd (does_neE ue rfl rfl (S.onO 0)) (zd ?_)))))))))))
  refine zJ rfl (fun hc98=>?_) (fun hc98=>?_)
  ·replace H:=if_t hc98 H
   refine zb (za (wd (z7 rfl) (wd (zI rfl) (zd (zr ?_)))))
   refine ⟨_,(zS (ze rfl)),?_⟩
   replace S:=S.arr [0] []
   obtain rfl:=zbE H
   exact ⟨v97,rfl,S⟩
  replace H:=if_f hc98 H
  refine zx (zb ?_)
  refine wc_semi 8 [6]
   (fun i v u=>match i with
   | 6 => ∃ b:Nat,v=Value.pointer (some ⟨b,0,none⟩)∧Blk u b uB (Scope.C ⟨a1.name,r94.1,a_2⟩)∧w95.heap.size ≤ b
   | _=>True) hmix zbD zbD ?_ ?_
  ·intro i v u u' hi hx hv
   match i,hv with
   | 6,⟨b,e1,hb,hl⟩ => exact ⟨b,e1,hb.ext hx,hl⟩
   | 0,_=>exact trivial
   | 1,_=>exact trivial
   | 2,_=>exact trivial
   | 3,_=>exact trivial
   | 4,_=>exact trivial
   | 5,_=>exact trivial
   | _ + 7,_=>exact trivial
  refine zC (fun v K=>zm xw rfl (((S.ext K).blk 2).all _ (Checker.len _)) (Checker.len _)) rfl (zC (fun v K=>zm zR rfl (((S.ext K).blk 1).all _ (Term.len _)) (Term.len _)) rfl (zC (fun v K=>zw rfl) rfl (zC (fun v K=>zf xK rfl (o':=1) rfl) rfl (zC (fun v K=>zl xk rfl (((S.ext K).blk 1).cell (Term.get_name _))) rfl (zC (fun v K=>zi rfl) rfl ?_)))))
  refine un (fun g v K G=>⟨_,_,zF yi (zK rfl (zK rfl (zK rfl rfl))),newc (yk _ _ _ _) fun _ _ ⟨b,hv,hx,hb,hl⟩ => ⟨hx,b,hv,hb,by have:=K.size; omega⟩⟩) rfl (zC (fun v K=>zi rfl) rfl ?_)
  refine y8 fun g w100 K hV=>?_
  obtain ⟨b99,hv1016,hb6,hf6⟩ := hV 6 rfl zbA
  replace S:=(S.newAt K hb6 hf6).pushScope 0 2
  clear K hV
  obtain ⟨r102,er102,H⟩ := zq H
  obtain ⟨B104,MB104,SB104,back⟩ := S.calln 0 ((.z 1 rfl (.z 2 rfl (.z 0 rfl (.z 4 rfl .nil)))))
  refine zu (zF xE (zK rfl (zK rfl (zK rfl (zK hv1016 (zK rfl rfl)))))) zbA (xA zdW (a0:=a0) (a1:=a1) SB104 er102) ?_
  rintro v105 w103 ⟨_,rfl,S2⟩
  replace S:=back _ _ _ _ S2 rfl
  clear back S2 SB104
  refine wd (zI rfl) (zd (zr ?_))
  refine ⟨_,(zS (ze rfl)),?_⟩
  replace S:=S.arr [0] []
  obtain rfl:=zbE H
  exact ⟨v105,rfl,S⟩
 replace H:=if_f hc93 H
 refine zx (zb (za (wd (zm xw rfl ((S.blk 1).all _ (Checker.len _)) (Checker.len _)) (wd (zm zR rfl ((S.blk 0).all _ (Term.len _)) (Term.len _)) (wd (zw rfl) ?_)))))
 obtain ⟨r106,er106,H⟩ := zq H
 obtain ⟨B108,MB108,SB108,back⟩ := S.calln 0 ((.z 0 rfl (.z 1 rfl (.z 2 rfl (.z 3 rfl .nil)))))
 refine zu (zt uQ) zbA (zdX (a0:=a0) (a1:=a1) SB108 er106) ?_
 rintro _ w107 ⟨v109,rfl,S2⟩
 replace S:=back _ _ _ _ S2 rfl
 clear back S2 SB108
 refine wd (zU rfl) (wd (zn rfl rfl) (wd (zn rfl rfl) (wd (zh rfl) (wd (zI rfl) (zd (zb (zb (za (wd (z7 rfl) (wd (does_eqE ue rfl rfl (S.onO 0)) (wd (zA rfl) ?_)))))))))))
 refine wg (fun hg=>zi rfl) ?_
 refine wg (fun hg=>zi rfl) ?_
 refine wg (fun hg=>xr (zp hg) (zp hg)) (wd (zZ rfl (fun hp=>(zp (xz hp)))) (zd ?_))
 refine zJ rfl (fun hc110=>?_) (fun hc110=>?_)
 ·replace H:=if_t hc110 H
  refine za (wd (Does.to (v' := .agg (Refusal.C (⟨130,SlV.nil⟩ : Refusal)).toArray) (z1 (vs:=[(0,.int .i64 130)]) kC (xT rfl rfl) (Bld.one rfl rfl (by rw [Refusal.len]; decide) (Refusal.set_code _ _) Bld.nil)) rfl) ?_)
  refine zE rfl zbA fun b112 w111 hw111=>?_
  replace S:=S.new hw111
  refine wd (does_makeInterface rfl) ?_
  replace S:=((S.nil xh 1 IC).front 1).mkE
  refine wd (zI rfl) (zd (zb (za (wd (z7 rfl) (wd (zI rfl) (zd (zr ?_)))))))
  refine ⟨_,(zS (ze rfl)),?_⟩
  replace S:=S.arr [0] []
  obtain rfl:=zbE H
  exact ⟨(.iface xS (.pointer (some ⟨b112,0,none⟩))),rfl,S⟩
 ·replace H:=if_f hc110 H
  refine zx (zb (za (wd (z7 rfl) (wd (zI rfl) (zd (zr ?_))))))
  refine ⟨_,(zS (ze rfl)),?_⟩
  replace S:=S.arr [0] []
  obtain rfl:=zbE H
  exact ⟨v109,rfl,S⟩
theorem types_tc_both : ∀ (k:Nat),(∀ {A:Nat→Prop} {N:Oth} {w:World} {a0:PChecker} {a_0:Option Addr} {a1:PTerm} {s_1:SlV} {a2:List (ByteArray × Int)} {a_2:Option Addr} (S:St A N w w [] [oT a_0 a0.t,zg s_1 a1.sub,yc a_2 a2,oEt]) {r:Int × (Option (Int × List Int))} (H:zdB.f k a0 a1 a2=some r),Calls PP x5 #[.agg (Checker.C (⟨a_0⟩ : Checker)).toArray,.agg (tmC a1 s_1).toArray,.pointer a_2] w fun e w' => ∃ v,e = .returned v∧(∃ vo0:Value,v = .tuple #[.int .i64 r.1,vo0]∧St A N w w' [oE vo0 r.2] []))∧(∀ {A:Nat→Prop} {N:Oth} {w:World} {a0:PChecker} {a_0:Option Addr} {a1:PTerm} {s_1:SlV} {a2:List (ByteArray × Int)} {a_2:Option Addr} {a3:Int} (S:St A N w w [] [oT a_0 a0.t,zg s_1 a1.sub,yc a_2 a2,oEt]) {r:(Option (Int × List Int))} (H:zdC.f k a0 a1 a2 a3=some r),Calls PP xX #[.agg (Checker.C (⟨a_0⟩ : Checker)).toArray,.agg (tmC a1 s_1).toArray,.pointer a_2,.int .i64 a3] w fun e w' => ∃ v,e = .returned v∧(∃ vo0:Value,v=vo0∧St A N w w' [oE vo0 r] [])):=by
 intro k
 induction k with
 | zero =>
  refine ⟨?_,?_⟩
  ·intro A N w a0 a_0 a1 s_1 a2 a_2 S r H; cases H
  ·intro A N w a0 a_0 a1 s_1 a2 a_2 a3 S r H; cases H
 | succ k ih =>
  refine ⟨?_,?_⟩
  ·intro A N w a0 a_0 a1 s_1 a2 a_2 S r H; exact types_checker_told_gst ih.1 ih.2 S H
  ·intro A N w a0 a_0 a1 s_1 a2 a_2 a3 S r H; exact zaX ih.1 ih.2 S H
theorem types_checker_told_st {a0:PChecker} {a_0:Option Addr} {a1:PTerm} {s_1:SlV} {a2:List (ByteArray × Int)} {a_2:Option Addr} (S:St A N w w [] [oT a_0 a0.t,zg s_1 a1.sub,yc a_2 a2,oEt]) {k:Nat} {r:Int × (Option (Int × List Int))} (H:zdB.f k a0 a1 a2=some r) :
  Calls PP x5 #[.agg (Checker.C (⟨a_0⟩ : Checker)).toArray,.agg (tmC a1 s_1).toArray,.pointer a_2] w fun e w' => ∃ v,e = .returned v∧(∃ vo0:Value,v = .tuple #[.int .i64 r.1,vo0]∧St A N w w' [oE vo0 r.2] []):=by exact (types_tc_both k).1 S H
theorem zbm {a0:PChecker} {a_0:Option Addr} {a1:PTerm} {s_1:SlV} {a2:List (ByteArray × Int)} {a_2:Option Addr} {a3:Int} (S:St A N w w [] [oT a_0 a0.t,zg s_1 a1.sub,yc a_2 a2,oEt]) {k:Nat} {r:(Option (Int × List Int))} (H:zdC.f k a0 a1 a2 a3=some r) :
  Calls PP xX #[.agg (Checker.C (⟨a_0⟩ : Checker)).toArray,.agg (tmC a1 s_1).toArray,.pointer a_2,.int .i64 a3] w fun e w' => ∃ v,e = .returned v∧(∃ vo0:Value,v=vo0∧St A N w w' [oE vo0 r] []):=by exact (types_tc_both k).2 S H
theorem types_ahead_st {a0:Tb} {a_0:Option Addr} {a1:List Hyp} {s_1:SlV} {a2:PTerm} {s_2:SlV} {a3:List Int} {s_3:SlV} (S:St A N w w [oS xh 1 IC s_3 a3] [oT a_0 a0,fS 2 Hyp.C s_1 a1,zg s_2 a2.sub]) {k:Nat} {r:(List (ByteArray × Int)) × Int} (H:zdD.f k a0 a1 a2 a3=some r) :
  Calls PP F_types_ahead #[.pointer a_0,s_1.v,.agg (tmC a2 s_2).toArray,s_3.v] w fun e w' => ∃ v,e = .returned v∧(∃ ao0:Option Addr,v = .tuple #[.pointer ao0,.int .i64 r.2]∧St A N w w' [] [yc ao0 r.1]):=by
 unfold zdD.f at H
 refine zy (n:=63) Tryz.func60 rfl rfl zbC (zb (za ?_))
 refine zE rfl zbA fun b2 w1 hw1=>?_
 replace S:=S.new hw1
 refine wd (zX rfl) ?_
 replace S:=S.nil_fScopeZ
 refine wd (zh rfl) (zd (zb (zb (za (wd (zw rfl) ?_)))))
 obtain ⟨r3,er3,H⟩ := zq H
 obtain ⟨B5,MB5,SB5,back⟩ := S.calln 0 ((.z 1 rfl .nil))
 refine zu (zt ca_formula_Table_Not) zbA (zbi SB5 rfl er3) ?_
 rintro _ w4 ⟨rfl,S2⟩
 replace S:=back _ _ _ _ S2 rfl
 clear back S2 SB5
 refine wd (zU rfl) (wd (zn rfl rfl) (wd (zn rfl rfl) (wd (zh rfl) (wd (zh rfl) (zd (zb (za (wd (zi rfl) (wd (zV rfl rfl) (zd ?_))))))))))
 refine zJ rfl (fun hc6=>?_) (fun hc6=>?_)
 ·replace H:=if_t hc6 H
  refine zb (za (wd (zi rfl) (wd (zX rfl) ?_)))
  replace S:=S.nil_fScopeZ
  refine wd (zh rfl) (zd (zr ?_))
  refine ⟨_,(xd (ze rfl) (ze rfl)),?_⟩
  replace S:=S.arr [] [0]
  obtain rfl:=zbE H
  exact ⟨none,rfl,S⟩
 replace H:=if_f hc6 H
 refine zx (zb (za (wd (zX rfl) ?_)))
 replace S:=S.nil_fScopeZ
 refine zd (zb (zb (za (wd (zP rfl) (wd (xN sl_L_api_Hyp rfl (S.rd 3)) (wd (zi rfl) (zd ?_)))))))
 obtain ⟨o7,e7,Ho7⟩ := zq H
 clear H
 let LT1:List OA:=[yc none ([]:List (ByteArray × Int)),oT a_0 a0,fS 2 Hyp.C s_1 a1,zg s_2 a2.sub]
 refine xV [3,12,14,29,30,31,32,33,34,35,36,37,38,39,40,41,42,43,44] (fun fr W => ∃ s8:SlV,∃ a9:Option Addr,fr 3=s8.v∧fr 12 = .pointer a9∧St A N w W [oB b2 zo (tmC a2 s_2),oS xh 1 IC s8 o7.1] (yc a9 o7.2 :: LT1)) ?_ ?_
 ·refine zO ?_
  refine xR (α:=Nat × Int × (List Int × (List (ByteArray × Int)))) [3,12,14,29,30,31,32,33,34,35,36,37,38,39,40,41,42,43,44] (fun x fr W=>(x.1:Int)=(a1.length:Int) - x.2.1∧0 ≤ x.2.1∧forS (fun i s=>zdD.b0 a1 i s.1 s.2) x.1 x.2.1 x.2.2=some o7 ∧ ∃ s10:SlV,∃ a11:Option Addr,fr 29 = .int .i64 x.2.1∧fr 3=s10.v∧fr 12 = .pointer a11∧St A N w W [oB b2 zo (tmC a2 s_2),oS xh 1 IC s10 (x.2.2.1)] (yc a11 (x.2.2.2) :: LT1)) (fun x=>x.1) (((a1.length:Int) - 0).toNat,0,(a3,([]:List (ByteArray × Int)))) ⟨(by dsimp only; have hle:=Int.natCast_nonneg (a1.length); omega),(Int.le_refl _),(by dsimp only; exact e7),s_3,none,rfl,rfl,rfl,S⟩ ?_
  rintro ⟨m7,i7,⟨x7_0,x7_1⟩⟩ g7 u7 ⟨hm7,hl7,e7,s12,a13,q7_i,q7_3,q7_12,S⟩
  try dsimp only at hm7
  try dsimp only at hl7
  try dsimp only at e7
  try dsimp only at S
  try dsimp only at q7_i
  try dsimp only at q7_3
  try dsimp only at q7_12
  refine zb (za (wd (xy q7_i rfl) (zd (zb ?_))))
  refine zJ rfl (fun hc14=>?_) (fun hc14=>?_)
  rotate_left
  ·refine x0 ?_
   have hge:(a1.length:Int) ≤ i7:=Int.not_lt.1 (of_decide_eq_false hc14)
   obtain rfl:m7=0:=by omega
   replace e7:=forS_0 e7
   obtain rfl:=e7
   exact ⟨rfl,((Dif.self _ _ _).upd rfl _),s12,a13,q7_3,q7_12,S⟩
  refine zx ?_
  have hlt7:i7 < (a1.length:Int):=of_decide_eq_true hc14
  obtain ⟨m7,rfl⟩ : ∃ m,m7=m + 1:=⟨m7 - 1,by omega⟩
  obtain ⟨q7,H,e7⟩ := forS_s e7
  unfold zdD.b0 at H
  try dsimp only at H
  have hb7:=(S.len 3)
  refine zb ?_
  refine zO (zb (za (wd (xi sl_L_api_Hyp rfl q7_i (S.rd 3) (And.intro (show 0 ≤ i7 by omega) (show i7 < (a1.length:Int) from hlt7)).1 (And.intro (show 0 ≤ i7 by omega) (show i7 < (a1.length:Int) from hlt7)).2) (wd (zm ag_Hyp rfl ((S.rd 3).at (y9 Hyp.z (And.intro (show 0 ≤ i7 by omega) (show i7 < (a1.length:Int) from hlt7)))) (Hyp.len _)) ?_))))
  refine zQ ze_Hyp zbA fun b17 w16 hw16=>?_
  replace S:=S.new hw16
  refine zT ag_Hyp rfl rfl (S.blk 0) (Hyp.len _) (by rw [Hyp.len]; decide) (Hyp.one _) (xe (Hyp.len _)) fun w18 B hw18 zw18=>?_
  replace S:=S.store 0 B hw18
  clear B
  refine zd (zb (za (wd (zP q7_3) (wd (zf fl_Hyp_form rfl (o':=1) rfl) (wd (zl xv rfl ((S.blk 0).cell (Hyp.get_form _))) ?_)))))
  refine vD (C:=IC) (l:=[(at_ Hyp.z a1 i7).form]) (vs:=[.int .i64 ((at_ Hyp.z a1 i7).form)]) xI zao.zero rfl rfl (fun _ _=>rfl) zbA rfl zbA fun b20 w19 s21 hBw19 hw19=>?_
  replace S:=S.lit hBw19 hw19 zbC
  obtain ⟨ha24,H⟩ := xb H
  have ha24:=of_decide_eq_true ha24
  refine wl_appends (C:=IC) xI zao rfl rfl (S.sl 3) (S.rdO 0) zbC (fun a _ v hv=>by rw [List.mem_singleton.1 hv]; rfl) ha24 zbB zbA fun s23 w22 O hw22 gw22=>?_
  replace S:=S.push 3 O (by first | (simp; done) | (simp; omega)) hw22 gw22
  clear O
  refine wd (y4 rfl) (zd (za (wd (zw q7_12) (wd (zf fl_Hyp_name rfl (o':=0) rfl) (wd (zl xk rfl ((S.blk 2).cell (Hyp.get_name _))) (wd (zf fl_Hyp_form rfl (o':=1) rfl) (wd (zl xv rfl ((S.blk 2).cell (Hyp.get_form _))) ?_)))))))
  obtain ⟨r25,er25,H⟩ := zq H
  obtain ⟨B27,MB27,SB27,back⟩ := S.sub [0] [] [oS xh 1 IC s23 (x7_0 ++ [(at_ Hyp.z a1 i7).form]),oS xh 1 IC s21 ([(at_ Hyp.z a1 i7).form]),oB b17 T_Hyp (Hyp.C (at_ Hyp.z a1 i7)),oB b2 zo (tmC a2 s_2)]
  refine zu (zt yi) zbA (types_scope_with_st SB27 er25) ?_
  rintro _ w26 ⟨a28,rfl,S2⟩
  replace S:=back _ _ _ _ _ S2 rfl rfl
  clear back S2 SB27
  refine wd (zX rfl) (zd (za (wd (xt q7_i rfl (c:=i7 + 1) rfl zbB zbB) (wd (zi rfl) (zd ?_)))))
  replace S:=S.arr [3,0] [0,2,3,4,5]
  obtain rfl:=zbE H
  exact ⟨rfl,(by repeat first | exact Dif.refl _ _ | exact Dif.self _ _ _ | refine Dif.upd ?_ rfl _ | refine Dif.mask ?_ rfl _),(m7,i7 + 1,(x7_0 ++ [(at_ Hyp.z a1 i7).form],r25)),⟨(by dsimp only; omega),(by dsimp only; omega),e7,s23,a28,rfl,rfl,rfl,S⟩,by dsimp only; omega⟩
 rintro g29 u30 ⟨s8,a9,p7_3,p7_12,S⟩
 have H:=Ho7
 refine zb (zb (za (wd (zP p7_3) (wd (xN xI rfl (S.rdO 1)) (wd (zi rfl) (zd ?_))))))
 obtain ⟨o31,e31,Ho31⟩ := zq H
 clear H
 refine xV [8,9,16,17,18,47,48,49,50,51,52,53,54,55,56,57,58,59] (fun fr W => ∃ s31:Unit,o31 = .inl s31∧St A N w W [oB b2 zo (tmC a2 s_2),oS xh 1 IC s8 o7.1] (yc a9 o7.2 :: LT1)) ?_ ?_
 ·refine zO ?_
  refine xR (α:=Nat × Int × Unit) [8,9,16,17,18,47,48,49,50,51,52,53,54,55,56,57,58,59] (fun x fr W=>(x.1:Int)=(o7.1.length:Int) - x.2.1∧0 ≤ x.2.1∧forN (fun i s=>zdD.b1 a0 o7 i) x.1 x.2.1 x.2.2=some o31∧fr 47 = .int .i64 x.2.1∧St A N w W [oB b2 zo (tmC a2 s_2),oS xh 1 IC s8 o7.1] (yc a9 o7.2 :: LT1)) (fun x=>x.1) (((o7.1.length:Int) - 0).toNat,0,()) ⟨(by dsimp only; have hle:=Int.natCast_nonneg (o7.1.length); omega),(Int.le_refl _),(by dsimp only; exact e31),rfl,S⟩ ?_
  rintro ⟨m31,i31,_⟩ g31 u31 ⟨hm31,hl31,e31,q31_i,S⟩
  try dsimp only at hm31
  try dsimp only at hl31
  try dsimp only at e31
  try dsimp only at S
  try dsimp only at q31_i
  refine zb (za (wd (xy q31_i rfl) (zd (zb ?_))))
  refine zJ rfl (fun hc32=>?_) (fun hc32=>?_)
  rotate_left
  ·refine x0 ?_
   have hge:(o7.1.length:Int) ≤ i31:=Int.not_lt.1 (of_decide_eq_false hc32)
   obtain rfl:m31=0:=by omega
   replace e31:=zbf e31
   exact ⟨rfl,((Dif.self _ _ _).upd rfl _),(),e31,S⟩
  refine zx ?_
  have hlt31:i31 < (o7.1.length:Int):=of_decide_eq_true hc32
  obtain ⟨m31,rfl⟩ : ∃ m,m31=m + 1:=⟨m31 - 1,by omega⟩
  obtain ⟨q31,H,e31⟩ := zbg e31
  unfold zdD.b1 at H
  try dsimp only at H
  have hb31:=(S.lenO 1)
  refine zb ?_
  refine zO (zb (za (wd (xi xI rfl q31_i (S.rdO 1) (And.intro (show 0 ≤ i31 by omega) (show i31 < (o7.1.length:Int) from hlt31)).1 (And.intro (show 0 ≤ i31 by omega) (show i31 < (o7.1.length:Int) from hlt31)).2) (wd (zl xv rfl ((S.rdO 1).one (y9 (0:Int) (And.intro (show 0 ≤ i31 by omega) (show i31 < (o7.1.length:Int) from hlt31))) rfl)) (wd (zh rfl) (zd (zb (za (wd (zw rfl) (wd (zi rfl) ?_))))))))))
  obtain ⟨r34,er34,H⟩ := zq H
  obtain ⟨B36,MB36,SB36,back⟩ := S.calln 0 ((.z 2 rfl .nil))
  refine zu (zt yT) zbA (yZ SB36 er34) ?_
  rintro _ w35 ⟨rfl,S2⟩
  replace S:=back _ _ _ _ S2 rfl
  clear back S2 SB36
  refine wd (zU rfl) (wd (zn rfl rfl) (wd (zn rfl rfl) ?_))
  refine zQ kw zbA fun b38 w37 hw37=>?_
  replace S:=S.new hw37
  refine zT yo rfl rfl (S.blk 0) (Nd.len _) (by rw [Nd.len]; decide) (Nd.one _) (xe (Nd.len _)) fun w39 B hw39 zw39=>?_
  replace S:=S.store 0 B hw39
  clear B
  refine wd (zj rfl) (zd (zb (za (wd (zA rfl) (wd (xg rfl) (zd ?_))))))
  refine zJ rfl (fun hc40=>?_) (fun hc40=>?_)
  ·replace H:=if_t hc40 H
   refine zb (za (wd (zX rfl) ?_))
   replace S:=S.nil_fScopeZ
   refine wd (zh rfl) (zd (zr ?_))
   refine ⟨_,(xd (ze rfl) (ze rfl)),?_⟩
   replace S:=S.arr [] [0]
   obtain rfl:=zbE H
   obtain rfl:=e31
   obtain rfl:=uI Ho31
   exact ⟨none,rfl,S⟩
  replace H:=if_f hc40 H
  refine zx (za (wd (xt q31_i rfl (c:=i31 + 1) rfl zbB zbB) (wd (zi rfl) (zd ?_))))
  replace S:=S.arr [1,2] [0,1,2,3,4]
  obtain rfl:=zbE H
  exact ⟨rfl,(by repeat first | exact Dif.refl _ _ | exact Dif.self _ _ _ | refine Dif.upd ?_ rfl _ | refine Dif.mask ?_ rfl _),(m31,i31 + 1,()),⟨(by dsimp only; omega),(by dsimp only; omega),e31,rfl,S⟩,by dsimp only; omega⟩
 rintro g41 u42 ⟨s31,rfl,S⟩
 have H:=Ho31
 dsimp only [aft] at H
 refine zb (za (wd (zw p7_12) (wd (zm zR rfl ((S.blk 0).all _ (Term.len _)) (Term.len _)) ?_)))
 obtain ⟨r43,er43,H⟩ := zq H
 obtain ⟨B45,MB45,SB45,back⟩ := S.calln 0 ((.z 4 rfl .nil))
 refine zu (zt uM) zbA (uO (a0:=a2) SB45 er43) ?_
 rintro _ w44 ⟨rfl,S2⟩
 replace S:=back _ _ _ _ S2 rfl
 clear back S2 SB45
 refine wd (zX rfl) (wd (zh rfl) (zd (zr ?_)))
 refine ⟨_,(xd (ze rfl) (ze rfl)),?_⟩
 replace S:=S.arr [] [0]
 obtain rfl:=zbE H
 exact ⟨a9,rfl,S⟩
theorem types_Where_st {a0:Tb} {a_0:Option Addr} {a1:List Hyp} {s_1:SlV} {a2:PTerm} {s_2:SlV} {a3:Int} (S:St A N w w [] [oT a_0 a0,fS 2 Hyp.C s_1 a1,zg s_2 a2.sub,oEt]) {k:Nat} {r:List Int × Int} (H:zdE.f k a0 a1 a2 a3=some r) :
  Calls PP F_types_Where #[.pointer a_0,s_1.v,.agg (tmC a2 s_2).toArray,.int .i64 a3] w fun e w' => ∃ v,e = .returned v∧(∃ so0:SlV,v = .tuple #[so0.v,.int .i64 r.2]∧St A N w w' [oS xh 1 IC so0 r.1] []):=by
 unfold zdE.f at H
 refine zy (n:=33) Tryz.func57 rfl rfl zbC (zb (za ?_))
 refine zE rfl zbA fun b2 w1 hw1=>?_
 replace S:=S.new hw1
 refine wd (x7) (wd (zh rfl) (zd (zb (za (wd (zw rfl) (wd (zP rfl) (wd (zm zR rfl ((S.blk 0).all _ (Term.len _)) (Term.len _)) (wd (zi rfl) ?_))))))))
 refine vD (C:=IC) (l:=[a3]) (vs:=[.int .i64 a3]) xI zao.zero rfl rfl (fun _ _=>rfl) zbA rfl zbA fun b4 w3 s5 hBw3 hw3=>?_
 replace S:=S.lit hBw3 hw3 zbC
 obtain ⟨r6,er6,H⟩ := zq H
 obtain ⟨B8,MB8,SB8,back⟩ := S.sub [0,1,2] [oS xh 1 IC s5 ([a3])] [oB b2 zo (tmC a2 s_2)]
 refine zu (zt ca_types_ahead) zbA (types_ahead_st (a2:=a2) SB8 er6) ?_
 rintro _ w7 ⟨a9,rfl,S2⟩
 replace S:=back _ _ _ _ _ S2 rfl rfl
 clear back S2 SB8
 refine wd (zU rfl) (wd (zn rfl rfl) (wd (zn rfl rfl) (wd (zX rfl) (wd (zh rfl) (zd (zb (zb (za (wd (zi rfl) (wd (xr rfl rfl) (zd ?_)))))))))))
 refine zJ rfl (fun hc10=>?_) (fun hc10=>?_)
 ·replace H:=if_t hc10 H
  refine zb (za (wd (zi rfl) (wd (x7) (wd (zh rfl) (zd (zr ?_))))))
  replace S:=S.nil xh 1 IC
  refine ⟨_,(xd (ze rfl) (ze rfl)),?_⟩
  replace S:=S.arr [0] []
  obtain rfl:=zbE H
  exact ⟨SlV.nil,rfl,S⟩
 replace H:=if_f hc10 H
 refine zx (zb (za (wd (zw rfl) (wd (Does.to (v' := .agg (Checker.C (⟨a_0⟩ : Checker)).toArray) (z1 (vs:=[(0,.pointer a_0)]) bu_Checker (xT rfl rfl) (Bld.one rfl rfl (by rw [Checker.len]; decide) (Checker.set_t _ _) Bld.nil)) rfl) (wd (zm zR rfl ((S.blk 0).all _ (Term.len _)) (Term.len _)) (wd (zw rfl) (wd (zi rfl) ?_)))))))
 obtain ⟨r11,er11,H⟩ := zq H
 obtain ⟨B13,MB13,SB13,back⟩ := S.calln 0 ((.z 1 rfl (.z 3 rfl (.z 0 rfl (.z 4 rfl .nil)))))
 refine zu (zt jC) zbA (zbm (a0:=(⟨a0⟩ : PChecker)) (a1:=a2) SB13 er11) ?_
 rintro v14 w12 ⟨_,rfl,S2⟩
 replace S:=back _ _ _ _ S2 rfl
 clear back S2 SB13
 obtain ⟨r15,er15,H⟩ := zq H
 obtain ⟨B17,MB17,SB17,back⟩ := S.calln 1 ((.z 4 rfl .nil))
 refine zu (zt ca_types_code) zbA (types_code_st (a0:=r11) SB17 er15) ?_
 rintro _ w16 ⟨s18,rfl,S2⟩
 replace S:=back _ _ _ _ S2 rfl
 clear back S2 SB17
 refine wd (zn rfl rfl) (wd (zn rfl rfl) (wd (y4 rfl) (wd (zh rfl) (zd (zr ?_)))))
 refine ⟨_,(xd (ze rfl) (ze rfl)),?_⟩
 replace S:=S.arr [0] []
 obtain rfl:=zbE H
 exact ⟨s18,rfl,S⟩
theorem types_Check_st {a0:Tb} {a_0:Option Addr} {a1:List Hyp} {s_1:SlV} {a2:PTerm} {s_2:SlV} {a3:Int} (S:St A N w w [] [oT a_0 a0,fS 2 Hyp.C s_1 a1,zg s_2 a2.sub,oEt]) {k:Nat} {r:Int} (H:zdF.f k a0 a1 a2 a3=some r) :
  Calls PP F_types_Check #[.pointer a_0,s_1.v,.agg (tmC a2 s_2).toArray,.int .i64 a3] w fun e w' => ∃ v,e = .returned v∧(v = .int .i64 r∧St A N w w' [] []):=by
 unfold zdF.f at H
 refine zy (n:=20) Tryz.func30 rfl rfl zbC (zb (za ?_))
 refine zE rfl zbA fun b2 w1 hw1=>?_
 replace S:=S.new hw1
 refine wd (zh rfl) (zd (zb (za (wd (zw rfl) (wd (zP rfl) (wd (zm zR rfl ((S.blk 0).all _ (Term.len _)) (Term.len _)) (wd (zi rfl) ?_)))))))
 obtain ⟨r3,er3,H⟩ := zq H
 obtain ⟨B5,MB5,SB5,back⟩ := S.calln 0 ((.z 0 rfl (.z 1 rfl (.z 2 rfl (.z 3 rfl .nil)))))
 refine zu (zt ca_types_Where) zbA (types_Where_st (a2:=a2) SB5 er3) ?_
 rintro _ w4 ⟨s6,rfl,S2⟩
 replace S:=back _ _ _ _ S2 rfl
 clear back S2 SB5
 refine wd (zU rfl) (wd (zn rfl rfl) (wd (zn rfl rfl) (wd (y4 rfl) (wd (zh rfl) (zd (zb (za (wd (zi rfl) (wd (zh rfl) (zd (zr ?_)))))))))))
 refine ⟨_,(zS (ze rfl)),?_⟩
 replace S:=S.arr [] []
 obtain rfl:=zbE H
 exact ⟨rfl,S⟩
theorem zaT {a0:Tb} {a_0:Option Addr} {a1:List Hyp} {s_1:SlV} {a2:PTerm} {s_2:SlV} (S:St A N w w [] [oT a_0 a0,fS 2 Hyp.C s_1 a1,zg s_2 a2.sub,oEt]) {k:Nat} {r:Int × Int} (H:zdG.f k a0 a1 a2=some r) :
  Calls PP F_types_Infer #[.pointer a_0,s_1.v,.agg (tmC a2 s_2).toArray] w fun e w' => ∃ v,e = .returned v∧(v = .tuple #[.int .i64 r.1,.int .i64 r.2]∧St A N w w' [] []):=by
 unfold zdG.f at H
 refine zy (n:=39) Tryz.func33 rfl rfl zbC (zb (za ?_))
 refine zE rfl zbA fun b2 w1 hw1=>?_
 replace S:=S.new hw1
 refine wd (zh rfl) (wd (zh rfl) (zd (zb (za (wd (zw rfl) (wd (zP rfl) (wd (zm zR rfl ((S.blk 0).all _ (Term.len _)) (Term.len _)) ?_)))))))
 replace S:=S.nil xh 1 IC
 obtain ⟨r3,er3,H⟩ := zq H
 obtain ⟨B5,MB5,SB5,back⟩ := S.sub [0,1,2] [oS xh 1 IC SlV.nil ([]:List Int)] [oB b2 zo (tmC a2 s_2)]
 refine zu (zF ca_types_ahead (zK rfl (zK rfl (zK rfl (zK SlV.nil_eq rfl))))) zbA (types_ahead_st (a2:=a2) SB5 er3) ?_
 rintro _ w4 ⟨a6,rfl,S2⟩
 replace S:=back _ _ _ _ _ S2 rfl rfl
 clear back S2 SB5
 refine wd (zU rfl) (wd (zn rfl rfl) (wd (zn rfl rfl) (wd (zX rfl) (wd (zh rfl) (zd (zb (zb (za (wd (zi rfl) (wd (xr rfl rfl) (zd ?_)))))))))))
 refine zJ rfl (fun hc7=>?_) (fun hc7=>?_)
 ·replace H:=if_t hc7 H
  refine zb (za (wd (zi rfl) (wd (zh rfl) (wd (zh rfl) (zd (zr ?_))))))
  refine ⟨_,(xd (ze rfl) (ze rfl)),?_⟩
  replace S:=S.arr [] []
  obtain rfl:=zbE H
  exact ⟨rfl,S⟩
 replace H:=if_f hc7 H
 refine zx (zb (za (wd (zw rfl) (wd (Does.to (v' := .agg (Checker.C (⟨a_0⟩ : Checker)).toArray) (z1 (vs:=[(0,.pointer a_0)]) bu_Checker (xT rfl rfl) (Bld.one rfl rfl (by rw [Checker.len]; decide) (Checker.set_t _ _) Bld.nil)) rfl) (wd (zm zR rfl ((S.blk 0).all _ (Term.len _)) (Term.len _)) (wd (zw rfl) ?_))))))
 obtain ⟨r8,er8,H⟩ := zq H
 obtain ⟨B10,MB10,SB10,back⟩ := S.calln 0 ((.z 1 rfl (.z 3 rfl (.z 0 rfl (.z 4 rfl .nil)))))
 refine zu (zt uQ) zbA (types_checker_told_st (a0:=(⟨a0⟩ : PChecker)) (a1:=a2) SB10 er8) ?_
 rintro _ w9 ⟨v11,rfl,S2⟩
 replace S:=back _ _ _ _ S2 rfl
 clear back S2 SB10
 refine wd (zU rfl) (wd (zn rfl rfl) (wd (zn rfl rfl) (wd (zh rfl) (wd (zI rfl) (zd (zb (zb (za (wd (z7 rfl) ?_)))))))))
 obtain ⟨r12,er12,H⟩ := zq H
 obtain ⟨B14,MB14,SB14,back⟩ := S.calln 1 ((.z 4 rfl .nil))
 refine zu (zt ca_types_code) zbA (types_code_st (a0:=r8.2) SB14 er12) ?_
 rintro _ w13 ⟨s15,rfl,S2⟩
 replace S:=back _ _ _ _ S2 rfl
 clear back S2 SB14
 refine wd (zU rfl) (wd (zn rfl rfl) (wd (zn rfl rfl) (wd (zh rfl) (zd (zb (za (wd (zi rfl) (wd (xr rfl rfl) (zd ?_)))))))))
 refine zJ rfl (fun hc16=>?_) (fun hc16=>?_)
 ·replace H:=if_t hc16 H
  refine zb (za (wd (zi rfl) (wd (zh rfl) (wd (zh rfl) (zd (zr ?_))))))
  refine ⟨_,(xd (ze rfl) (ze rfl)),?_⟩
  replace S:=S.arr [] []
  obtain rfl:=zbE H
  exact ⟨rfl,S⟩
 replace H:=if_f hc16 H
 refine zx (zb (za (wd (zi rfl) (wd (zh rfl) (wd (zh rfl) (zd (zr ?_)))))))
 refine ⟨_,(xd (ze rfl) (ze rfl)),?_⟩
 replace S:=S.arr [] []
 obtain rfl:=zbE H
 exact ⟨rfl,S⟩
end
section
open Gw Go.RowKit
section
variable {A:Nat→Prop} {N:Oth} {w0 w:World} {L Z:List OA}
theorem Gw.St.viewL_intC (h:St A N w0 w L Z) (k:Nat) {s:SlV} {l:List (List Int)} {i:Int} (hi:0 ≤ i∧i < l.length) (e:Z[k]? = some (zL s l):=by rfl) :
  ∃ n:SlV,St A N w0 w L (oCl s.blk (s.off + Int.toNat i * 1) (L_int.C n) :: fS 1 IC n (at_ [] l i) :: Z):=by
 obtain ⟨n,hc,S⟩ := h.viewL_int k hi e
 refine ⟨n,S.part (k + 1) (a:=zL s l) (b:=oCl s.blk (s.off + Int.toNat i * 1) (L_int.C n)) (fun F hF=>⟨fun j=>j=s.blk,⟨hc,?_,fun _=>Iff.rfl⟩,fun j hj=>?_⟩) (by simpa using e)⟩
 ·exact World.block_lt_of_cell? (a:=⟨_,_,none⟩) w (hc 0 n.v rfl)
 ·obtain ⟨ms,G,H,g,hh,q⟩ := hF
  have hl:=big_len hh
  rw [hj]
  refine (q.2 _).2 (.inl ((g.2 _).2 ⟨fun e0=>?_,rfl⟩))
  have h3:i.toNat < ms.length:=by omega
  have hp:=(g.1.1.toRd.sl.cells i.toNat (L_int.C ms[i.toNat]) (by simp [List.getElem?_eq_getElem h3])).1
  rw [e0] at hp
  cases hp
end
end
section
open Gw Go.RowKit
set_option maxHeartbeats 4000000
set_option maxRecDepth 20000
theorem law14_ReduceKeeps_st {A:Nat→Prop} {N:Oth} {w:World} {a0:List Nd} {s_0:SlV} {a1:List Hyp} {s_1:SlV} {a2:PTerm} {s_2:SlV} {a3:Int} (S:St A N w w [] [fS 4 Nd.C s_0 a0,fS 2 Hyp.C s_1 a1,zg s_2 a2.sub,oEt,oPw]) {k:Nat} {r:Bool} (H:zdH.f k a0 a1 a2 a3=some r) :
  Calls PP yu #[s_0.v,s_1.v,.agg (tmC a2 s_2).toArray,.int .i64 a3] w fun e w' => ∃ v,e = .returned v∧(v = .bool r∧St A N w w' [] []):=by
 unfold zdH.f at H
 refine zy (n:=118) ud rfl rfl zbC (zb (za ?_))
 refine zE rfl zbA fun b2 w1 hw1=>?_
 replace S:=S.new hw1
 refine wd (zj rfl) (zd (zb (za (wd (zP rfl) ?_))))
 obtain ⟨r3,er3,H⟩ := zq H
 obtain ⟨B5,MB5,SB5,back⟩ := S.calln 0 ((.z 0 rfl .nil))
 refine zu (zt ca_law04_Tables) zbA (law04_Tables_st SB5 er3) ?_
 rintro _ w4 ⟨a6,a7,rfl,S2⟩
 replace S:=back _ _ _ _ S2 rfl
 clear back S2 SB5
 refine wd (zU rfl) (wd (zn rfl rfl) (wd (zn rfl rfl) (wd (zX rfl) (wd (zX rfl) (zd (zb (za ?_)))))))
 refine wd (zw rfl) (wd (zm zR rfl ((S.blk 2).all _ (Term.len _)) (Term.len _)) ?_)
 obtain ⟨r8,er8,H⟩ := zq H
 obtain ⟨B10,MB10,SB10,back⟩ := S.sub [2] [] [oT a6 r3.1,oR a7 r3.2,oB b2 zo (tmC a2 s_2)]
 refine zu (zt vE) zbA (um (a0:=a2) SB10 er8) ?_
 rintro _ w9 ⟨s11,rfl,S2⟩
 replace S:=back _ _ _ _ _ S2 rfl rfl
 clear back S2 SB10
 obtain ⟨r12,er12,H⟩ := zq H
 obtain ⟨B14,MB14,SB14,back⟩ := S.calln 0 ((.o 0 rfl (.z 0 rfl (.z 5 rfl .nil))))
 refine zu (zt j9) zbA (km (a1:=r8) SB14 er12) ?_
 rintro _ w13 ⟨s15,rfl,S2⟩
 replace S:=back _ _ _ _ S2 rfl
 clear back S2 SB14
 replace S:=S.frzO 0
 refine wd (zU rfl) (wd (zn rfl rfl) (wd (zn rfl rfl) (wd (y4 rfl) (wd (zh rfl) (zd (zb (zb (za ?_))))))))
 refine wd (zi rfl) ?_
 obtain ⟨r16,er16,H⟩ := zq H
 obtain ⟨B18,MB18,SB18,back⟩ := S.calln 0 ((.nil))
 refine zu (zt yb) zbA (yd SB18 er16) ?_
 rintro _ w17 ⟨rfl,S2⟩
 replace S:=back _ _ _ _ S2 rfl
 clear back S2 SB18
 refine wd (xr rfl rfl) (zd ?_)
 refine zJ rfl (fun hc19=>?_) (fun hc19=>?_)
 ·replace H:=if_t hc19 H
  refine zb (za (wd (zP rfl) (wd (kD y7 rfl (S.onZ 0)) (wd (zV rfl rfl) (wd (zA rfl) ?_)))))
  obtain ⟨r20,er20,H⟩ := zq H
  refine xU (j:=3) (pol:=true) rfl rfl rfl zbA (fun hg=>zF ca_law14_heads rfl) zbA (fun hg=>(have ⟨M,SS⟩ := S.lend ((.z 6 rfl .nil)); quiet (law14_heads_st SS (if_t (by simpa using hg) er20)) (fun v w' h=>⟨h.1,_,_,h.2⟩))) fun w21 hw21=>?_
  replace S:=S.ext hw21
  refine wd (zZ rfl (fun hp=>(zp (xz hp)))) (wd (zj rfl) (zd (zr ?_)))
  refine ⟨_,(zS (ze rfl)),?_⟩
  replace S:=S.arr [] []
  obtain rfl:=zbE H
  exact ⟨rfl,S⟩
 replace H:=if_f hc19 H
 refine zx (zb (za (wd (zw rfl) (wd (zP rfl) (wd (zm zR rfl ((S.blk 2).all _ (Term.len _)) (Term.len _)) ?_)))))
 obtain ⟨r22,er22,H⟩ := zq H
 obtain ⟨B24,MB24,SB24,back⟩ := S.sub [4] [] [oT a6 r3.1,oR a7 r3.2,oB b2 zo (tmC a2 s_2)]
 refine zu (zt vE) zbA (um (a0:=a2) SB24 er22) ?_
 rintro _ w23 ⟨s25,rfl,S2⟩
 replace S:=back _ _ _ _ _ S2 rfl rfl
 clear back S2 SB24
 refine wd (zi rfl) ?_
 obtain ⟨r26,er26,H⟩ := zq H
 obtain ⟨B28,MB28,SB28,back⟩ := S.calln 0 ((.o 0 rfl (.z 4 rfl (.z 0 rfl (.z 6 rfl .nil)))))
 refine zu (zt ca_types_Check) zbA (types_Check_st (a2:=r22) SB28 er26) ?_
 rintro _ w27 ⟨rfl,S2⟩
 replace S:=back _ _ _ _ S2 rfl
 clear back S2 SB28
 obtain ⟨r29,er29,H⟩ := zq H
 obtain ⟨B31,MB31,SB31,back⟩ := S.calln 0 ((.nil))
 refine zu (zt yb) zbA (yd SB31 er29) ?_
 rintro _ w30 ⟨rfl,S2⟩
 replace S:=back _ _ _ _ S2 rfl
 clear back S2 SB31
 refine wd (zV rfl rfl) (wd (zj rfl) (zd (zb (za (wd (zw rfl) (wd (zP rfl) ?_))))))
 refine wd (zm zR rfl ((S.blk 2).all _ (Term.len _)) (Term.len _)) ?_
 obtain ⟨r32,er32,H⟩ := zq H
 obtain ⟨B34,MB34,SB34,back⟩ := S.sub [5] [] [oT a6 r3.1,oR a7 r3.2,oB b2 zo (tmC a2 s_2)]
 refine zu (zt vE) zbA (um (a0:=a2) SB34 er32) ?_
 rintro _ w33 ⟨s35,rfl,S2⟩
 replace S:=back _ _ _ _ _ S2 rfl rfl
 clear back S2 SB34
 obtain ⟨r36,er36,H⟩ := zq H
 obtain ⟨B38,MB38,SB38,back⟩ := S.calln 0 ((.o 0 rfl (.z 5 rfl (.z 0 rfl (.z 7 rfl .nil)))))
 refine zu (zt zaL) zbA (zaT (a2:=r32) SB38 er36) ?_
 rintro _ w37 ⟨rfl,S2⟩
 replace S:=back _ _ _ _ S2 rfl
 clear back S2 SB38
 refine wd (zU rfl) (wd (zn rfl rfl) (wd (zn rfl rfl) (wd (zh rfl) (wd (zh rfl) (zd (zb (zb (za ?_))))))))
 refine wd (zh rfl) (zd ?_)
 replace S:=(S.frzO 0).frzO 0
 obtain ⟨o39,e39,Ho39⟩ := zq H
 clear H
 refine xV [8,16,17,18,19,20,58,59,60,61,62,63,64,65,66,67,68,69,70,71,72,73,74,75,76,77,78,79,80,81,82,83,84,85,86,87,88,89,90,91,92,93,94,95,96,97,98,99,100,101,102,103,104,105,106,107,108,109,110,111,112,113,114,115,116] (fun fr W => ∃ s39:Int,o39 = .inl s39∧fr 16 = .int .i64 s39∧St A N w W [oB b2 zo (tmC a2 s_2)] [oR a7 r3.2,oT a6 r3.1,zg s35 r32.sub,zg s25 r22.sub,zL s15 r12.1,zg s11 r8.sub,fS 4 Nd.C s_0 a0,fS 2 Hyp.C s_1 a1,zg s_2 a2.sub,oEt,oPw]) ?_ ?_
 ·refine zO ?_
  refine xR (α:=Nat × Int) [8,16,17,18,19,20,58,59,60,61,62,63,64,65,66,67,68,69,70,71,72,73,74,75,76,77,78,79,80,81,82,83,84,85,86,87,88,89,90,91,92,93,94,95,96,97,98,99,100,101,102,103,104,105,106,107,108,109,110,111,112,113,114,115,116] (fun x fr W=>iter (fun s=>zdH.b0 r12 k a2 r3 r29 a1 a3 r36 s) x.1 x.2=some o39∧fr 16 = .int .i64 (x.2)∧St A N w W [oB b2 zo (tmC a2 s_2)] [oR a7 r3.2,oT a6 r3.1,zg s35 r32.sub,zg s25 r22.sub,zL s15 r12.1,zg s11 r8.sub,fS 4 Nd.C s_0 a0,fS 2 Hyp.C s_1 a1,zg s_2 a2.sub,oEt,oPw]) (fun x=>x.1) (k,0) ⟨(by dsimp only; exact e39),rfl,S⟩ ?_
  rintro ⟨m39,x39_0⟩ g39 u39 ⟨e39,q39_16,S⟩
  try dsimp only at e39
  try dsimp only at S
  try dsimp only at q39_16
  obtain ⟨m39,rfl⟩ : ∃ m,m39=m + 1:=⟨m39 - 1,by cases m39 with | zero=>cases e39 | succ m=>rfl⟩
  obtain ⟨q39,H,e39⟩ := iter_s e39
  unfold zdH.b0 at H
  try dsimp only at H
  refine zb (zb (za (wd (zi q39_16) (wd (zP rfl) (wd (kD y7 rfl (S.onZ 4)) (wd (xy rfl rfl) (wd (zA rfl) ?_)))))))
  refine wg (fun hg=>zi q39_16) ?_
  refine wg (fun hg=>xy (zp hg) rfl) (wd (zZ rfl (fun hp=>(zp (xz hp)))) (zd ?_))
  refine zJ rfl (fun hc40=>?_) (fun hc40=>?_)
  rotate_left
  ·replace H:=if_f hc40 H
   refine x0 ?_
   obtain rfl:=zbE H
   exact ⟨rfl,(((((((((Dif.self _ _ _).upd rfl _).upd rfl _).upd rfl _).upd rfl _).upd rfl _).upd rfl _).upd rfl _).upd rfl _),x39_0,e39,q39_16,S⟩
  replace H:=if_t hc40 H
  refine zx (zb ?_)
  refine zO (zb ?_)
  obtain ⟨r42,er42,H⟩ := zq H
  obtain ⟨hi46,H⟩ := xb H
  obtain ⟨r48,er48,H⟩ := zq H
  obtain ⟨s47,S⟩ := S.viewL_intC 4 (zM hi46)
  replace S:=S.zs [2,3,4,5,6,7,8,9,10,11,12,0,1]
  refine vh 13 ⟨fun _ _=>True,fun _ _ _=>True,fun i v _=>match i with
   | 0=>v=Value.pointer a6
   | 1=>v=Value.agg (tmC a2 s_2).toArray
   | 3=>v=s15.v
   | 4=>v=Value.int .i64 x39_0
   | 5=>v=Value.pointer (some ⟨s15.blk,s15.off + Int.toNat x39_0 * 1,none⟩)
   | 6=>v=s47.v
   | 10=>v=Value.int .i64 r48.2
   | _=>True⟩ (fun L g v => ∃ b53:Nat,∃ s55:SlV,∃ O57:List OA,∃ Z56:List OA,(∀ z ∈ [oR a7 r3.2,oT a6 r3.1,zg s35 r32.sub,zg s25 r22.sub,zL s15 r12.1,zg s11 r8.sub,fS 4 Nd.C s_0 a0,fS 2 Hyp.C s_1 a1,zg s_2 a2.sub,oEt,oPw,oCl s15.blk (s15.off + Int.toNat x39_0 * 1) (L_int.C s47),fS 1 IC s47 (at_ [] r12.1 x39_0)],z ∈ Z56)∧Made L g Z56 2 71 (fun (c:SlV)=>Value.agg (tmC r42 c).toArray) (fun (c:SlV)=>[zg c r42.sub])∧Made L g Z56 7 76 (fun (c:SlV)=>Value.tuple #[.agg (tmC r48.1 c).toArray,.int .i64 r48.2]) (fun (c:SlV)=>[zg c r48.1.sub])∧Made L g Z56 8 68 (fun (c:SlV)=>Value.tuple #[.agg (tmC r48.1 c).toArray,.int .i64 r48.2]) (fun (c:SlV)=>[zg c r48.1.sub])∧Made L g Z56 9 77 (fun (c:SlV)=>Value.agg (tmC r48.1 c).toArray) (fun (c:SlV)=>[zg c r48.1.sub])∧(L 11=true→g 17=Value.pointer (some ⟨b53,0,none⟩))∧(L 12=true → ∀ z ∈ [zg s55 r48.1.sub],z ∈ Z56)∧O57=((bif L 12 then [oB b53 zo (tmC r48.1 s55)] else (bif L 11 then [oB b53 zo (Term.C tmZ)] else [])) ++ [oB b2 zo (tmC a2 s_2)])∧St A N w v O57 Z56) hmix zbD (fun _ _ _ _ _ _ _ hv=>hv) (fun g=>⟨0,SlV.nil,_,_,fun _ h=>h,Made.no,Made.no,Made.no,Made.no,(fun h=>by cases h),(fun h=>by cases h),rfl,S.ext (Ext.drawn _)⟩) ⟨?_,?_,?_,?_,?_,?_,?_,?_,?_,?_,?_,?_,?_,trivial⟩ ?_
  ·rintro L g v hL hcl hclo ⟨b53,s55,O57,Z56,hZ,hm2,hm7,hm8,hm9,hk11,hq12,hO,S⟩ 
   have hl12:L 12=false:=by cases h:L 12 with | false=>rfl | true=>exact absurd (hclo 12 0 h zbD) (by rw [hL]; decide)
   have SR:St A N w v [oB b2 zo (tmC a2 s_2)] (oR a7 r3.2 :: oT a6 r3.1 :: zg s35 r32.sub :: zg s25 r22.sub :: zL s15 r12.1 :: zg s11 r8.sub :: fS 4 Nd.C s_0 a0 :: fS 2 Hyp.C s_1 a1 :: zg s_2 a2.sub :: oEt :: oPw :: oCl s15.blk (s15.off + Int.toNat x39_0 * 1) (L_int.C s47) :: fS 1 IC s47 (at_ [] r12.1 x39_0) :: Z56):=by
    have S2:=S.zneed hZ
    rw [hO] at S2
    simp only [hl12,cond_true,cond_false,List.nil_append,List.append_assoc,List.cons_append] at S2
    exact S2.drops
   refine wd (zw rfl) ?_
   exact zd (ob4 trivial rfl ⟨b53,s55,O57,Z56,hZ,hm2.keep rfl rfl tl0,hm7.keep rfl rfl tl0,hm8.keep rfl rfl tl0,hm9.keep rfl rfl tl0,(fun h=>by rw [xB _ _ _ _ zbA]; exact hk11 (by rw [xl rfl] at h; exact h)),(fun h z q=>tl0 z (hq12 (by rw [xl rfl] at h; exact h) z q)),by rw [hO]; simp only [xl (L:=L) (i:=0) (j:=11) rfl,xl (L:=L) (i:=0) (j:=12) rfl],S⟩)
  ·rintro L g v hL hcl hclo ⟨b53,s55,O57,Z56,hZ,hm2,hm7,hm8,hm9,hk11,hq12,hO,S⟩ 
   have hl12:L 12=false:=by cases h:L 12 with | false=>rfl | true=>exact absurd (hclo 12 1 h zbD) (by rw [hL]; decide)
   have SR:St A N w v [oB b2 zo (tmC a2 s_2)] (oR a7 r3.2 :: oT a6 r3.1 :: zg s35 r32.sub :: zg s25 r22.sub :: zL s15 r12.1 :: zg s11 r8.sub :: fS 4 Nd.C s_0 a0 :: fS 2 Hyp.C s_1 a1 :: zg s_2 a2.sub :: oEt :: oPw :: oCl s15.blk (s15.off + Int.toNat x39_0 * 1) (L_int.C s47) :: fS 1 IC s47 (at_ [] r12.1 x39_0) :: Z56):=by
    have S2:=S.zneed hZ
    rw [hO] at S2
    simp only [hl12,cond_true,cond_false,List.nil_append,List.append_assoc,List.cons_append] at S2
    exact S2.drops
   refine wd (zm zR rfl ((SR.blk 0).all _ (Term.len _)) (Term.len _)) ?_
   exact zd (ob4 trivial rfl ⟨b53,s55,O57,Z56,hZ,hm2.keep rfl rfl tl0,hm7.keep rfl rfl tl0,hm8.keep rfl rfl tl0,hm9.keep rfl rfl tl0,(fun h=>by rw [xB _ _ _ _ zbA]; exact hk11 (by rw [xl rfl] at h; exact h)),(fun h z q=>tl0 z (hq12 (by rw [xl rfl] at h; exact h) z q)),by rw [hO]; simp only [xl (L:=L) (i:=1) (j:=11) rfl,xl (L:=L) (i:=1) (j:=12) rfl],S⟩)
  ·rintro L g v hL hcl hclo ⟨b53,s55,O57,Z56,hZ,hm2,hm7,hm8,hm9,hk11,hq12,hO,S⟩ hv1
   have hl12:L 12=false:=by cases h:L 12 with | false=>rfl | true=>exact absurd (hclo 12 2 h zbD) (by rw [hL]; decide)
   replace S:=(S.zneed hZ)
   obtain ⟨B60,MB60,SB60,back⟩ := S.sub [8] [] (O57)
   refine zu (zF vE (zK hv1 rfl)) zbA (um (a0:=a2) SB60 er42) ?_
   rintro _ w59 ⟨s61,rfl,S2⟩
   replace S:=back _ _ _ _ _ S2 rfl rfl
   clear back S2 SB60
   exact zd (ob4 trivial trivial ⟨b53,s55,O57,_,(fun z h=>tl14 z (hZ z h)),Made.one (val:=(fun (c:SlV)=>Value.agg (tmC r42 c).toArray)) (ps:=(fun (c:SlV)=>[zg c r42.sub])) s61 (yf List.mem_cons_self yC),hm7.keep rfl rfl tl14,hm8.keep rfl rfl tl14,hm9.keep rfl rfl tl14,(fun h=>by rw [xB _ _ _ _ zbA]; exact hk11 (by rw [xl rfl] at h; exact h)),(fun h z q=>tl14 z (hq12 (by rw [xl rfl] at h; exact h) z q)),by rw [hO]; simp only [xl (L:=L) (i:=2) (j:=11) rfl,xl (L:=L) (i:=2) (j:=12) rfl],S⟩)
  ·rintro L g v hL hcl hclo ⟨b53,s55,O57,Z56,hZ,hm2,hm7,hm8,hm9,hk11,hq12,hO,S⟩ 
   have hl12:L 12=false:=by cases h:L 12 with | false=>rfl | true=>exact absurd (hclo 12 3 h zbD) (by rw [hL]; decide)
   have SR:St A N w v [oB b2 zo (tmC a2 s_2)] (oR a7 r3.2 :: oT a6 r3.1 :: zg s35 r32.sub :: zg s25 r22.sub :: zL s15 r12.1 :: zg s11 r8.sub :: fS 4 Nd.C s_0 a0 :: fS 2 Hyp.C s_1 a1 :: zg s_2 a2.sub :: oEt :: oPw :: oCl s15.blk (s15.off + Int.toNat x39_0 * 1) (L_int.C s47) :: fS 1 IC s47 (at_ [] r12.1 x39_0) :: Z56):=by
    have S2:=S.zneed hZ
    rw [hO] at S2
    simp only [hl12,cond_true,cond_false,List.nil_append,List.append_assoc,List.cons_append] at S2
    exact S2.drops
   refine wd (zP rfl) ?_
   exact zd (ob4 trivial rfl ⟨b53,s55,O57,Z56,hZ,hm2.keep rfl rfl tl0,hm7.keep rfl rfl tl0,hm8.keep rfl rfl tl0,hm9.keep rfl rfl tl0,(fun h=>by rw [xB _ _ _ _ zbA]; exact hk11 (by rw [xl rfl] at h; exact h)),(fun h z q=>tl0 z (hq12 (by rw [xl rfl] at h; exact h) z q)),by rw [hO]; simp only [xl (L:=L) (i:=3) (j:=11) rfl,xl (L:=L) (i:=3) (j:=12) rfl],S⟩)
  ·rintro L g v hL hcl hclo ⟨b53,s55,O57,Z56,hZ,hm2,hm7,hm8,hm9,hk11,hq12,hO,S⟩ 
   have hl12:L 12=false:=by cases h:L 12 with | false=>rfl | true=>exact absurd (hclo 12 4 h zbD) (by rw [hL]; decide)
   have SR:St A N w v [oB b2 zo (tmC a2 s_2)] (oR a7 r3.2 :: oT a6 r3.1 :: zg s35 r32.sub :: zg s25 r22.sub :: zL s15 r12.1 :: zg s11 r8.sub :: fS 4 Nd.C s_0 a0 :: fS 2 Hyp.C s_1 a1 :: zg s_2 a2.sub :: oEt :: oPw :: oCl s15.blk (s15.off + Int.toNat x39_0 * 1) (L_int.C s47) :: fS 1 IC s47 (at_ [] r12.1 x39_0) :: Z56):=by
    have S2:=S.zneed hZ
    rw [hO] at S2
    simp only [hl12,cond_true,cond_false,List.nil_append,List.append_assoc,List.cons_append] at S2
    exact S2.drops
   refine wd (zi q39_16) ?_
   exact zd (ob4 trivial rfl ⟨b53,s55,O57,Z56,hZ,hm2.keep rfl rfl tl0,hm7.keep rfl rfl tl0,hm8.keep rfl rfl tl0,hm9.keep rfl rfl tl0,(fun h=>by rw [xB _ _ _ _ zbA]; exact hk11 (by rw [xl rfl] at h; exact h)),(fun h z q=>tl0 z (hq12 (by rw [xl rfl] at h; exact h) z q)),by rw [hO]; simp only [xl (L:=L) (i:=4) (j:=11) rfl,xl (L:=L) (i:=4) (j:=12) rfl],S⟩)
  ·rintro L g v hL hcl hclo ⟨b53,s55,O57,Z56,hZ,hm2,hm7,hm8,hm9,hk11,hq12,hO,S⟩ hv3 hv4
   have hl12:L 12=false:=by cases h:L 12 with | false=>rfl | true=>exact absurd (hclo 12 5 h zbD) (by rw [hL]; decide)
   have SR:St A N w v [oB b2 zo (tmC a2 s_2)] (oR a7 r3.2 :: oT a6 r3.1 :: zg s35 r32.sub :: zg s25 r22.sub :: zL s15 r12.1 :: zg s11 r8.sub :: fS 4 Nd.C s_0 a0 :: fS 2 Hyp.C s_1 a1 :: zg s_2 a2.sub :: oEt :: oPw :: oCl s15.blk (s15.off + Int.toNat x39_0 * 1) (L_int.C s47) :: fS 1 IC s47 (at_ [] r12.1 x39_0) :: Z56):=by
    have S2:=S.zneed hZ
    rw [hO] at S2
    simp only [hl12,cond_true,cond_false,List.nil_append,List.append_assoc,List.cons_append] at S2
    exact S2.drops
   refine wd (does_indexD y7 hv3 hv4 (SR.onZ 4) (zM hi46).1 (zM hi46).2) ?_
   exact zd (ob4 trivial rfl ⟨b53,s55,O57,Z56,hZ,hm2.keep rfl rfl tl0,hm7.keep rfl rfl tl0,hm8.keep rfl rfl tl0,hm9.keep rfl rfl tl0,(fun h=>by rw [xB _ _ _ _ zbA]; exact hk11 (by rw [xl rfl] at h; exact h)),(fun h z q=>tl0 z (hq12 (by rw [xl rfl] at h; exact h) z q)),by rw [hO]; simp only [xl (L:=L) (i:=5) (j:=11) rfl,xl (L:=L) (i:=5) (j:=12) rfl],S⟩)
  ·rintro L g v hL hcl hclo ⟨b53,s55,O57,Z56,hZ,hm2,hm7,hm8,hm9,hk11,hq12,hO,S⟩ hv5
   have hl12:L 12=false:=by cases h:L 12 with | false=>rfl | true=>exact absurd (hclo 12 6 h zbD) (by rw [hL]; decide)
   have SR:St A N w v [oB b2 zo (tmC a2 s_2)] (oR a7 r3.2 :: oT a6 r3.1 :: zg s35 r32.sub :: zg s25 r22.sub :: zL s15 r12.1 :: zg s11 r8.sub :: fS 4 Nd.C s_0 a0 :: fS 2 Hyp.C s_1 a1 :: zg s_2 a2.sub :: oEt :: oPw :: oCl s15.blk (s15.off + Int.toNat x39_0 * 1) (L_int.C s47) :: fS 1 IC s47 (at_ [] r12.1 x39_0) :: Z56):=by
    have S2:=S.zneed hZ
    rw [hO] at S2
    simp only [hl12,cond_true,cond_false,List.nil_append,List.append_assoc,List.cons_append] at S2
    exact S2.drops
   refine wd (zl kk hv5 ((SR.cl 11).get (i:=0) rfl)) ?_
   exact zd (ob4 trivial rfl ⟨b53,s55,O57,Z56,hZ,hm2.keep rfl rfl tl0,hm7.keep rfl rfl tl0,hm8.keep rfl rfl tl0,hm9.keep rfl rfl tl0,(fun h=>by rw [xB _ _ _ _ zbA]; exact hk11 (by rw [xl rfl] at h; exact h)),(fun h z q=>tl0 z (hq12 (by rw [xl rfl] at h; exact h) z q)),by rw [hO]; simp only [xl (L:=L) (i:=6) (j:=11) rfl,xl (L:=L) (i:=6) (j:=12) rfl],S⟩)
  ·rintro L g v hL hcl hclo ⟨b53,s55,O57,Z56,hZ,hm2,hm7,hm8,hm9,hk11,hq12,hO,S⟩ hv0 _ hv6
   obtain ⟨s45,he2,hp2⟩ := hm2 (hcl 2 zbD)
   have hl12:L 12=false:=by cases h:L 12 with | false=>rfl | true=>exact absurd (hclo 12 7 h zbD) (by rw [hL]; decide)
   replace S:=(S.zneed (xG (l1:=[zg s45 r42.sub]) hp2 hZ))
   obtain ⟨B65,MB65,SB65,back⟩ := S.sub [2,0,13,11] [] (O57)
   refine zu (zF ca_reduce_Do (zK hv0 (zK he2 (zK hv6 rfl)))) zbA (reduce_Do_st (a1:=r42) SB65 er48) ?_
   rintro _ w64 ⟨s66,rfl,S2⟩
   replace S:=back _ _ _ _ _ S2 rfl rfl
   clear back S2 SB65
   exact zd (ob4 trivial trivial ⟨b53,s55,O57,_,(fun z h=>tl15 z (hZ z h)),hm2.keep rfl rfl tl15,Made.one (val:=(fun (c:SlV)=>Value.tuple #[.agg (tmC r48.1 c).toArray,.int .i64 r48.2])) (ps:=(fun (c:SlV)=>[zg c r48.1.sub])) s66 (yf List.mem_cons_self yC),hm8.keep rfl rfl tl15,hm9.keep rfl rfl tl15,(fun h=>by rw [xB _ _ _ _ zbA]; exact hk11 (by rw [xl rfl] at h; exact h)),(fun h z q=>tl15 z (hq12 (by rw [xl rfl] at h; exact h) z q)),by rw [hO]; simp only [xl (L:=L) (i:=7) (j:=11) rfl,xl (L:=L) (i:=7) (j:=12) rfl],S⟩)
  ·rintro L g v hL hcl hclo ⟨b53,s55,O57,Z56,hZ,hm2,hm7,hm8,hm9,hk11,hq12,hO,S⟩ _
   obtain ⟨s51,he7,hp7⟩ := hm7 (hcl 7 zbD)
   have hl12:L 12=false:=by cases h:L 12 with | false=>rfl | true=>exact absurd (hclo 12 8 h zbD) (by rw [hL]; decide)
   replace S:=(S.zneed (xG (l1:=[zg s51 r48.1.sub]) hp7 hZ))
   refine wd (zU he7) ?_
   exact zd (ob4 trivial trivial ⟨b53,s55,O57,_,(fun z h=>tl14 z (hZ z h)),hm2.keep rfl rfl tl14,hm7.keep rfl rfl tl14,Made.one (val:=(fun (c:SlV)=>Value.tuple #[.agg (tmC r48.1 c).toArray,.int .i64 r48.2])) (ps:=(fun (c:SlV)=>[zg c r48.1.sub])) s51 (yf List.mem_cons_self yC),hm9.keep rfl rfl tl14,(fun h=>by rw [xB _ _ _ _ zbA]; exact hk11 (by rw [xl rfl] at h; exact h)),(fun h z q=>tl14 z (hq12 (by rw [xl rfl] at h; exact h) z q)),by rw [hO]; simp only [xl (L:=L) (i:=8) (j:=11) rfl,xl (L:=L) (i:=8) (j:=12) rfl],S⟩)
  ·rintro L g v hL hcl hclo ⟨b53,s55,O57,Z56,hZ,hm2,hm7,hm8,hm9,hk11,hq12,hO,S⟩ _
   obtain ⟨s51,he8,hp8⟩ := hm8 (hcl 8 zbD)
   have hl12:L 12=false:=by cases h:L 12 with | false=>rfl | true=>exact absurd (hclo 12 9 h zbD) (by rw [hL]; decide)
   replace S:=(S.zneed (xG (l1:=[zg s51 r48.1.sub]) hp8 hZ))
   refine wd (zn he8 rfl) ?_
   exact zd (ob4 trivial trivial ⟨b53,s55,O57,_,(fun z h=>tl14 z (hZ z h)),hm2.keep rfl rfl tl14,hm7.keep rfl rfl tl14,hm8.keep rfl rfl tl14,Made.one (val:=(fun (c:SlV)=>Value.agg (tmC r48.1 c).toArray)) (ps:=(fun (c:SlV)=>[zg c r48.1.sub])) s51 (yf List.mem_cons_self yC),(fun h=>by rw [xB _ _ _ _ zbA]; exact hk11 (by rw [xl rfl] at h; exact h)),(fun h z q=>tl14 z (hq12 (by rw [xl rfl] at h; exact h) z q)),by rw [hO]; simp only [xl (L:=L) (i:=9) (j:=11) rfl,xl (L:=L) (i:=9) (j:=12) rfl],S⟩)
  ·rintro L g v hL hcl hclo ⟨b53,s55,O57,Z56,hZ,hm2,hm7,hm8,hm9,hk11,hq12,hO,S⟩ _
   obtain ⟨s51,he8,hp8⟩ := hm8 (hcl 8 zbD)
   have SR:St A N w v [oB b2 zo (tmC a2 s_2)] (zg s51 r48.1.sub :: oR a7 r3.2 :: oT a6 r3.1 :: zg s35 r32.sub :: zg s25 r22.sub :: zL s15 r12.1 :: zg s11 r8.sub :: fS 4 Nd.C s_0 a0 :: fS 2 Hyp.C s_1 a1 :: zg s_2 a2.sub :: oEt :: oPw :: oCl s15.blk (s15.off + Int.toNat x39_0 * 1) (L_int.C s47) :: fS 1 IC s47 (at_ [] r12.1 x39_0) :: Z56):=by
    have S2:=S.zneed (xG (l1:=[zg s51 r48.1.sub]) hp8 hZ)
    rw [hO] at S2
    exact S2.drops
   refine wd (zn he8 rfl) ?_
   exact zd (ob4 trivial rfl ⟨b53,s55,O57,Z56,hZ,hm2.keep rfl rfl tl0,hm7.keep rfl rfl tl0,hm8.keep rfl rfl tl0,hm9.keep rfl rfl tl0,(fun h=>by rw [xB _ _ _ _ zbA]; exact hk11 (by rw [xl rfl] at h; exact h)),(fun h z q=>tl0 z (hq12 (by rw [xl rfl] at h; exact h) z q)),by rw [hO]; simp only [xl (L:=L) (i:=10) (j:=11) rfl,xl (L:=L) (i:=10) (j:=12) rfl],S⟩)
  ·rintro L g v hL hcl hclo ⟨b53,s55,O57,Z56,hZ,hm2,hm7,hm8,hm9,hk11,hq12,hO,S⟩ 
   have hl11:L 11=false:=hL
   have hl12:L 12=false:=by cases h:L 12 with | false=>rfl | true=>exact absurd (hclo 12 11 h zbD) (by rw [hL]; decide)
   have hOP : ∃ P Y,P=[]∧Y=[oB b2 zo (tmC a2 s_2)]∧O57=P ++ ([] ++ Y):=⟨_,_,rfl,rfl,by rw [hO]; simp only [hl11,hl12,cond_true,cond_false,List.nil_append,List.append_assoc,List.cons_append]⟩
   obtain ⟨P,Y,hP,hY,hPY⟩ := hOP
   rw [hPY] at S
   replace S:=S
   refine zQ xC zbA fun b68 w67 hw67=>?_
   replace S:=S.new hw67
   refine zd (ob4 trivial trivial ⟨b68,s55,P ++ ([oB b68 zo (Term.C tmZ)] ++ Y),_,hZ,hm2.keep rfl rfl tl0,hm7.keep rfl rfl tl0,hm8.keep rfl rfl tl0,hm9.keep rfl rfl tl0,(fun _=>upd_same _ _ _),(fun h z q=>tl0 z (hq12 (by rw [xl rfl] at h; exact h) z q)),?_,S.ins (P:=[oB b68 zo (Term.C tmZ)])⟩)
   rw [hP,hY]; simp only [xl (L:=L) (i:=11) (j:=12) rfl,x9 (L:=L) (i:=11),hl12,cond_true,cond_false,List.nil_append,List.append_assoc,List.cons_append]
  ·rintro L g v hL hcl hclo ⟨b53,s55,O57,Z56,hZ,hm2,hm7,hm8,hm9,hk11,hq12,hO,S⟩ _ _
   obtain ⟨s51,he9,hp9⟩ := hm9 (hcl 9 zbD)
   have hl11:L 11=true:=hcl 11 zbD
   have hl12:L 12=false:=hL
   have hOP : ∃ P Y,P=[]∧Y=[oB b2 zo (tmC a2 s_2)]∧O57=P ++ ([oB b53 zo (Term.C tmZ)] ++ Y):=⟨_,_,rfl,rfl,by rw [hO]; simp only [hl11,hl12,cond_true,cond_false,List.nil_append,List.append_assoc,List.cons_append]⟩
   obtain ⟨P,Y,hP,hY,hPY⟩ := hOP
   rw [hPY] at S
   replace S:=(S.ins.zneed (xG (l1:=[zg s51 r48.1.sub]) hp9 hZ))
   refine zT zR (hk11 (hcl 11 zbD)) he9 (S.blk 0) (Term.len _) (by rw [Term.len]; decide) (Term.one _) (xe (Term.len _)) fun w69 B hw69 zw69=>?_
   replace S:=S.store 0 B hw69
   clear B
   refine zd (ob40 trivial (fun _=>trivial) ⟨b53,s51,P ++ ([oB b53 zo (tmC r48.1 s51)] ++ Y),_,(fun z h=>tl14 z (hZ z h)),hm2.keep0 rfl tl14,hm7.keep0 rfl tl14,hm8.keep0 rfl tl14,hm9.keep0 rfl tl14,(fun h=>hk11 (by rw [xl rfl] at h; exact h)),(fun _ z q=>tl14 z (hp9 z q)),?_,S.ins (P:=[oB b53 zo (tmC r48.1 s51)])⟩)
   rw [hP,hY]; simp only [xl (L:=L) (i:=12) (j:=11) rfl,x9 (L:=L) (i:=12),hl11,cond_true,cond_false,List.nil_append,List.append_assoc,List.cons_append]
  rintro L g w70 hLm ⟨b53,s55,O57,Z56,hZ,hm2,hm7,hm8,hm9,hk11,hq12,hO,S⟩ hv71_0 hv71_1 _ hv71_3 hv71_4 hv71_5 hv71_6 _ _ _ hv71_10 _ _
  have hLt : ∀ j,j < 13→L j=true:=fun j hj=>by rw [hLm]; exact decide_eq_true hj
  obtain ⟨s45,hv71_2,hp2⟩ := hm2 (hLt 2 zbA)
  obtain ⟨s51,hv71_9,hp9⟩ := hm9 (hLt 9 zbA)
  have hv71_11:=hk11 (hLt 11 zbA)
  simp only [hLt 11 zbA,hLt 12 zbA,cond_true,List.nil_append,List.cons_append] at hO
  rw [hO] at S
  replace hq12:=hq12 (hLt 12 zbA)
  replace S:=S.pickZ (xG (l1:=[zg s45 r42.sub]) hp2 (xG (l1:=[zg s51 r48.1.sub]) hp9 (xG (l1:=[zg s55 r48.1.sub]) hq12 hZ)))
  clear hp2 hp9 hZ hm2 hm7 hm8 hm9
  refine wd (zh hv71_10) (zd (zb (zb (za (wd (zi rfl) ?_)))))
  obtain ⟨r72,er72,H⟩ := zq H
  obtain ⟨B74,MB74,SB74,back⟩ := S.calln 0 ((.nil))
  refine zu (zt yb) zbA (yd SB74 er72) ?_
  rintro _ w73 ⟨rfl,S2⟩
  replace S:=back _ _ _ _ S2 rfl
  clear back S2 SB74
  refine wd (zV rfl rfl) (zd ?_)
  refine zJ rfl (fun hc75=>?_) (fun hc75=>?_)
  ·replace H:=if_t hc75 H
   refine x0 (za (wd (zi q39_16) (wd (vQ rfl rfl) (wd (zh rfl) (zd ?_)))))
   replace S:=S.arr [1] [3,4,5,6,7,8,9,10,11,12,13]
   obtain rfl:=zbE H
   exact ⟨rfl,(by repeat first | exact Dif.refl _ _ | exact Dif.self _ _ _ | refine Dif.upd ?_ rfl _ | refine Dif.mask ?_ rfl _),(m39,IntKind.i64.wrap (x39_0 + 1)),⟨e39,rfl,S⟩,by dsimp only; omega⟩
  replace H:=if_f hc75 H
  refine zx (zb (zb (za (wd (zi rfl) ?_))))
  obtain ⟨r76,er76,H⟩ := zq H
  obtain ⟨B78,MB78,SB78,back⟩ := S.calln 0 ((.nil))
  refine zu (zt yb) zbA (yd SB78 er76) ?_
  rintro _ w77 ⟨rfl,S2⟩
  replace S:=back _ _ _ _ S2 rfl
  clear back S2 SB78
  refine wd (xr rfl rfl) (zd ?_)
  refine zJ rfl (fun hc79=>?_) (fun hc79=>?_)
  ·replace H:=if_t hc79 H
   refine zb (za (wd (zj rfl) (zd (zr ?_))))
   refine ⟨_,(zS (ze rfl)),?_⟩
   replace S:=S.arr [] []
   obtain rfl:=zbE H
   obtain rfl:=e39
   obtain rfl:=uI Ho39
   exact ⟨rfl,S⟩
  replace H:=if_f hc79 H
  refine zx (zb (zb ?_))
  rcases Bool.eq_false_or_eq_true (decide (r29=0)) with hs80 | hs80
  ·replace H:=if_t hs80 H
   refine za (wd (zA ((rfl:_=Value.bool _).trans (congrArg Value.bool hs80))) (wd (zA rfl) ?_))
   refine wg (fun hg=>zw rfl) ?_
   refine wg (fun hg=>zP rfl) ?_
   refine wg (fun hg=>zm zR hv71_11 ((S.blk 0).all _ (Term.len _)) (Term.len _)) ?_
   obtain ⟨hg81,H⟩ := xb H
   refine yO (j:=1) (pol:=true) rfl rfl rfl zbA zbC ?_
   obtain ⟨r82,er82,H⟩ := zq H
   obtain ⟨B84,MB84,SB84,back⟩ := S.sub [2] [] [oB b53 zo (tmC r48.1 s55),oB b2 zo (tmC a2 s_2)]
   refine zu (zF vE (zK (zp zbC) rfl)) zbA (um (a0:=r48.1) SB84 er82) ?_
   rintro _ w83 ⟨s85,rfl,S2⟩
   replace S:=back _ _ _ _ _ S2 rfl rfl
   clear back S2 SB84
   refine wg (fun hg=>zi rfl) ?_
   obtain ⟨r86,er86,H⟩ := zq H
   refine xU (j:=1) (pol:=true) rfl rfl rfl zbA (fun hg=>zF ca_types_Check (zK (zp hg) (zK (zp hg) (zK rfl (zK (zp hg) rfl))))) zbA (fun hg=>(have ⟨M,SS⟩ := S.lend ((.z 5 rfl (.z 11 rfl (.z 0 rfl (.z 13 rfl .nil))))); quiet (types_Check_st (a2:=r82) SS (if_t zbC er86)) (fun v w' h=>⟨h.1,_,_,h.2⟩))) fun w87 hw87=>?_
   replace S:=S.ext hw87
   obtain ⟨r88,er88,H⟩ := zq H
   refine xU (j:=1) (pol:=true) rfl rfl rfl zbA (fun hg=>zF yb (zK (zp hg) rfl)) zbA (fun hg=>(have ⟨M,SS⟩ := S.lend ((.nil)); quiet (yd SS (if_t zbC er88)) (fun v w' h=>⟨h.1,_,_,h.2⟩))) fun w89 hw89=>?_
   replace S:=S.ext hw89
   refine wg (fun hg=>xr (zp hg) rfl) (wd (zZ rfl (fun hp=>(zp (xz hp)))) (zd ?_))
   refine zJ rfl (fun hc90=>?_) (fun hc90=>?_)
   ·replace H:=if_t hc90 H
    refine zb (za (wd (zj rfl) (zd (zr ?_))))
    refine ⟨_,(zS (ze rfl)),?_⟩
    replace S:=S.arr [] []
    obtain rfl:=zbE H
    obtain rfl:=e39
    obtain rfl:=uI Ho39
    exact ⟨rfl,S⟩
   replace H:=if_f hc90 H
   refine zx (zb (za (wd (zw rfl) (wd (zP rfl) (wd (zm zR hv71_11 ((S.blk 0).all _ (Term.len _)) (Term.len _)) ?_)))))
   obtain ⟨r91,er91,H⟩ := zq H
   obtain ⟨B93,MB93,SB93,back⟩ := S.sub [3] [] [oB b53 zo (tmC r48.1 s55),oB b2 zo (tmC a2 s_2)]
   refine zu (zt vE) zbA (um (a0:=r48.1) SB93 er91) ?_
   rintro _ w92 ⟨s94,rfl,S2⟩
   replace S:=back _ _ _ _ _ S2 rfl rfl
   clear back S2 SB93
   obtain ⟨r95,er95,H⟩ := zq H
   obtain ⟨B97,MB97,SB97,back⟩ := S.calln 0 ((.z 6 rfl (.z 12 rfl (.z 0 rfl (.z 14 rfl .nil)))))
   refine zu (zt zaL) zbA (zaT (a2:=r91) SB97 er95) ?_
   rintro _ w96 ⟨rfl,S2⟩
   replace S:=back _ _ _ _ S2 rfl
   clear back S2 SB97
   refine wd (zU rfl) (wd (zn rfl rfl) (wd (zn rfl rfl) (wd (zh rfl) (wd (zh rfl) (zd (zb (za ?_)))))))
   refine wd (zi rfl) ?_
   obtain ⟨r98,er98,H⟩ := zq H
   obtain ⟨B100,MB100,SB100,back⟩ := S.calln 0 ((.nil))
   refine zu (zt yb) zbA (yd SB100 er98) ?_
   rintro _ w99 ⟨rfl,S2⟩
   replace S:=back _ _ _ _ S2 rfl
   clear back S2 SB100
   refine wd (zV rfl rfl) (wd (zA rfl) ?_)
   refine wg (fun hg=>zi rfl) ?_
   obtain ⟨r101,er101,H⟩ := zq H
   refine xU (j:=3) (pol:=true) rfl rfl rfl zbA (fun hg=>zF yb (zK (zp hg) rfl)) zbA (fun hg=>(have ⟨M,SS⟩ := S.lend ((.nil)); quiet (yd SS (if_t (by simpa using hg) er101)) (fun v w' h=>⟨h.1,_,_,h.2⟩))) fun w102 hw102=>?_
   replace S:=S.ext hw102
   refine wg (fun hg=>xr (zp hg) rfl) ?_
   refine wg (fun hg=>zA (zp hg)) (xq (j:=7) (pol:=false) rfl rfl rfl zbA (fun hg=>zi rfl) zbA (xq (j:=7) (pol:=false) rfl rfl rfl zbA (fun hg=>zi rfl) zbA (xq (j:=7) (pol:=false) rfl rfl rfl zbA (fun hg=>xr (zp hg) (zp hg)) zbA ?_)))
   refine wg (fun hg=>xJ (zp hg) (fun hp=>(zp (and_b hg hp)))) (wd (zZ rfl (fun hp=>(zp (xz hp)))) (zd ?_))
   refine zJ rfl (fun hc103=>?_) (fun hc103=>?_)
   ·replace H:=if_t hc103 H
    refine zb (za (wd (zj rfl) (zd (zr ?_))))
    refine ⟨_,(zS (ze rfl)),?_⟩
    replace S:=S.arr [] []
    obtain rfl:=zbE H
    obtain rfl:=e39
    obtain rfl:=uI Ho39
    exact ⟨rfl,S⟩
   replace H:=if_f hc103 H
   refine zx (za (wd (zi q39_16) (wd (vQ rfl rfl) (wd (zh rfl) (zd ?_)))))
   replace S:=S.arr [1] [5,6,7,8,9,10,11,12,13,14,15]
   obtain rfl:=zbE H
   exact ⟨rfl,(by repeat first | exact Dif.refl _ _ | exact Dif.self _ _ _ | refine Dif.upd ?_ rfl _ | refine Dif.mask ?_ rfl _),(m39,IntKind.i64.wrap (x39_0 + 1)),⟨e39,rfl,S⟩,by dsimp only; omega⟩
  ·replace H:=if_f hs80 H
   refine za (wd (zA ((rfl:_=Value.bool _).trans (congrArg Value.bool hs80))) (wd (zA rfl) (zN (j:=1) (pol:=true) (v := .bool false) rfl rfl rfl zbA (fun hg=>absurd hg zbA) zbA (zN (j:=1) (pol:=true) (v := .bool false) rfl rfl rfl zbA (fun hg=>absurd hg zbA) zbA (zN (j:=1) (pol:=true) (v := .bool false) rfl rfl rfl zbA (fun hg=>absurd hg zbA) zbA ?_)))))
   refine zN (j:=1) (pol:=true) (v := .bool false) rfl rfl rfl zbA (fun hg=>absurd hg zbA) zbA (zN (j:=1) (pol:=true) (v := .bool false) rfl rfl rfl zbA (fun hg=>absurd hg zbA) zbA (zN (j:=1) (pol:=true) (v := .bool false) rfl rfl rfl zbA (fun hg=>absurd hg zbA) zbA (zN (j:=1) (pol:=true) (v := .bool false) rfl rfl rfl zbA (fun hg=>absurd hg zbA) zbA (zN (j:=1) (pol:=true) (v := .bool false) rfl rfl rfl zbA (fun hg=>absurd hg zbA) zbA (wd (zZ (x:=false) rfl (fun hp=>absurd hp zbA)) (zd ?_))))))
   refine ku rfl (zx (zb (za (wd (zw rfl) (wd (zP rfl) (wd (zm zR hv71_11 ((S.blk 0).all _ (Term.len _)) (Term.len _)) ?_))))))
   obtain ⟨r105,er105,H⟩ := zq H
   obtain ⟨B107,MB107,SB107,back⟩ := S.sub [2] [] [oB b53 zo (tmC r48.1 s55),oB b2 zo (tmC a2 s_2)]
   refine zu (zt vE) zbA (um (a0:=r48.1) SB107 er105) ?_
   rintro _ w106 ⟨s108,rfl,S2⟩
   replace S:=back _ _ _ _ _ S2 rfl rfl
   clear back S2 SB107
   obtain ⟨r109,er109,H⟩ := zq H
   obtain ⟨B111,MB111,SB111,back⟩ := S.calln 0 ((.z 5 rfl (.z 11 rfl (.z 0 rfl (.z 13 rfl .nil)))))
   refine zu (zt zaL) zbA (zaT (a2:=r105) SB111 er109) ?_
   rintro _ w110 ⟨rfl,S2⟩
   replace S:=back _ _ _ _ S2 rfl
   clear back S2 SB111
   refine wd (zU rfl) (wd (zn rfl rfl) (wd (zn rfl rfl) (wd (zh rfl) (wd (zh rfl) (zd (zb (za ?_)))))))
   refine wd (zi rfl) ?_
   obtain ⟨r112,er112,H⟩ := zq H
   obtain ⟨B114,MB114,SB114,back⟩ := S.calln 0 ((.nil))
   refine zu (zt yb) zbA (yd SB114 er112) ?_
   rintro _ w113 ⟨rfl,S2⟩
   replace S:=back _ _ _ _ S2 rfl
   clear back S2 SB114
   refine wd (zV rfl rfl) (wd (zA rfl) ?_)
   refine wg (fun hg=>zi rfl) ?_
   obtain ⟨r115,er115,H⟩ := zq H
   refine xU (j:=3) (pol:=true) rfl rfl rfl zbA (fun hg=>zF yb (zK (zp hg) rfl)) zbA (fun hg=>(have ⟨M,SS⟩ := S.lend ((.nil)); quiet (yd SS (if_t (by simpa using hg) er115)) (fun v w' h=>⟨h.1,_,_,h.2⟩))) fun w116 hw116=>?_
   replace S:=S.ext hw116
   refine wg (fun hg=>xr (zp hg) rfl) ?_
   refine wg (fun hg=>zA (zp hg)) (xq (j:=7) (pol:=false) rfl rfl rfl zbA (fun hg=>zi rfl) zbA (xq (j:=7) (pol:=false) rfl rfl rfl zbA (fun hg=>zi rfl) zbA (xq (j:=7) (pol:=false) rfl rfl rfl zbA (fun hg=>xr (zp hg) (zp hg)) zbA ?_)))
   refine wg (fun hg=>xJ (zp hg) (fun hp=>(zp (and_b hg hp)))) (wd (zZ rfl (fun hp=>(zp (xz hp)))) (zd ?_))
   refine zJ rfl (fun hc117=>?_) (fun hc117=>?_)
   ·replace H:=if_t hc117 H
    refine zb (za (wd (zj rfl) (zd (zr ?_))))
    refine ⟨_,(zS (ze rfl)),?_⟩
    replace S:=S.arr [] []
    obtain rfl:=zbE H
    obtain rfl:=e39
    obtain rfl:=uI Ho39
    exact ⟨rfl,S⟩
   replace H:=if_f hc117 H
   refine zx (za (wd (zi q39_16) (wd (vQ rfl rfl) (wd (zh rfl) (zd ?_)))))
   replace S:=S.arr [1] [4,5,6,7,8,9,10,11,12,13,14]
   obtain rfl:=zbE H
   exact ⟨rfl,(by repeat first | exact Dif.refl _ _ | exact Dif.self _ _ _ | refine Dif.upd ?_ rfl _ | refine Dif.mask ?_ rfl _),(m39,IntKind.i64.wrap (x39_0 + 1)),⟨e39,rfl,S⟩,by dsimp only; omega⟩
 rintro g118 u119 ⟨s39,rfl,p39_16,S⟩
 have H:=Ho39
 dsimp only [aft] at H
 refine zb (za ?_)
 obtain ⟨r120,er120,H⟩ := zq H
 obtain ⟨B122,MB122,SB122,back⟩ := S.calln 0 ((.z 10 rfl .nil))
 refine zu (zt ca_law14_heads) zbA (law14_heads_st SB122 er120) ?_
 rintro _ w121 ⟨rfl,S2⟩
 replace S:=back _ _ _ _ S2 rfl
 clear back S2 SB122
 refine wd (zj rfl) (zd (zr ?_))
 refine ⟨_,(zS (ze rfl)),?_⟩
 replace S:=S.arr [] []
 obtain rfl:=zbE H
 exact ⟨rfl,S⟩
end
section
open Gw
theorem zbt {σ ρ:Type} {b:Int→σ→Option (Stp σ ρ)} {p:Nat→Bool} {r:Nat→ρ} : ∀ (n i:Nat) (s:σ),(∀ j:Nat,i ≤ j→j < i + n→b j s=some (if p j then .ret (r j) else .go s))→forN b n i s=some (match (List.range' i n).find? p with | some j => .inr (r j) | none => .inl s)
 | 0,i,s,_=>rfl
 | n + 1,i,s,h=>by
  rw [forN,h i (Nat.le_refl _) zbB,List.range'_succ]
  cases hp:p i with
  | true=>simp [hp,List.find?_cons]
  | false =>
   have:=zbt n (i + 1) s fun j h1 h2=>h j zbB zbB
   simpa [hp,List.find?_cons] using this
abbrev nd (M:List Nd) (i:Int):Nd:=(zaj M i).1
structure Wf (M:List Nd):Prop where
 len:M.length ≤ 1024
 nodup:M.Nodup
 kind : ∀ i:Int,inb i M.length=true→(nd M i).kind=1∨(nd M i).kind=2∨(nd M i).kind=3∨(nd M i).kind=4∨(nd M i).kind=5
 kids : ∀ i:Int,inb i M.length=true→(nd M i).kind=3∨(nd M i).kind=4∨(nd M i).kind=5→(0 ≤ (nd M i).l∧(nd M i).l < i)∧0 ≤ (nd M i).r∧(nd M i).r < i
 fits : ∀ (j:Nat) (n:Nd),M[j]? = some n→vy (M.take j) n=0
theorem Wf.left {M:List Nd} (h:Wf M) {i:Int} (hi:inb i M.length=true) (hk:(nd M i).kind=3∨(nd M i).kind=4∨(nd M i).kind=5):inb (nd M i).l M.length=true:=by
 have h1:=h.kids i hi hk
 have h2:=zM hi
 simp only [inb,Bool.and_eq_true,decide_eq_true_eq]; omega
theorem Wf.right {M:List Nd} (h:Wf M) {i:Int} (hi:inb i M.length=true) (hk:(nd M i).kind=3∨(nd M i).kind=4∨(nd M i).kind=5):inb (nd M i).r M.length=true:=by
 have h1:=h.kids i hi hk
 have h2:=zM hi
 simp only [inb,Bool.and_eq_true,decide_eq_true_eq]; omega
theorem find_congr {α:Type} {p q:α→Bool} : ∀ {l:List α},(∀ x ∈ l,p x=q x)→l.find? p=l.find? q
 | [],_=>rfl
 | x :: l,h=>by
  rw [List.find?_cons,List.find?_cons,h x zbC,find_congr fun y hy=>h y (by simp [hy])]
theorem any_find {α:Type} {p:α→Bool} : ∀ (l:List α),l.any p=(l.find? p).isSome
 | []=>rfl
 | x :: l=>by
  rw [List.any_cons,List.find?_cons,any_find l]
  cases p x <;> rfl
theorem inb_nat (j n:Nat):inb (j:Int) n=decide (j < n):=by
 unfold inb
 rw [decide_eq_true (show 0 ≤ (j:Int) by omega),Bool.true_and,decide_eq_decide]
 omega
theorem wrap_small {n:Int} (h:0 ≤ n∧n < 9223372036854775808):IntKind.i64.wrap n=n:=by
 exact IntWalk.i64_in _ ⟨by omega,by omega⟩
theorem idx_find (n:Nd) : ∀ (N:List Nd) (s:Nat),(List.range' s N.length).find? (fun k=>decide (N.getD (k - s) Nd.z=n))=(N.idxOf? n).map (· + s)
 | [],s=>rfl
 | a :: N,s=>by
  rw [List.length_cons,List.range'_succ,List.find?_cons,List.idxOf?_cons]
  by_cases h:a=n
  ·simp [h]
  ·have h1:(a == n)=false:=by simpa using h
   have h2:(List.range' (s + 1) N.length).find? (fun k=>decide ((a :: N).getD (k - s) Nd.z=n))=(List.range' (s + 1) N.length).find? (fun k=>decide (N.getD (k - (s + 1)) Nd.z=n)):=find_congr fun k hk=>by
    have hk:=(List.mem_range'_1.1 hk).1
    rw [show k - s=(k - (s + 1)) + 1 by omega]; simp
   simp only [Nat.sub_self,List.getD_cons_zero,h,decide_false,h1,h2,idx_find n N (s + 1)]
   cases N.idxOf? n with
   | none=>rfl
   | some k=>simp; omega
theorem docFind (N:List Nd) (n:Nd):zdj.f (some N) n=some (match N.idxOf? n with | some k=>((k:Int),true) | none=>(0,false)):=by
 unfold zdj.f
 have h1:=zbt (b:=fun i s=>zdj.b0 (some N) n i) (p:=fun k=>decide (N.getD k Nd.z=n)) (r:=fun k=>((k:Int),true)) N.length 0 () (by
  intro k _ hk
  unfold zdj.b0 at_
  rw [Int.toNat_natCast,Option.getD_some]
  split <;> rfl)
 have e0:(((N.length:Nat):Int) - 0).toNat=N.length:=by omega
 simp only [Option.isSome_some,Option.getD_some,chk,if_true,e0]
 rw [show (0:Int)=((0:Nat):Int) from rfl,h1]
 have h2:=idx_find n N 0
 simp only [Nat.sub_zero,Nat.add_zero] at h2
 rw [h2]
 cases N.idxOf? n <;> rfl
theorem bind_eq {α β:Type} {x:Option α} {y:α} {f:α→Option β} {r:Option β} (hx:x=some y) (h:f y=r):x.bind f=r:=by rw [hx]; exact h
theorem docPut {N:List Nd} {n:Nd} (hN:N.length ≤ 1024) (hn:n.name.size < 9223372036854775808):zdk.f (some N) n=some (some (putS N n).1,(putS N n).2.1,(putS N n).2.2):=by
 have hrow : ∀ i:Int,zdi.f (some N) i=some (vX N i):=fun i=>by simp [zdi.f,chk,vX]
 have hend:((zdj.f (some N) n).bind fun r25=>if r25.2 then some (some N,r25.1,0) else chk (some N).isSome (if decide (1024 ≤ ((((some N).getD []).length:Nat):Int)) then some ((some ((some N).getD [])),0,30) else chk (decide ((((some N).getD []).length + 1) * 40 ≤ 140737488355328)) (some ((some (((some N).getD []) ++ [n])),IntKind.i64.wrap (((((some N).getD []) ++ [n]).length:Int) - 1),0)))) =
   (match N.idxOf? n with | some k=>some (some N,(k:Int),(0:Int)) | none=>if 1024 ≤ N.length then some (some N,0,30) else some (some (N ++ [n]),(N.length:Int),0)):=by
  rw [docFind]
  cases N.idxOf? n with
  | some k=>rfl
  | none =>
   simp only [zbF,Bool.false_eq_true,if_false,Option.isSome_some,Option.getD_some,chk,if_true,decide_eq_true_eq]
   by_cases h:1024 ≤ N.length
   ·have h1:(1024:Int) ≤ (N.length:Int):=by omega
    simp only [h,h1,if_true]
   ·have h1:¬ (1024:Int) ≤ (N.length:Int):=by omega
    have h2:(N.length + 1) * 40 ≤ 140737488355328:=by omega
    have h3:IntKind.i64.wrap (((N ++ [n]).length:Int) - 1)=(N.length:Int):=by
     rw [wrap_small (by simp; omega)]; simp
    simp only [h,h1,h2,h3,if_true,if_false]
 unfold zdk.f
 refine bind_eq (y:=if vy N n=0 then .inl (some N) else .inr (some N,0,vy N n)) ?_ ?_
 ·unfold vy
  simp only [hrow,zbM.f,hn,chk,decide_true,if_true,zbF]
  by_cases k1:n.kind=1
  ·simp only [k1,decide_true,if_true]
   by_cases hl:n.l=0
   ·by_cases hr:n.r=0
    ·by_cases hw:isWord n.name <;> simp [hl,hr,hw]
    ·simp [hl,hr]
   ·simp [hl]
  by_cases k2:n.kind=2
  ·have e:(n={ Nd.z with kind:=2 })↔(n.name=⟨#[]⟩ ∧ n.l=0∧n.r=0):=by
    constructor
    ·intro h; rw [h]; exact ⟨rfl,rfl,rfl⟩
    ·rintro ⟨h1,h2,h3⟩
     obtain ⟨a,b,c,d⟩ := n
     simp only at k2 h1 h2 h3
     subst k2 h1 h2 h3; rfl
   simp only [k2,decide_true,if_true,show ¬ ((2:Int)=1) by decide,decide_false,Bool.false_eq_true,if_false,e]
   by_cases hm:n.name=⟨#[]⟩
   ·by_cases hl:n.l=0
    ·by_cases hr:n.r=0 <;> simp [hm,hl,hr]
    ·simp [hm,hl]
   ·simp [hm]
  by_cases k3:n.kind=3∨n.kind=4∨n.kind=5
  ·have ho:((if decide (n.kind=3)=true then some (decide (n.kind=3)) else if decide (n.kind=4)=true then some (decide (n.kind=4)) else some (decide (n.kind=5))):Option Bool)=some true:=by
    rcases k3 with k | k | k <;> simp [k]
   simp only [k1,k2,k3,decide_false,Bool.false_eq_true,if_false,if_true]
   simp only [decide_eq_true_eq] at ho ⊢
   rw [ho]
   simp only [zbF,if_true]
   by_cases hm:n.name=⟨#[]⟩
   ·cases hl:vX N n.l with
    | false=>simp [hm,hl]
    | true=>cases hr:vX N n.r <;> simp [hm,hl,hr]
   ·simp [hm]
  ·have ho:((if decide (n.kind=3)=true then some (decide (n.kind=3)) else if decide (n.kind=4)=true then some (decide (n.kind=4)) else some (decide (n.kind=5))):Option Bool)=some false:=by
    simp only [not_or] at k3; simp [k3.1,k3.2.1,k3.2.2]
   simp only [k1,k2,k3,decide_false,Bool.false_eq_true,if_false,if_true]
   simp only [decide_eq_true_eq] at ho ⊢
   rw [ho]
   simp
 ·by_cases hf:vy N n=0
  ·rw [if_pos hf]
   refine Eq.trans (show _=_ from hend) ?_
   unfold putS
   rw [if_pos hf]
   cases N.idxOf? n with
   | some k=>rfl
   | none =>
    by_cases h:1024 ≤ N.length
    ·simp only [if_pos h]
    ·simp only [if_neg h]
  ·rw [if_neg hf,put_bad hf]; rfl
theorem progPut {N:List Nd} {n:Nd} (hn:n.name.size < 9223372036854775808):zbK.f (some N) n=some (some (putS N n).1,(putS N n).2.1,(putS N n).2.2):=by
 simp [zbK.f,chk,hn]
theorem rows_take {M:List Nd} {i:Nat} (hi:i < M.length):at_ Nd.z M i=M[i]:=by
 unfold at_; rw [Int.toNat_natCast,List.getD_eq_getElem?_getD,List.getElem?_eq_getElem hi]; rfl
theorem wf_push {N:List Nd} {n:Nd} (h:Wf N) (hf:vy N n=0) (hl:N.length < 1024) (hnew:n ∉ N):Wf (N ++ [n]):=by
 have hnd : ∀ i:Int,inb i N.length=true→nd (N ++ [n]) i=nd N i:=by
  intro i hi
  have h1:=zM hi
  unfold nd zaj vX
  have h2:i.toNat < N.length:=by omega
  rw [if_pos (by simp; omega),if_pos (by simp; omega)]
  simp only
  rw [List.getD_eq_getElem?_getD,List.getElem?_append_left h2,← List.getD_eq_getElem?_getD]
 have hlast:nd (N ++ [n]) N.length=n:=by
  unfold nd zaj vX
  rw [if_pos (by simp; omega)]
  simp
 have hsplit : ∀ i:Int,inb i (N ++ [n]).length=true→inb i N.length=true∨i=N.length:=by
  intro i hi
  have:=zM hi
  simp at this
  simp only [inb,Bool.and_eq_true,decide_eq_true_eq]; omega
 have hkind:n.kind=1∨n.kind=2∨n.kind=3∨n.kind=4∨n.kind=5:=by
  unfold vy at hf
  by_cases k1:n.kind=1
  ·exact .inl k1
  by_cases k2:n.kind=2
  ·exact .inr (.inl k2)
  by_cases k3:n.kind=3∨n.kind=4∨n.kind=5
  ·exact .inr (.inr k3)
  ·simp [k1,k2,k3] at hf
 refine ⟨by simp; omega,by rw [List.nodup_append]; exact ⟨h.nodup,by simp,fun a ha b hb e=>hnew (by rw [← List.mem_singleton.1 hb,← e]; exact ha)⟩,fun i hi=>?_,fun i hi hk=>?_,fun j m hm=>?_⟩
 ·rcases hsplit i hi with h1 | rfl
  ·rw [hnd i h1]; exact h.kind i h1
  ·rw [hlast]; exact hkind
 ·rcases hsplit i hi with h1 | rfl
  ·rw [hnd i h1] at hk ⊢; exact h.kids i h1 hk
  ·rw [hlast] at hk ⊢
   unfold vy at hf
   have k1:¬ n.kind=1:=by omega
   have k2:¬ n.kind=2:=by omega
   rw [if_neg k1,if_neg k2,if_pos hk] at hf
   split at hf
   ·simp at hf
   ·rename_i hh
    simp only [not_or,Bool.not_eq_false] at hh
    obtain ⟨⟨_,h1⟩,h2⟩ := hh
    simp only [vX,Bool.and_eq_true,decide_eq_true_eq] at h1 h2
    exact ⟨h1,h2⟩
 ·by_cases hj:j < N.length
  ·rw [List.getElem?_append_left hj] at hm
   rw [List.take_append_of_le_length zbB]; exact h.fits j m hm
  ·have hj2:j < (N ++ [n]).length:=(List.getElem?_eq_some_iff.1 hm).1
   have e:j=N.length:=by simp at hj2; omega
   subst e
   simp at hm
   subst hm
   simpa using hf
theorem from_some {rows:List Nd} (hn : ∀ n ∈ rows,n.name.size < 9223372036854775808) : ∃ r:Tb × Int,zdl.f rows=some r∧zdg.f rows=some r∧(r.2=0→r.1=some rows∧Wf rows):=by
 have hstep : ∀ (N:List Nd) (i:Nat),i < rows.length→N.length ≤ 1024→zdl.b0 rows i (some N)=some (if (putS N (at_ Nd.z rows i)).2.2 ≠ 0 then .ret (none,(putS N (at_ Nd.z rows i)).2.2) else if (putS N (at_ Nd.z rows i)).2.1 ≠ i then .ret (none,31) else .go (some (putS N (at_ Nd.z rows i)).1)) ∧
   zdg.b0 rows i (some N)=zdl.b0 rows i (some N):=by
  intro N i hi hN
  have hm:(at_ Nd.z rows i).name.size < 9223372036854775808:=by rw [rows_take hi]; exact hn _ (List.getElem_mem hi)
  have h1:zdl.b0 rows i (some N)=some (if (putS N (at_ Nd.z rows i)).2.2 ≠ 0 then .ret (none,(putS N (at_ Nd.z rows i)).2.2) else if (putS N (at_ Nd.z rows i)).2.1 ≠ i then .ret (none,31) else .go (some (putS N (at_ Nd.z rows i)).1)):=by
   unfold zdl.b0
   rw [docPut hN hm]
   simp only [zbF,decide_eq_true_eq]
   split
   ·rfl
   ·split <;> rfl
  refine ⟨h1,?_⟩
  rw [h1]
  unfold zdg.b0
  rw [progPut hm]
  simp only [zbF]
  by_cases e:(putS N (at_ Nd.z rows i)).2.2=0
  ·by_cases e2:(putS N (at_ Nd.z rows i)).2.1=i
   ·simp [e,e2]
   ·simp [e,e2]
  ·simp [e]
 have main : ∀ (n i:Nat),i + n=rows.length→i ≤ 1024→Wf (rows.take i) → ∃ o,forN (fun j s=>zdl.b0 rows j s) n i (some (rows.take i))=some o∧forN (fun j s=>zdg.b0 rows j s) n i (some (rows.take i))=some o ∧
   ((∃ e,e ≠ 0∧o = .inr (none,e))∨(o = .inl (some rows)∧Wf rows)):=by
  intro n
  induction n with
  | zero =>
   intro i hi _ hw
   rw [List.take_of_length_le zbB] at hw ⊢
   exact ⟨_,rfl,rfl,.inr ⟨rfl,hw⟩⟩
  | succ n ih =>
   intro i hi hle hw
   have hil:i < rows.length:=by omega
   have hlen:(rows.take i).length=i:=by simp; omega
   obtain ⟨h1,h2⟩ := hstep (rows.take i) i hil zbB
   simp only [forN]
   rw [h2,h1]
   by_cases e:(putS (rows.take i) (at_ Nd.z rows i)).2.2=0
   ·by_cases e2:(putS (rows.take i) (at_ Nd.z rows i)).2.1=i
    ·simp only [e,e2,ne_eq,not_true_eq_false,if_false,zbF]
     have hput:vy (rows.take i) (at_ Nd.z rows i)=0∧i < 1024∧at_ Nd.z rows i ∉ rows.take i∧(putS (rows.take i) (at_ Nd.z rows i)).1=rows.take i ++ [at_ Nd.z rows i]:=by
      by_cases hf:vy (rows.take i) (at_ Nd.z rows i)=0
      ·cases hk:(rows.take i).idxOf? (at_ Nd.z rows i) with
       | some k =>
        rw [put_old hf hk] at e2
        have:k < (rows.take i).length:=by
         have:=List.idxOf?_eq_some_iff.1 hk
         exact this.1
        simp only at e2; omega
       | none =>
        by_cases hl:1024 ≤ (rows.take i).length
        ·rw [put_full hf hk hl] at e; simp at e
        ·rw [put_new hf hk hl]
         exact ⟨hf,by omega,List.idxOf?_eq_none_iff.1 hk,rfl⟩
      ·rw [put_bad hf] at e; exact absurd e hf
     obtain ⟨hf,hlt,hnew,hp⟩ := hput
     have ht:rows.take i ++ [at_ Nd.z rows i]=rows.take (i + 1):=by
      rw [rows_take hil,List.take_succ_eq_append_getElem hil]
     rw [hp,ht]
     have:=ih (i + 1) zbB zbB (by rw [← ht]; exact wf_push hw hf zbB hnew)
     simpa using this
    ·simp only [e,e2,ne_eq,not_true_eq_false,not_false_eq_true,if_false,if_true,zbF]
     exact ⟨_,rfl,rfl,.inl ⟨31,by decide,rfl⟩⟩
   ·simp only [e,ne_eq,not_false_eq_true,if_true,zbF]
    exact ⟨_,rfl,rfl,.inl ⟨_,e,rfl⟩⟩
 have e0:(((rows.length:Nat):Int) - 0).toNat=rows.length:=by omega
 obtain ⟨o,h1,h2,h3⟩ := main rows.length 0 zbB zbB ⟨by simp,by simp,fun i hi=>absurd (zM hi) zbC,fun i hi=>absurd (zM hi) zbC,fun j n h=>by simp at h⟩
 unfold zdl.f zdg.f zbN.f
 rw [e0]
 simp only [zbF]
 rw [show (0:Int)=((0:Nat):Int) from rfl]
 rw [List.take_zero] at h1 h2
 rw [h1,h2]
 rcases h3 with ⟨e,he,rfl⟩ | ⟨rfl,hw⟩
 ·exact ⟨_,rfl,rfl,fun q=>absurd q he⟩
 ·exact ⟨_,rfl,rfl,fun _=>⟨rfl,hw⟩⟩
theorem both_some {rows:List Nd} (hn : ∀ n ∈ rows,n.name.size < 9223372036854775808) (hl:rows.length * 40 ≤ 140737488355328):zdm.f rows=some (none,none,false)∨(zdm.f rows=some (some rows,some rows,true)∧Wf rows):=by
 obtain ⟨r,h1,h2,h3⟩ := from_some hn
 have hc:(([]:List Nd).length + rows.length) * 40 ≤ 140737488355328:=by rw [List.length_nil,Nat.zero_add]; exact hl
 unfold zdm.f
 rw [chk,if_pos (decide_eq_true hc),h1]
 simp only [zbF,List.nil_append,h2]
 by_cases e:r.2=0
 ·obtain ⟨h4,hw⟩ := h3 e
  exact .inr ⟨by rw [h4]; simp [e],hw⟩
 ·exact .inl (by simp [e])
end
section

end
section
open Gw
-- terms: nodes,levels,what is right
mutual
def depT:PTerm→Nat
 | .mk _ _ _ _ s=>1 + depL s
def depL:List PTerm→Nat
 | []=>0
 | x :: l=>max (depT x) (depL l)
end
def ye (k:Int):Int:=if k=1 then 0 else if k=9 then 3 else if k=3∨k=4∨k=12 then 2 else if k=2∨k=5∨k=6∨k=7∨k=8∨k=10∨k=11 then 1 else -1
def nodeR (x:PTerm):Bool :=
 decide (ye x.kind=x.sub.length) && (if x.kind=1∨x.kind=2∨x.kind=9∨x.kind=12 then decide (isWord x.name) else decide (x.name=⟨#[]⟩)) &&
  (if x.kind=9 then decide (isWord x.other) else decide (x.other=⟨#[]⟩)) && (if x.kind=11 then decide (0 ≤ x.form) && decide (x.form < 1024) else decide (x.form=0))
mutual
def rightT:PTerm→Bool
 | .mk k n o f s=>nodeR (.mk k n o f s) && rightL s
def rightL:List PTerm→Bool
 | []=>true
 | x :: l=>rightT x && rightL l
end
theorem yQ (x:PTerm):depT x=1 + depL x.sub:=by cases x; simp [depT,PTerm.sub]
theorem zaB (x:PTerm):rightT x=(nodeR x && rightL x.sub):=by cases x; simp [rightT,PTerm.sub]
theorem rightL_mem : ∀ {l:List PTerm},rightL l=true → ∀ x ∈ l,rightT x=true
 | [],_,_,h=>by simp at h
 | y :: l,h,x,hx=>by
  simp only [rightL,Bool.and_eq_true] at h
  rcases List.mem_cons.1 hx with rfl | hx
  ·exact h.1
  ·exact rightL_mem h.2 x hx
theorem nmL_mem : ∀ {l:List PTerm},nmL l → ∀ x ∈ l,nmT x
 | [],_,_,h=>by simp at h
 | y :: l,h,x,hx=>by
  simp only [nmL] at h
  rcases List.mem_cons.1 hx with rfl | hx
  ·exact h.1
  ·exact nmL_mem h.2 x hx
theorem yV : ∀ {l:List PTerm},∀ x ∈ l,depT x ≤ depL l
 | [],_,h=>by simp at h
 | y :: l,x,hx=>by
  simp only [depL]
  rcases List.mem_cons.1 hx with rfl | hx
  ·omega
  ·have:=yV x hx; omega
theorem at_mem {l:List PTerm} {i:Int} (h:0 ≤ i∧i < l.length):at_ PTerm.z l i ∈ l:=List.mem_of_getElem? (y9 PTerm.z h)
inductive TR where
 | ok (f:Int)
 | no (c:Int) (way:List Int)
 deriving DecidableEq
namespace TR
def at_ (i:Int):TR→TR
 | ok f=>ok f
 | no c w=>no c (i :: w)
def bind (r:TR) (k:Int→TR):TR:=match r with
 | ok f=>k f
 | no c w=>no c w
def code:TR→Int
 | ok _=>0
 | no c _=>c
def way:TR→List Int
 | ok _=>[]
 | no _ w=>w
def form:TR→Int
 | ok f=>f
 | no _ _=>0
end TR
abbrev Sc:=List (ByteArray × Int)
def ofK (M:List Nd) (f k:Int) (g:Nd→TR):TR:=if (nd M f).kind=k then g (nd M f) else .no 130 []
def yg (M:List Nd) (P:Int→Sc→Option Int→TR) (s:Sc) (x:PTerm):TR :=
 if x.kind=1 then (match s.find? (fun q=>decide (q.1=x.name)) with | some q => .ok q.2 | none => .no 131 [])
 else if x.kind=3 then (P 0 s none).bind fun f=>ofK M f 5 fun n=>(P 1 s (some n.l)).bind fun _ => .ok n.r
 else if x.kind=5 then (P 0 s none).bind fun f=>ofK M f 3 fun n => .ok n.l
 else if x.kind=6 then (P 0 s none).bind fun f=>ofK M f 3 fun n => .ok n.r
 else if x.kind=11 then (if inb x.form M.length then (P 0 s (some x.form)).bind fun _ => .ok x.form else .no 31 [])
 else if x.kind=12 then (P 0 s none).bind fun f=>P 1 ((x.name,f) :: s) none
 else if x.kind=9 then (P 0 s none).bind fun f=>ofK M f 4 fun n=>(P 1 ((x.name,n.l) :: s) none).bind fun a=>(P 2 ((x.other,n.r) :: s) none).bind fun b=>if a=b then .ok a else .no 130 []
 else .no 132 []
def yD (M:List Nd) (P:Int→Sc→Option Int→TR) (s:Sc) (x:PTerm) (id:Int):TR :=
 if x.kind=2 then ofK M id 5 fun n=>P 0 ((x.name,n.l) :: s) (some n.r)
 else if x.kind=4 then ofK M id 3 fun n=>(P 0 s (some n.l)).bind fun _=>P 1 s (some n.r)
 else if x.kind=7 then ofK M id 4 fun n=>P 0 s (some n.l)
 else if x.kind=8 then ofK M id 4 fun n=>P 0 s (some n.r)
 else if x.kind=9 then (P 0 s none).bind fun f=>ofK M f 4 fun n=>(P 1 ((x.name,n.l) :: s) (some id)).bind fun _=>P 2 ((x.other,n.r) :: s) (some id)
 else if x.kind=10 then (P 0 s none).bind fun f=>ofK M f 2 fun _ => .ok id
 else if x.kind=12 then (P 0 s none).bind fun f=>P 1 ((x.name,f) :: s) (some id)
 else (yg M P s x).bind fun f=>if f=id then .ok id else .no 130 []
def tyS (M:List Nd):Nat→PTerm→Sc→Option Int→TR
 | 0,_,_,_ => .no 132 []
 | k + 1,x,s,want =>
  let P:Int→Sc→Option Int→TR:=fun i s' w=>(tyS M k (at_ PTerm.z x.sub i) s' w).at_ i
  match want with
  | none=>yg M P s x
  | some id=>yD M P s x id
theorem ux (M:List Nd) (k:Nat) (x:PTerm) (s:Sc):tyS M (k + 1) x s none=yg M (fun i s' w=>(tyS M k (at_ PTerm.z x.sub i) s' w).at_ i) s x:=rfl
theorem uK (M:List Nd) (k:Nat) (x:PTerm) (s:Sc) (id:Int):tyS M (k + 1) x s (some id)=yD M (fun i s' w=>(tyS M k (at_ PTerm.z x.sub i) s' w).at_ i) s x id:=rfl
-- the way is no longer than the term is deep
theorem TR.way_at (i:Int) (r:TR):(r.at_ i).way.length ≤ r.way.length + 1:=by cases r <;> simp [TR.at_,TR.way]
theorem TR.way_bind {r:TR} {g:Int→TR} {n:Nat} (h:r.way.length ≤ n) (hg : ∀ f,(g f).way.length ≤ n):(r.bind g).way.length ≤ n:=by
 cases r with
 | ok f=>exact hg f
 | no c w=>exact h
theorem ofK_way {M:List Nd} {f k:Int} {g:Nd→TR} {n:Nat} (hg : ∀ m,(g m).way.length ≤ n):(ofK M f k g).way.length ≤ n:=by
 unfold ofK
 split
 ·exact hg _
 ·exact Nat.zero_le _
theorem toldS_way {M:List Nd} {P:Int→Sc→Option Int→TR} {n:Nat} (hP : ∀ i s w,(P i s w).way.length ≤ n) (s:Sc) (x:PTerm):(yg M P s x).way.length ≤ n:=by
 have h0 : ∀ f,(TR.ok f).way.length ≤ n:=fun f=>Nat.zero_le _
 have h1 : ∀ c,(TR.no c []).way.length ≤ n:=fun f=>Nat.zero_le _
 unfold yg
 repeat' split
 all_goals first
  | exact h0 _
  | exact h1 _
  | skip
 all_goals refine TR.way_bind (hP ..) fun f=>?_
 all_goals first
  | exact h0 _
  | exact hP ..
  | refine ofK_way fun m=>?_
 all_goals first
  | exact h0 _
  | refine TR.way_bind (hP ..) fun a=>?_
 all_goals first
  | exact h0 _
  | refine TR.way_bind (hP ..) fun b=>?_
 all_goals split
 all_goals first
  | exact h0 _
  | exact h1 _
theorem chkdS_way {M:List Nd} {P:Int→Sc→Option Int→TR} {n:Nat} (hP : ∀ i s w,(P i s w).way.length ≤ n) (s:Sc) (x:PTerm) (id:Int):(yD M P s x id).way.length ≤ n:=by
 have h0 : ∀ f,(TR.ok f).way.length ≤ n:=fun f=>Nat.zero_le _
 have h1 : ∀ c,(TR.no c []).way.length ≤ n:=fun f=>Nat.zero_le _
 unfold yD
 split
 ·exact ofK_way fun m=>hP ..
 split
 ·exact ofK_way fun m=>TR.way_bind (hP ..) fun _=>hP ..
 split
 ·exact ofK_way fun m=>hP ..
 split
 ·exact ofK_way fun m=>hP ..
 split
 ·exact TR.way_bind (hP ..) fun f=>ofK_way fun m=>TR.way_bind (hP ..) fun _=>hP ..
 split
 ·exact TR.way_bind (hP ..) fun f=>ofK_way fun m=>h0 _
 split
 ·exact TR.way_bind (hP ..) fun f=>hP ..
 ·refine TR.way_bind (toldS_way hP s x) fun f=>?_
  split
  ·exact h0 _
  ·exact h1 _
theorem tyS_way {M:List Nd} : ∀ (k:Nat) (x:PTerm) (s:Sc) (w:Option Int),(tyS M k x s w).way.length ≤ k
 | 0,_,_,_=>by simp [tyS,TR.way]
 | k + 1,x,s,w=>by
  have hP : ∀ i s' w',((tyS M k (at_ PTerm.z x.sub i) s' w').at_ i).way.length ≤ k + 1:=fun i s' w'=>Nat.le_trans (TR.way_at _ _) (Nat.add_le_add_right (tyS_way k _ _ _) 1)
  cases w with
  | none=>exact toldS_way hP s x
  | some id=>exact chkdS_way hP s x id
-- what is refused has a number
def Cd:TR→Prop
 | .ok _=>True
 | .no c _=>c=31∨c=130∨c=131∨c=132
theorem Cd.at_ {r:TR} (h:Cd r) (i:Int):Cd (r.at_ i):=by cases r <;> exact h
theorem Cd.bind {r:TR} {g:Int→TR} (h:Cd r) (hg : ∀ f,Cd (g f)):Cd (r.bind g):=by
 cases r with
 | ok f=>exact hg f
 | no c w=>exact h
theorem Cd.ofK {M:List Nd} {f k:Int} {g:Nd→TR} (hg : ∀ m,Cd (g m)):Cd (ofK M f k g):=by
 unfold Go.Proofs.YtmggdbbmmkkplaaGreatDoor.ofK
 split
 ·exact hg _
 ·exact .inr (.inl rfl)
theorem toldS_cd {M:List Nd} {P:Int→Sc→Option Int→TR} (hP : ∀ i s w,Cd (P i s w)) (s:Sc) (x:PTerm):Cd (yg M P s x):=by
 unfold yg
 split
 ·split
  ·trivial
  ·exact .inr (.inr (.inl rfl))
 split
 ·exact (hP ..).bind fun f=>Cd.ofK fun n=>(hP ..).bind fun _=>trivial
 split
 ·exact (hP ..).bind fun f=>Cd.ofK fun n=>trivial
 split
 ·exact (hP ..).bind fun f=>Cd.ofK fun n=>trivial
 split
 ·split
  ·exact (hP ..).bind fun f=>trivial
  ·exact .inl rfl
 split
 ·exact (hP ..).bind fun f=>hP ..
 split
 ·refine (hP ..).bind fun f=>Cd.ofK fun n=>(hP ..).bind fun a=>(hP ..).bind fun b=>?_
  split
  ·trivial
  ·exact .inr (.inl rfl)
 ·exact .inr (.inr (.inr rfl))
theorem chkdS_cd {M:List Nd} {P:Int→Sc→Option Int→TR} (hP : ∀ i s w,Cd (P i s w)) (s:Sc) (x:PTerm) (id:Int):Cd (yD M P s x id):=by
 unfold yD
 split
 ·exact Cd.ofK fun n=>hP ..
 split
 ·exact Cd.ofK fun n=>(hP ..).bind fun _=>hP ..
 split
 ·exact Cd.ofK fun n=>hP ..
 split
 ·exact Cd.ofK fun n=>hP ..
 split
 ·exact (hP ..).bind fun f=>Cd.ofK fun n=>(hP ..).bind fun _=>hP ..
 split
 ·exact (hP ..).bind fun f=>Cd.ofK fun n=>trivial
 split
 ·exact (hP ..).bind fun f=>hP ..
 ·refine (toldS_cd hP s x).bind fun f=>?_
  split
  ·trivial
  ·exact .inr (.inl rfl)
theorem tyS_cd {M:List Nd} : ∀ (k:Nat) (x:PTerm) (s:Sc) (w:Option Int),Cd (tyS M k x s w)
 | 0,_,_,_ => .inr (.inr (.inr rfl))
 | k + 1,x,s,w=>by
  have hP : ∀ i s' w',Cd ((tyS M k (at_ PTerm.z x.sub i) s' w').at_ i):=fun i s' w'=>(tyS_cd k _ _ _).at_ i
  cases w with
  | none=>exact toldS_cd (P:=fun i s' w'=>(tyS M k (at_ PTerm.z x.sub i) s' w').at_ i) hP s x
  | some id=>exact chkdS_cd (P:=fun i s' w'=>(tyS M k (at_ PTerm.z x.sub i) s' w').at_ i) hP s x id
-- what is told is what alone it is checked against
theorem TR.at_ok {i:Int} {r:TR} {f:Int}:r.at_ i = .ok f↔r = .ok f:=by cases r <;> simp [TR.at_]
theorem TR.bind_ok {r:TR} {g:Int→TR} {b:Int}:r.bind g = .ok b ↔ ∃ f,r = .ok f∧g f = .ok b:=by cases r <;> simp [TR.bind]
theorem ul {M:List Nd} {f k:Int} {g:Nd→TR} {b:Int}:ofK M f k g = .ok b↔(nd M f).kind=k∧g (nd M f) = .ok b:=by
 unfold ofK
 split <;> simp_all
theorem tyS_one {M:List Nd} : ∀ (k:Nat) (x:PTerm) (s:Sc) (a:Int),tyS M k x s none = .ok a→tyS M k x s (some a) = .ok a ∧ ∀ id b,tyS M k x s (some id) = .ok b→id=a
 | 0,x,s,a,h=>by simp [tyS] at h
 | k + 1,x,s,a,h=>by
  rw [ux] at h
  have ih:=fun i s' b (hb:(tyS M k (at_ PTerm.z x.sub i) s' none).at_ i = .ok b)=>tyS_one k (at_ PTerm.z x.sub i) s' b (TR.at_ok.1 hb)
  generalize hP:(fun i s' w=>(tyS M k (at_ PTerm.z x.sub i) s' w).at_ i)=P at h
  have ih' : ∀ i s' b,P i s' none = .ok b→P i s' (some b) = .ok b ∧ ∀ id c,P i s' (some id) = .ok c→id=b:=by
   intro i s' b hb
   subst hP
   obtain ⟨h1,h2⟩ := ih i s' b hb
   exact ⟨TR.at_ok.2 h1,fun id c hc=>h2 id c (TR.at_ok.1 hc)⟩
  have hdef : ∀ id,tyS M (k + 1) x s (some id)=yD M P s x id:=fun id=>by rw [uK,hP]
  rw [hdef]
  have hend:(yg M P s x).bind (fun f=>if f=a then .ok a else .no 130 []) = .ok a ∧ ∀ id b,(yg M P s x).bind (fun f=>if f=id then .ok id else .no 130 []) = .ok b→id=a:=by
   rw [h]
   refine ⟨by simp [TR.bind],fun id b hb=>?_⟩
   simp only [TR.bind] at hb
   split at hb
   ·omega
   ·cases hb
  by_cases k2:x.kind=2
  ·simp [yg,k2] at h
  by_cases k4:x.kind=4
  ·simp [yg,k4] at h
  by_cases k7:x.kind=7
  ·simp [yg,k7] at h
  by_cases k8:x.kind=8
  ·simp [yg,k8] at h
  by_cases k10:x.kind=10
  ·simp [yg,k10] at h
  by_cases k9:x.kind=9
  ·have h':(P 0 s none).bind (fun f=>ofK M f 4 fun n=>(P 1 ((x.name,n.l) :: s) none).bind fun a=>(P 2 ((x.other,n.r) :: s) none).bind fun b=>if a=b then .ok a else .no 130 []) = .ok a:=by
    rw [← h]; simp [yg,k9]
   obtain ⟨f,hf,h'⟩ := TR.bind_ok.1 h'
   obtain ⟨hk,h'⟩ := ul.1 h'
   obtain ⟨a1,ha1,h'⟩ := TR.bind_ok.1 h'
   obtain ⟨b1,hb1,h'⟩ := TR.bind_ok.1 h'
   split at h'
   ·rename_i he
    cases h'
    subst he
    obtain ⟨u1,u2⟩ := ih' _ _ _ ha1
    obtain ⟨v1,v2⟩ := ih' _ _ _ hb1
    have hc : ∀ id,yD M P s x id=(P 0 s none).bind (fun f=>ofK M f 4 fun n=>(P 1 ((x.name,n.l) :: s) (some id)).bind fun _=>P 2 ((x.other,n.r) :: s) (some id)):=fun id=>by simp [yD,k9]
    refine ⟨?_,fun id b hb=>?_⟩
    ·rw [hc,hf]; simp only [TR.bind,ofK,hk,if_true,u1,v1]
    ·rw [hdef,hc,hf] at hb
     simp only [TR.bind,ofK,hk,if_true] at hb
     cases hq:P 1 ((x.name,(nd M f).l) :: s) (some id) with
     | ok c=>exact u2 id c hq
     | no c w=>rw [hq] at hb; simp at hb
   ·cases h'
  by_cases k12:x.kind=12
  ·have h':(P 0 s none).bind (fun f=>P 1 ((x.name,f) :: s) none) = .ok a:=by
    rw [← h]; simp [yg,k12]
   obtain ⟨f,hf,h'⟩ := TR.bind_ok.1 h'
   obtain ⟨u1,u2⟩ := ih' _ _ _ h'
   have hc : ∀ id,yD M P s x id=(P 0 s none).bind (fun f=>P 1 ((x.name,f) :: s) (some id)):=fun id=>by simp [yD,k12]
   refine ⟨by rw [hc,hf]; exact u1,fun id b hb=>?_⟩
   rw [hdef,hc,hf] at hb
   exact u2 id b hb
  have hc : ∀ id,yD M P s x id=(yg M P s x).bind (fun f=>if f=id then .ok id else .no 130 []):=fun id=>by simp [yD,k2,k4,k7,k8,k9,k10,k12]
  exact ⟨by rw [hc]; exact hend.1,fun id b hb=>hend.2 id b (by rw [← hc,← hdef]; exact hb)⟩
-- a name more,behind the others
end
section
open Gw
theorem chk_t {α:Type} {b:Bool} {x:Option α} (h:b=true):chk b x=x:=by rw [chk,if_pos h]
theorem wrap_nat {n:Nat} (h:n < 9223372036854775808):IntKind.i64.wrap (n:Int)=n:=wrap_small ⟨by omega,by omega⟩
theorem iter_count {τ ρ:Type} {b:τ × Int→Option (Stp (τ × Int) ρ)} (g:Nat→τ) (n:Nat)
  (h : ∀ i,i < n→b (g i,(i:Int))=some (.go (g (i + 1),((i + 1:Nat):Int)))∨(b (g i,(i:Int))=some (.brk (g i,(i:Int)))∧g i=g n)) (he:b (g n,(n:Int))=some (.brk (g n,(n:Int)))) :
  ∀ (k i:Nat),i ≤ n→n - i < k → ∃ j:Int,iter b k (g i,(i:Int))=some (.inl (g n,j))
 | 0,i,_,hk=>by omega
 | k + 1,i,hi,hk=>by
  by_cases hin:i=n
  ·subst hin; exact ⟨(i:Int),by simp only [iter,he,zbF]⟩
  ·rcases h i zbB with h1 | ⟨h1,h2⟩
   ·obtain ⟨j,hj⟩ := iter_count g n h he k (i + 1) zbB zbB
    exact ⟨j,by simp only [iter,h1,zbF]; exact hj⟩
   ·exact ⟨(i:Int),by rw [iter,h1]; simp only [zbF,h2]⟩
theorem depL_take : ∀ {l:List PTerm} {i:Nat} {x:PTerm},l[i]? = some x→depL (l.take (i + 1))=max (depL (l.take i)) (depT x)
 | [],_,_,h=>by simp at h
 | y :: l,0,x,h=>by simp at h; subst h; simp [depL]
 | y :: l,i + 1,x,h=>by
  have:=depL_take (l:=l) (i:=i) (by simpa using h)
  simp only [List.take_succ_cons,depL]; omega
theorem depL_le : ∀ {l:List PTerm} (i:Nat),depL (l.take i) ≤ depL l
 | [],i=>by simp
 | y :: l,0=>by simp [depL]
 | y :: l,i + 1=>by have:=depL_le (l:=l) i; simp only [List.take_succ_cons,depL]; omega
theorem len_sizeL : ∀ (l:List PTerm),l.length ≤ sizeL l
 | []=>by simp
 | y :: l=>by have:=len_sizeL l; have:=kN y; simp only [List.length_cons,sizeL]; omega
theorem vO : ∀ {l:List PTerm} {x:PTerm},x ∈ l→sizeT x ≤ sizeL l
 | [],_,h=>by simp at h
 | y :: l,x,h=>by
  simp only [sizeL]
  rcases List.mem_cons.1 h with rfl | h
  ·omega
  ·have:=vO h; omega
theorem zaI {l:List PTerm} {i:Nat} (h:i < l.length):at_ PTerm.z l (i:Int)=l[i]:=by
 unfold at_; rw [Int.toNat_natCast,List.getD_eq_getElem?_getD,List.getElem?_eq_getElem h]; rfl
theorem yW (x:PTerm):1 ≤ depT x:=by rw [yQ]; omega
-- levels,as the program counts them
theorem deep_some : ∀ (K:Nat) (x:PTerm) (most:Nat),1 ≤ most→most ≤ 1025→sizeT x ≤ 65536→sizeT x + most < K→zbW.f K x (most:Int)=some ((min (depT x) most:Nat):Int)
 | 0,_,_,_,_,_,h=>by omega
 | K + 1,x,most,h1,h2,h3,hK=>by
  show zbW.g (zbW.f K) K x most=_
  unfold zbW.g
  by_cases hm:most=1
  ·subst hm
   rw [if_pos zbA]
   have:=yW x
   rw [show min (depT x) 1=1 by omega]
  rw [if_neg (by simp; omega)]
  have hw:IntKind.i64.wrap ((most:Int) - 1)=((most - 1:Nat):Int):=by
   rw [show ((most:Int) - 1)=((most - 1:Nat):Int) by omega]; exact wrap_nat zbB
  have hs:=yI x
  have hls:=len_sizeL x.sub
  obtain ⟨j,hj⟩ := iter_count (b:=fun s=>zbW.b0 x most (zbW.f K) s.1 s.2) (g:=fun i=>((min (depL (x.sub.take i)) (most - 1):Nat):Int)) x.sub.length (fun i hi=>by
   have he:=List.getElem?_eq_getElem hi
   have hd:=depL_take he
   have hle:=depL_le (l:=x.sub) i
   simp only [zbW.b0,hw]
   by_cases hc:min (depL (x.sub.take i)) (most - 1) < most - 1
   ·left
    rw [if_pos (by simp; omega),chk_t (by rw [inb_nat]; exact decide_eq_true hi),zaI hi,deep_some K _ (most - 1) zbB zbB (by have:=vO (List.getElem_mem hi); omega) (by have:=vO (List.getElem_mem hi); omega)]
    simp only [zbF]
    rw [show (i:Int) + 1=((i + 1:Nat):Int) by omega,wrap_nat zbB]
    congr 3
    rw [hd]
    split <;> omega
   ·right
    rw [if_neg (by simp; omega)]
    refine ⟨rfl,?_⟩
    rw [List.take_length]
    congr 1
    omega) (by
   simp only [zbW.b0,hw]
   rw [if_neg zbC]) K 0 zbB zbB
  simp only [List.take_zero,depL,Nat.zero_min,List.take_length] at hj
  rw [show ((0:Nat):Int)=0 from rfl] at hj
  rw [hj]
  simp only [zbF,aft]
  rw [show ((min (depL x.sub) (most - 1):Nat):Int) + 1=((min (depL x.sub) (most - 1) + 1:Nat):Int) by omega,wrap_nat zbB,yQ]
  congr 2
  omega
-- what is right,as the program tells it
theorem shape_some (k:Int):zbU.f k=some (if ye k = -1 then (0,false,false,false) else (ye k,decide (k=1∨k=2∨k=9∨k=12),decide (k=9),true)):=by
 by_cases h:k=1∨k=2∨k=3∨k=4∨k=5∨k=6∨k=7∨k=8∨k=9∨k=10∨k=11∨k=12
 ·rcases h with rfl | rfl | rfl | rfl | rfl | rfl | rfl | rfl | rfl | rfl | rfl | rfl <;> decide
 ·simp only [not_or] at h
  obtain ⟨h1,h2,h3,h4,h5,h6,h7,h8,h9,h10,h11,h12⟩ := h
  simp [zbU.f,ye,h1,h2,h3,h4,h5,h6,h7,h8,h9,h10,h11,h12]
theorem named_some {s:ByteArray} (hs:s.size < 9223372036854775808) (b:Bool):zbV.f s b=some (if b then decide (isWord s) else decide (s=⟨#[]⟩)):=by
 unfold zbV.f zbL.f
 rw [chk_t (decide_eq_true hs)]
 cases b <;> simp
theorem rightL_all : ∀ (l:List PTerm),rightL l=l.all rightT
 | []=>rfl
 | x :: l=>by simp [rightL,rightL_all l]
theorem contains_some {rec:PTerm→Option Bool} {l:List PTerm} (h : ∀ x ∈ l,rec x=some (rightT x)):zca.g rec l=some (!rightL l):=by
 unfold zca.g zbZ.g
 have h1:=zbt (b:=fun i s=>zbZ.b0 rec l i) (p:=fun k => !rightT (l.getD k PTerm.z)) (r:=fun k=>(k:Int)) l.length 0 () (by
  intro k _ hk
  unfold zbZ.b0 zbY.g
  have hk':k < l.length:=by omega
  rw [zaI hk',h _ (List.getElem_mem hk')]
  simp only [zbF,List.getD_eq_getElem?_getD,List.getElem?_eq_getElem hk',Option.getD_some]
  cases rightT l[k] <;> rfl)
 have e0:(((l.length:Nat):Int) - 0).toNat=l.length:=by omega
 rw [e0,show (0:Int)=((0:Nat):Int) from rfl,h1]
 have h2:rightL l = !((List.range' 0 l.length).find? fun k => !rightT (l.getD k PTerm.z)).isSome:=by
  rw [rightL_all,← any_find]
  rw [Bool.eq_iff_iff]
  simp only [List.all_eq_true,Bool.not_eq_true',List.any_eq_false,Bool.not_eq_true,Bool.not_eq_false',List.mem_range'_1]
  constructor
  ·intro hh k hk
   have hk':k < l.length:=by omega
   simp only [List.getD_eq_getElem?_getD,List.getElem?_eq_getElem hk',Option.getD_some]
   simpa using hh _ (List.getElem_mem hk')
  ·intro hh x hx
   obtain ⟨k,hk,rfl⟩ := List.getElem_of_mem hx
   have:=hh k ⟨by omega,by omega⟩
   simp only [List.getD_eq_getElem?_getD,List.getElem?_eq_getElem hk,Option.getD_some] at this
   simpa using this
 rw [h2]
 cases (List.range' 0 l.length).find? fun k => !rightT (l.getD k PTerm.z) with
 | none=>simp [aft]
 | some k=>simp [aft]
theorem right_some : ∀ (K:Nat) (x:PTerm),nmT x→depT x ≤ K→zcb.f K x=some (rightT x)
 | 0,x,_,h=>by have:=yW x; omega
 | K + 1,x,hn,hK=>by
  have hd:=yQ x
  obtain ⟨n1,n2,n3⟩ := (zap x).1 hn
  show zcb.g (zcb.f K) x=_
  unfold zcb.g
  rw [shape_some,contains_some (l:=x.sub) fun y hy=>right_some K y (nmL_mem n3 y hy) (by have:=yV y hy; omega)]
  rw [zaB]
  unfold nodeR
  by_cases hp:ye x.kind = -1
  ·have:¬ (-1:Int)=(x.sub.length:Int):=by omega
   simp [hp,this]
  ·simp only [hp,if_false,zbF,named_some n1,named_some n2]
   generalize ye x.kind=p at hp
   by_cases hl:p=(x.sub.length:Int)
   ·by_cases hk:x.kind=1∨x.kind=2∨x.kind=9∨x.kind=12
    ·simp only [if_pos hk,decide_eq_true hk]
     by_cases hw:isWord x.name
     ·by_cases h9:x.kind=9
      ·simp only [if_pos h9,decide_eq_true h9]
       by_cases ho:isWord x.other
       ·by_cases hf:x.form=0
        ·simp [hl,h9,hw,ho,hf]
        ·simp [hl,h9,hw,ho,hf]
       ·simp [hl,h9,hw,ho]
      ·simp only [if_neg h9,decide_eq_false h9]
       by_cases ho:x.other=⟨#[]⟩
       ·by_cases h11:x.kind=11
        ·omega
        ·by_cases hf:x.form=0
         ·simp [hl,h11,hw,ho,hf]
         ·simp [hl,h11,hw,ho,hf]
       ·simp [hl,hw,ho]
     ·simp [hl,hw]
    ·have h9:¬ x.kind=9:=fun e=>hk (.inr (.inr (.inl e)))
     simp only [if_neg hk,decide_eq_false hk,if_neg h9,decide_eq_false h9]
     by_cases hw:x.name=⟨#[]⟩
     ·by_cases ho:x.other=⟨#[]⟩
      ·by_cases h11:x.kind=11
       ·by_cases hf:0 ≤ x.form
        ·by_cases hg:x.form < 1024
         ·have q1:¬ x.form < 0:=by omega
          have q2:¬ 1024 ≤ x.form:=by omega
          simp [hl,h11,hw,ho,hf,hg,q1,q2]
         ·have q2:1024 ≤ x.form:=by omega
          simp [hl,h11,hw,ho,hf,hg,q2]
        ·have q1:x.form < 0:=by omega
         simp [hl,h11,hw,ho,hf,q1]
       ·by_cases hf:x.form=0
        ·simp [hl,h11,hw,ho,hf]
        ·simp [hl,h11,hw,ho,hf]
      ·simp [hl,hw,ho]
     ·simp [hl,hw]
   ·have hl':¬ (x.sub.length:Int)=p:=fun e=>hl e.symm
    simp [hl,hl']
def xL (x:PTerm):Int:=if 65536 < sizeT x∨1024 < depT x then 121 else if rightT x then 0 else 120
theorem zaD {K:Nat} {x:PTerm} (hK:66562 ≤ K) (hn:nmT x):zcc.f K x=some (xL x):=by
 unfold zcc.f zbQ.f zbX.f xL
 simp only [zbF]
 by_cases hs:65536 < sizeT x
 ·have h1:min (sizeT x) 65537=65537:=by omega
  simp [h1,hs]
 ·have h1:min (sizeT x) 65537=sizeT x:=by omega
  have h2:¬ (65536:Int) < (sizeT x:Int):=by omega
  rw [h1,show (1025:Int)=((1025:Nat):Int) from rfl]
  simp only [h2,decide_false,Bool.not_false,if_true,deep_some K x 1025 zbB zbB zbB zbB,zbF,Bool.false_or,decide_eq_true_eq,hs,false_or]
  by_cases hd:1024 < depT x
  ·have h3:(1024:Int) < ((min (depT x) 1025:Nat):Int):=by omega
   simp [h3,hd]
  ·have h3:¬ (1024:Int) < ((min (depT x) 1025:Nat):Int):=by omega
   rw [if_neg h3,if_neg hd,right_some K x hn zbB]
   cases rightT x <;> rfl
end
section
open Gw
theorem ba_app (a b:List UInt8):(⟨a.toArray⟩ : ByteArray) ++ ⟨b.toArray⟩ = ⟨(a ++ b).toArray⟩ := by
 apply ByteArray.ext
 simp [ByteArray.data_append]
theorem ba_size (l:List UInt8):(⟨l.toArray⟩ : ByteArray).size=l.length:=by simp [ByteArray.size]
theorem ba_inj {a b:List UInt8} (h:(⟨a.toArray⟩ : ByteArray)=⟨b.toArray⟩):a=b:=by
 have:=congrArg (fun s:ByteArray=>s.data.toList) h
 simpa using this
theorem u8_of {n:Nat} (h:n < 256):(UInt8.ofNat n).toNat=n:=by
 rw [UInt8.toNat_ofNat']; exact Nat.mod_eq_of_lt h
theorem decK_len : ∀ (k u:Nat),(decK k u).length ≤ k
 | 0,u=>by simp [decK]
 | k + 1,u=>by
  unfold decK
  split
  ·simp
  ·have:=decK_len k (u / 10); simp; omega
theorem decK_ne (k u:Nat):decK (k + 1) u ≠ []:=by
 unfold decK
 split <;> simp
theorem decK_dig : ∀ (k u:Nat),∀ c ∈ decK k u,48 ≤ c.toNat∧c.toNat ≤ 57
 | 0,u,c,h=>by simp [decK] at h
 | k + 1,u,c,h=>by
  unfold decK at h
  split at h
  ·rename_i hu
   rw [List.mem_singleton] at h; subst h; rw [u8_of zbB]; omega
  ·rcases List.mem_append.1 h with h | h
   ·exact decK_dig k _ c h
   ·have:u % 10 < 10:=Nat.mod_lt _ zbA
    rw [List.mem_singleton] at h; subst h; rw [u8_of zbB]; omega
def valD (l:List UInt8):Nat:=l.foldl (fun a c=>a * 10 + (c.toNat - 48)) 0
theorem decK_val : ∀ (k u:Nat),u < 10 ^ k→valD (decK k u)=u
 | 0,u,h=>by simp at h; subst h; rfl
 | k + 1,u,h=>by
  unfold decK
  split
  ·rename_i hu
   unfold valD
   simp only [List.foldl_cons,List.foldl_nil]
   rw [u8_of zbB]; omega
  ·have h1:=decK_val k (u / 10) (by rw [Nat.pow_succ] at h; omega)
   have:u % 10 < 10:=Nat.mod_lt _ zbA
   unfold valD at h1 ⊢
   rw [List.foldl_append,h1]
   simp only [List.foldl_cons,List.foldl_nil]
   rw [u8_of zbB]; omega
theorem decN_nn {n:Int} (h:0 ≤ n):decN n=⟨(decK 20 n.toNat).toArray⟩ := by
 unfold decN; rw [if_neg zbB]
theorem sb_list (l:List UInt8) (i:Nat) (h:i < l.length):sb ⟨l.toArray⟩ i=(l[i].toNat:Int):=by
 unfold sb
 rw [show (⟨l.toArray⟩ : ByteArray)[i]? = some l[i] from by
  rw [getElem?_pos _ i (by simpa [ByteArray.size] using h)]; rfl]
 rfl
theorem word_of {c:UInt8} (hc:isL (c.toNat:Int)=true) {l:List UInt8} (h0:l ≠ []) (h1:l.length ≤ 30) (h2 : ∀ x ∈ l,48 ≤ x.toNat∧x.toNat ≤ 57):isWord ⟨(c :: l).toArray⟩ := by
 have hz:(⟨(c :: l).toArray⟩ : ByteArray).size=l.length + 1:=by rw [ba_size]; rfl
 refine ⟨by omega,by omega,fun i hi=>?_,?_⟩
 ·have hil:i < (c :: l).length:=by rw [hz] at hi; exact hi
  unfold okAt
  rw [sb_list _ _ hil]
  cases i with
  | zero=>exact hc
  | succ i =>
   rw [if_neg zbB,List.getElem_cons_succ]
   have:=h2 _ (List.getElem_mem (show i < l.length by simpa using hil))
   unfold isC
   simp only [Bool.or_eq_true,Bool.and_eq_true,decide_eq_true_eq]
   left; left; right; omega
 ·unfold kj
  rw [List.any_eq_false]
  intro t ht
  simp only [decide_eq_true_eq]
  intro e
  have h3 : ∀ t ∈ resv,97 ≤ (t.data.toList.getD 1 0).toNat:=by decide
  have h4:=h3 t ht
  rw [← e] at h4
  cases l with
  | nil=>exact h0 rfl
  | cons d l =>
   have h5:=h2 d (List.mem_cons_self ..)
   have:((⟨(c :: d :: l).toArray⟩ : ByteArray).data.toList.getD 1 0)=d:=rfl
   rw [this] at h4
   omega
theorem decN_size {f:Int} (h:0 ≤ f):(decN f).size ≤ 20:=by rw [decN_nn h,ba_size]; exact decK_len 20 _
theorem dec_ok (c:UInt8) {f:Int} (h:0 ≤ f):decide ((⟨#[c]⟩ : ByteArray).size + (decN f).size ≤ 1000000)=true:=by
 have h1:(⟨#[c]⟩ : ByteArray).size=1:=rfl
 have:=decN_size h
 rw [h1]; simp; omega
end
section
open Gw
def xu (k:Int) (nm ot:ByteArray) (i:Nat):ByteArray:=if k=2∨i=1∧(k=12∨k=9) then nm else if k=9∧i=2 then ot else ⟨#[]⟩
abbrev xc (x:PTerm) (i:Nat):ByteArray:=xu x.kind x.name x.other i
mutual
def cntT (n:ByteArray):PTerm→Nat
 | .mk k nm ot _ s=>if k=1 then (if nm=n then 1 else 0) else cntL n k nm ot 0 s
def cntL (n:ByteArray) (k:Int) (nm ot:ByteArray):Nat→List PTerm→Nat
 | _,[]=>0
 | i,y :: l=>(if xu k nm ot i=n then 0 else cntT n y) + cntL n k nm ot (i + 1) l
end
theorem uq (n:ByteArray) (x:PTerm):cntT n x=if x.kind=1 then (if x.name=n then 1 else 0) else cntL n x.kind x.name x.other 0 x.sub:=by cases x; simp only [cntT]; rfl
theorem cntL_take (n:ByteArray) (k:Int) (nm ot:ByteArray) : ∀ {l:List PTerm} {i j:Nat} {x:PTerm},l[j]? = some x→cntL n k nm ot i (l.take (j + 1))=cntL n k nm ot i (l.take j) + (if xu k nm ot (i + j)=n then 0 else cntT n x)
 | [],_,_,_,h=>by simp at h
 | y :: l,i,0,x,h=>by simp at h; subst h; simp [cntL]
 | y :: l,i,j + 1,x,h=>by
  have:=cntL_take n k nm ot (l:=l) (i:=i + 1) (j:=j) (by simpa using h)
  simp only [List.take_succ_cons,cntL]
  rw [this,show i + 1 + j=i + (j + 1) by omega]; omega
def xF (n:ByteArray) (x:PTerm):Prop:=cntT n x ≠ 0
instance (n:ByteArray) (x:PTerm):Decidable (xF n x):=inferInstanceAs (Decidable (cntT n x ≠ 0))
theorem cntL_free (n:ByteArray) (k:Int) (nm ot:ByteArray) : ∀ {l:List PTerm} {i:Nat},cntL n k nm ot i l ≠ 0 ↔ ∃ j,∃ h:j < l.length,xu k nm ot (i + j) ≠ n∧xF n l[j]
 | [],i=>by simp [cntL]
 | y :: l,i=>by
  have ih:=cntL_free n k nm ot (l:=l) (i:=i + 1)
  simp only [cntL]
  constructor
  ·intro h
   by_cases h1:(if xu k nm ot i=n then 0 else cntT n y)=0
   ·obtain ⟨j,hj,h2,h3⟩ := ih.1 zbB
    exact ⟨j + 1,by simpa using hj,by rw [show i + (j + 1)=i + 1 + j by omega]; exact h2,by simpa using h3⟩
   ·refine ⟨0,by simp,?_⟩
    by_cases hb:xu k nm ot i=n
    ·rw [if_pos hb] at h1; exact absurd rfl h1
    ·rw [if_neg hb] at h1; exact ⟨by simpa using hb,by simpa [xF] using h1⟩
  ·rintro ⟨j,hj,h2,h3⟩
   cases j with
   | zero =>
    have h2':xu k nm ot i ≠ n:=by simpa using h2
    rw [if_neg h2']
    have:cntT n y ≠ 0:=by simpa [xF] using h3
    omega
   | succ j =>
    have:=ih.2 ⟨j,by simpa using hj,by rw [show i + 1 + j=i + (j + 1) by omega]; exact h2,by simpa using h3⟩
    omega
theorem zah (n:ByteArray) (x:PTerm):xF n x↔(x.kind=1∧x.name=n)∨(x.kind ≠ 1 ∧ ∃ j,∃ h:j < x.sub.length,xc x j ≠ n∧xF n x.sub[j]):=by
 unfold xF
 rw [uq]
 by_cases h:x.kind=1
 ·by_cases h2:x.name=n <;> simp [h,h2]
 ·rw [if_neg h,cntL_free]
  simp [h,xF]
def firstN (p:Nat→Bool):Nat→Nat→Nat
 | 0,i=>i
 | m + 1,i=>if p i then i else firstN p m (i + 1)
theorem firstN_some {p:Nat→Bool} : ∀ {m i j:Nat},i ≤ j→j < i + m→p j=true→p (firstN p m i)=true∧firstN p m i ≤ j ∧ ∀ q,i ≤ q→q < firstN p m i→p q=false
 | 0,i,j,h1,h2,_=>by omega
 | m + 1,i,j,h1,h2,h=>by
  unfold firstN
  by_cases hp:p i=true
  ·rw [if_pos hp]; exact ⟨hp,h1,fun q _ _=>by omega⟩
  ·rw [if_neg hp]
   have hj:i ≠ j:=fun e=>hp (e ▸ h)
   obtain ⟨h3,h4,h5⟩ := firstN_some (p:=p) (m:=m) (i:=i + 1) (j:=j) zbB zbB h
   refine ⟨h3,h4,fun q hq hq2=>?_⟩
   by_cases e:q=i
   ·subst e; simpa using hp
   ·exact h5 q zbB hq2
def vNm (k:Nat):ByteArray:=(⟨#[118]⟩ : ByteArray) ++ decN (k:Int)
theorem vNm_eq (k:Nat):vNm k=⟨((118:UInt8) :: decK 20 k).toArray⟩ := by
 unfold vNm; rw [decN_nn zbB]; exact ba_app [118] _
theorem vNm_inj {a b:Nat} (ha:a < 9223372036854775808) (hb:b < 9223372036854775808) (h:vNm a=vNm b):a=b:=by
 rw [vNm_eq,vNm_eq] at h
 have h1:=(List.cons.inj (ba_inj h)).2
 have h2:=congrArg valD h1
 rwa [decK_val 20 a zbB,decK_val 20 b zbB] at h2
theorem vNm_word (k:Nat):isWord (vNm k):=by
 rw [vNm_eq]; exact word_of zbA (decK_ne 19 _) (by have:=decK_len 20 k; omega) (decK_dig 20 _)
theorem jK {s:ByteArray} (h:isWord s):s ≠ ⟨#[]⟩ := fun e=>by subst e; exact absurd h.1 zbA
def blocked (p y:PTerm) (n z:ByteArray):Bool:=decide (xF z p) || decide (xF z y) || decide (z=n)
def xO (p y:PTerm) (n:ByteArray):ByteArray:=vNm (firstN (fun k => !blocked p y n (vNm k)) (sizeT p + sizeT y + 2) 0)
theorem sum_add {α:Type} (f g:α→Nat) : ∀ l:List α,(l.map fun z=>f z + g z).sum=(l.map f).sum + (l.map g).sum
 | []=>rfl
 | a :: l=>by simp only [List.map_cons,List.sum_cons,sum_add f g l]; omega
theorem sum_le {α:Type} (f g:α→Nat) : ∀ l:List α,(∀ z ∈ l,f z ≤ g z)→(l.map f).sum ≤ (l.map g).sum
 | [],_=>by simp
 | a :: l,h=>by
  have:=sum_le f g l (fun z hz=>h z (by simp [hz]))
  have:=h a zbC
  simp only [List.map_cons,List.sum_cons]; omega
theorem sum_zero : ∀ l:List ByteArray,(l.map fun _:ByteArray=>0).sum=0
 | []=>rfl
 | b :: l=>by have:=sum_zero l; simp only [List.map_cons,List.sum_cons]; omega
theorem sum_one {n:ByteArray} : ∀ {l:List ByteArray},l.Nodup→(l.map fun z=>if n=z then 1 else 0).sum ≤ 1
 | [],_=>by simp
 | a :: l,h=>by
  rw [List.nodup_cons] at h
  simp only [List.map_cons,List.sum_cons]
  by_cases e:n=a
  ·subst e
   have:(l.map fun z=>if n=z then 1 else 0).sum ≤ (l.map fun _=>0).sum:=sum_le _ _ l (fun z hz=>by
    rw [if_neg]; · omega
    ·rintro rfl; exact h.1 hz)
   have h0:(l.map fun _:ByteArray=>0).sum=0:=sum_zero l
   rw [if_pos rfl]; omega
  ·rw [if_neg e]; have:=sum_one h.2 (n:=n); omega
mutual
theorem cnt_sum : ∀ (x:PTerm) (l:List ByteArray),l.Nodup→(l.map fun z=>cntT z x).sum ≤ sizeT x
 | .mk k nm ot f s,l,hl=>by
  simp only [cntT,sizeT]
  by_cases h:k=1
  ·simp only [if_pos h]
   have:=sum_one (n:=nm) hl
   omega
  ·simp only [if_neg h]
   have:=cnt_sumL k nm ot 0 s l hl
   omega
theorem cnt_sumL : ∀ (k:Int) (nm ot:ByteArray) (i:Nat) (s:List PTerm) (l:List ByteArray),l.Nodup→(l.map fun z=>cntL z k nm ot i s).sum ≤ sizeL s
 | k,nm,ot,i,[],l,_=>by
  simp only [cntL,sizeL]
  exact Nat.le_of_eq (sum_zero l)
 | k,nm,ot,i,y :: s,l,hl=>by
  simp only [cntL,sizeL]
  rw [sum_add]
  have h1:=cnt_sum y l hl
  have h2:=cnt_sumL k nm ot (i + 1) s l hl
  have h3:(l.map fun z=>if xu k nm ot i=z then 0 else cntT z y).sum ≤ (l.map fun z=>cntT z y).sum:=sum_le _ _ l (fun z _=>by split <;> omega)
  omega
end
theorem sum_len {α:Type} (f:α→Nat) : ∀ l:List α,(∀ z ∈ l,1 ≤ f z)→l.length ≤ (l.map f).sum
 | [],_=>by simp
 | a :: l,h=>by
  have:=sum_len f l (fun z hz=>h z (by simp [hz]))
  have:=h a zbC
  simp only [List.map_cons,List.sum_cons,List.length_cons]; omega
theorem vNms_nodup (m:Nat) (hm:m < 9223372036854775808):((List.range m).map vNm).Nodup:=by
 rw [List.nodup_iff_pairwise_ne,List.pairwise_map]
 refine (List.nodup_range (n:=m)).imp_of_mem ?_
 intro a b ha hb hab e
 exact hab (vNm_inj (by have:=List.mem_range.1 ha; omega) (by have:=List.mem_range.1 hb; omega) e)
theorem not_blocked {p y:PTerm} {n:ByteArray} (h:sizeT p + sizeT y + 2 < 9223372036854775808) : ∃ j,j < sizeT p + sizeT y + 2∧blocked p y n (vNm j)=false:=by
 apply Classical.byContradiction
 intro hc
 have hall : ∀ z ∈ (List.range (sizeT p + sizeT y + 2)).map vNm,1 ≤ (cntT z p + cntT z y) + (if n=z then 1 else 0):=by
  intro z hz
  obtain ⟨j,hj,rfl⟩ := List.mem_map.1 hz
  have hb:blocked p y n (vNm j)=true:=by
   cases hq:blocked p y n (vNm j) with
   | true=>rfl
   | false=>exact absurd ⟨j,List.mem_range.1 hj,hq⟩ hc
  have hb:(cntT (vNm j) p ≠ 0∨cntT (vNm j) y ≠ 0)∨vNm j=n:=by
   unfold blocked at hb
   rcases Bool.or_eq_true_iff.1 hb with q | q
   ·rcases Bool.or_eq_true_iff.1 q with q | q
    ·exact .inl (.inl (of_decide_eq_true q))
    ·exact .inl (.inr (of_decide_eq_true q))
   ·exact .inr (of_decide_eq_true q)
  by_cases e:n=vNm j
  ·rw [if_pos e]; omega
  ·rw [if_neg e]
   have e':vNm j ≠ n:=fun q=>e q.symm
   rcases hb with (hb | hb) | hb
   ·omega
   ·omega
   ·exact absurd hb e'
 have hn:=vNms_nodup (sizeT p + sizeT y + 2) h
 have h1:=sum_len _ _ hall
 rw [sum_add,sum_add] at h1
 have h2:=cnt_sum p _ hn
 have h3:=cnt_sum y _ hn
 have h4:=sum_one (n:=n) hn
 rw [List.length_map,List.length_range] at h1
 omega
theorem fresh_ok {p y:PTerm} {n:ByteArray} (h:sizeT p + sizeT y + 2 < 9223372036854775808):¬ xF (xO p y n) p∧¬ xF (xO p y n) y∧xO p y n ≠ n:=by
 obtain ⟨j,hj,hb⟩ := not_blocked (p:=p) (y:=y) (n:=n) h
 have:=(firstN_some (p:=fun k => !blocked p y n (vNm k)) (m:=sizeT p + sizeT y + 2) (i:=0) (j:=j) zbB zbB (by simpa using hb)).1
 have h2:blocked p y n (xO p y n)=false:=by simpa [xO] using this
 have h3:(¬ xF (xO p y n) p∧¬ xF (xO p y n) y)∧xO p y n ≠ n:=by simpa [blocked] using h2
 exact ⟨h3.1.1,h3.1.2,h3.2⟩
theorem uj (p y:PTerm) (n:ByteArray):isWord (xO p y n):=vNm_word _
def varT (s:ByteArray):PTerm:=⟨1,s,⟨#[]⟩,0,[]⟩
def renC (x:PTerm) (n:ByteArray) (y:PTerm) (i:Nat) (p:PTerm):Prop:=(xc x i ≠ n∧xF n p)∧(xc x i ≠ ⟨#[]⟩ ∧ xF (xc x i) y)
instance (x:PTerm) (n:ByteArray) (y:PTerm) (i:Nat) (p:PTerm):Decidable (renC x n y i p):=inferInstanceAs (Decidable ((xc x i ≠ n∧xF n p)∧(xc x i ≠ ⟨#[]⟩ ∧ xF (xc x i) y)))
def putC (P:PTerm→ByteArray→PTerm→PTerm) (x:PTerm) (n:ByteArray) (y:PTerm) (i:Nat) (p:PTerm):PTerm :=
 if xc x i=n∨¬ xF n p then p
 else if xc x i ≠ ⟨#[]⟩ ∧ xF (xc x i) y then P (P p (xc x i) (varT (xO p y n))) n y
 else P p n y
def nmC (x:PTerm) (n:ByteArray) (y:PTerm):ByteArray :=
 let i:=if x.kind=2 then 0 else 1
 if (x.kind=2∨x.kind=12∨x.kind=9)∧renC x n y i (x.sub.getD i PTerm.z) then xO (x.sub.getD i PTerm.z) y n else x.name
def otC (x:PTerm) (n:ByteArray) (y:PTerm):ByteArray :=
 if x.kind=9∧renC x n y 2 (x.sub.getD 2 PTerm.z) then xO (x.sub.getD 2 PTerm.z) y n else x.other
def zaR:Nat→PTerm→ByteArray→PTerm→PTerm
 | 0,x,_,_=>x
 | d + 1,x,n,y=>if x.kind=1 then (if x.name=n then y else x) else ⟨x.kind,nmC x n y,otC x n y,x.form,x.sub.mapIdx fun i p=>putC (zaR d) x n y i p⟩
theorem depL_map {f:Nat→PTerm→PTerm} : ∀ {l:List PTerm},(∀ i (h:i < l.length),depT (f i l[i]) ≤ depT l[i])→depL (l.mapIdx f) ≤ depL l
 | [],_=>Nat.le_refl _
 | y :: l,h=>by
  rw [List.mapIdx_cons]
  simp only [depL]
  have h1:=depL_map (f:=fun i=>f (i + 1)) (l:=l) (fun i hi=>by have:=h (i + 1) (by simpa using hi); simpa using this)
  have h2:=h 0 zbC
  simp at h2
  omega
theorem sizeL_map {f:Nat→PTerm→PTerm} : ∀ {l:List PTerm},(∀ i (h:i < l.length),sizeT (f i l[i]) ≤ sizeT l[i])→sizeL (l.mapIdx f) ≤ sizeL l
 | [],_=>Nat.le_refl _
 | y :: l,h=>by
  rw [List.mapIdx_cons]
  simp only [sizeL]
  have h1:=sizeL_map (f:=fun i=>f (i + 1)) (l:=l) (fun i hi=>by have:=h (i + 1) (by simpa using hi); simpa using this)
  have h2:=h 0 zbC
  simp at h2
  omega
theorem mapIdx_same {f g:Nat→PTerm→PTerm} {l:List PTerm} (h : ∀ i (h:i < l.length),f i l[i]=g i l[i]):l.mapIdx f=l.mapIdx g:=by
 refine List.ext_getElem zbC fun i h1 h2=>?_
 rw [List.getElem_mapIdx,List.getElem_mapIdx]
 exact h i (by simpa using h1)
theorem kK : ∀ (d:Nat) (x:PTerm),depT x ≤ d→(∀ n z,depT (zaR d x n (varT z)) ≤ depT x∧sizeT (zaR d x n (varT z)) ≤ sizeT x) ∧ ∀ n y,zaR (d + 1) x n y=zaR d x n y
 | 0,x,h=>by have:=yW x; omega
 | d + 1,x,h=>by
  have hd:=yQ x
  have hp : ∀ i (hi:i < x.sub.length),depT x.sub[i] ≤ d:=fun i hi=>by have:=yV _ (List.getElem_mem hi); omega
  have ihp:=fun i hi=>kK d x.sub[i] (hp i hi)
  have hc : ∀ n z i (hi:i < x.sub.length),depT (putC (zaR d) x n (varT z) i x.sub[i]) ≤ depT x.sub[i]∧sizeT (putC (zaR d) x n (varT z) i x.sub[i]) ≤ sizeT x.sub[i]:=by
   intro n z i hi
   unfold putC
   split
   ·exact ⟨Nat.le_refl _,Nat.le_refl _⟩
   ·split
    ·obtain ⟨a1,a2⟩ := (ihp i hi).1 (xc x i) (xO x.sub[i] (varT z) n)
     obtain ⟨b1,b2⟩ := (kK d (zaR d x.sub[i] (xc x i) (varT (xO x.sub[i] (varT z) n))) (Nat.le_trans a1 (hp i hi))).1 n z
     exact ⟨Nat.le_trans b1 a1,Nat.le_trans b2 a2⟩
    ·exact (ihp i hi).1 n z
  refine ⟨fun n z=>?_,fun n y=>?_⟩
  ·have e1:depT (varT z)=1:=rfl
   have e2:sizeT (varT z)=1:=rfl
   have h1:=yW x
   have h2:=kN x
   unfold zaR
   split
   ·split
    ·rw [e1,e2]; exact ⟨h1,h2⟩
    ·exact ⟨Nat.le_refl _,Nat.le_refl _⟩
   ·have h3:=depL_map fun i hi=>(hc n z i hi).1
    have h4:=sizeL_map fun i hi=>(hc n z i hi).2
    rw [yQ,yI,yQ x,yI x]
    exact ⟨Nat.add_le_add_left h3 1,Nat.add_le_add_left h4 1⟩
  ·show zaR (d + 1 + 1) x n y=_
   rw [zaR,zaR]
   split
   ·rfl
   ·congr 1
    refine mapIdx_same fun i hi=>?_
    unfold putC
    split
    ·rfl
    ·split
     ·rw [(ihp i hi).2]
      exact (kK d _ (Nat.le_trans ((ihp i hi).1 _ _).1 (hp i hi))).2 n y
     ·exact (ihp i hi).2 n y
def putT (x:PTerm) (n:ByteArray) (y:PTerm):PTerm:=zaR (depT x) x n y
theorem putS_dep (x:PTerm) (n:ByteArray) (y:PTerm) : ∀ {d:Nat},depT x ≤ d→zaR d x n y=putT x n y:=by
 intro d h
 induction d with
 | zero=>have:=yW x; omega
 | succ d ih =>
  by_cases e:depT x=d + 1
  ·unfold putT; rw [e]
  ·rw [(kK d x zbB).2,ih zbB]
theorem putT_eq (x:PTerm) (n:ByteArray) (y:PTerm):putT x n y=if x.kind=1 then (if x.name=n then y else x) else ⟨x.kind,nmC x n y,otC x n y,x.form,x.sub.mapIdx fun i p=>putC putT x n y i p⟩ := by
 have hd:=yQ x
 unfold putT
 rw [show depT x=depL x.sub + 1 by omega,zaR]
 split
 ·rfl
 ·congr 1
  refine mapIdx_same fun i hi=>?_
  have hp:depT x.sub[i] ≤ depL x.sub:=yV _ (List.getElem_mem hi)
  unfold putC
  split
  ·rfl
  ·split
   ·rw [putS_dep _ _ _ hp,putS_dep _ _ _ (by rw [← putS_dep _ _ _ hp]; exact Nat.le_trans ((kK _ _ hp).1 _ _).1 hp)]
    rfl
   ·exact putS_dep _ _ _ hp
theorem dep_ren (p:PTerm) (n z:ByteArray):depT (putT p n (varT z)) ≤ depT p:=((kK _ p (Nat.le_refl _)).1 n z).1
theorem size_ren (p:PTerm) (n z:ByteArray):sizeT (putT p n (varT z)) ≤ sizeT p:=((kK _ p (Nat.le_refl _)).1 n z).2
theorem nmC_pos {x:PTerm} {n:ByteArray} {y:PTerm} (h:(x.kind=2∨x.kind=12∨x.kind=9)∧renC x n y (if x.kind=2 then 0 else 1) (x.sub.getD (if x.kind=2 then 0 else 1) PTerm.z)):nmC x n y=xO (x.sub.getD (if x.kind=2 then 0 else 1) PTerm.z) y n:=if_pos h
theorem nmC_neg {x:PTerm} {n:ByteArray} {y:PTerm} (h:¬ ((x.kind=2∨x.kind=12∨x.kind=9)∧renC x n y (if x.kind=2 then 0 else 1) (x.sub.getD (if x.kind=2 then 0 else 1) PTerm.z))):nmC x n y=x.name:=if_neg h
theorem otC_pos {x:PTerm} {n:ByteArray} {y:PTerm} (h:x.kind=9∧renC x n y 2 (x.sub.getD 2 PTerm.z)):otC x n y=xO (x.sub.getD 2 PTerm.z) y n:=if_pos h
theorem otC_neg {x:PTerm} {n:ByteArray} {y:PTerm} (h:¬ (x.kind=9∧renC x n y 2 (x.sub.getD 2 PTerm.z))):otC x n y=x.other:=if_neg h
end
section
open Gw
theorem yp {x:PTerm} (h:rightT x=true) {i:Nat} (hi:i < x.sub.length):rightT x.sub[i]=true:=by
 rw [zaB,Bool.and_eq_true] at h; exact rightL_mem h.2 _ (List.getElem_mem hi)
theorem rightL_iff : ∀ {l:List PTerm},rightL l=true ↔ ∀ i (h:i < l.length),rightT l[i]=true:=by
 intro l
 rw [rightL_all,List.all_eq_true]
 constructor
 ·intro h i hi; exact h _ (List.getElem_mem hi)
 ·intro h x hx
  obtain ⟨i,hi,rfl⟩ := List.getElem_of_mem hx
  exact h i hi
structure NodeR (x:PTerm):Prop where
 len:ye x.kind=(x.sub.length:Int)
 nm:(x.kind=1∨x.kind=2∨x.kind=9∨x.kind=12)→isWord x.name
 nm0:¬ (x.kind=1∨x.kind=2∨x.kind=9∨x.kind=12)→x.name=⟨#[]⟩
 ot:x.kind=9→isWord x.other
 ot0:x.kind ≠ 9→x.other=⟨#[]⟩
 fm:x.kind=11→0 ≤ x.form∧x.form < 1024
 fm0:x.kind ≠ 11→x.form=0
theorem nodeR_iff (x:PTerm):nodeR x=true↔NodeR x:=by
 unfold nodeR
 simp only [Bool.and_eq_true,decide_eq_true_eq]
 constructor
 ·rintro ⟨⟨⟨h1,h2⟩,h3⟩,h4⟩
  refine ⟨h1,fun h=>?_,fun h=>?_,fun h=>?_,fun h=>?_,fun h=>?_,fun h=>?_⟩
  ·rw [if_pos h] at h2; simpa using h2
  ·rw [if_neg h] at h2; simpa using h2
  ·rw [if_pos h] at h3; simpa using h3
  ·rw [if_neg h] at h3; simpa using h3
  ·rw [if_pos h] at h4; simpa using h4
  ·rw [if_neg h] at h4; simpa using h4
 ·intro h
  refine ⟨⟨⟨h.len,?_⟩,?_⟩,?_⟩
  ·split
   ·rename_i q; simpa using h.nm q
   ·rename_i q; simpa using h.nm0 q
  ·split
   ·rename_i q; simpa using h.ot q
   ·rename_i q; simpa using h.ot0 q
  ·split
   ·rename_i q; simpa using h.fm q
   ·rename_i q; simpa using h.fm0 q
theorem xY {x:PTerm} (h:rightT x=true):NodeR x:=by
 rw [zaB,Bool.and_eq_true] at h; exact (nodeR_iff x).1 h.1
theorem right_of {x:PTerm} (h:NodeR x) (hs : ∀ i (h:i < x.sub.length),rightT x.sub[i]=true):rightT x=true:=by
 rw [zaB,Bool.and_eq_true]; exact ⟨(nodeR_iff x).2 h,rightL_iff.2 hs⟩
theorem yL {x:PTerm} (h:rightT x=true):(x.kind=1→x.sub=[])∧(x.kind=2→x.sub.length=1)∧(x.kind=12→x.sub.length=2)∧(x.kind=9→x.sub.length=3)∧(x.kind=11→x.sub.length=1):=by
 have h1:=(xY h).len
 refine ⟨fun k=>?_,fun k=>?_,fun k=>?_,fun k=>?_,fun k=>?_⟩ <;> rw [k] at h1 <;> simp [ye] at h1
 ·exact List.eq_nil_of_length_eq_zero zbB
 all_goals omega
theorem jT {z:ByteArray} (h:isWord z):rightT (varT z)=true:=by
 refine right_of ⟨rfl,fun _=>h,fun q=>absurd (.inl rfl) q,fun q=>absurd q (by simp [varT,PTerm.kind]),fun _=>rfl,fun q=>absurd q (by simp [varT,PTerm.kind]),fun _=>rfl⟩ fun i hi=>?_
 simp [varT,PTerm.sub] at hi
theorem bind_word {x:PTerm} (h:rightT x=true) (i:Nat):xc x i=⟨#[]⟩ ∨ isWord (xc x i):=by
 have hn:=xY h
 unfold xc xu
 split
 ·rename_i q
  right; exact hn.nm zbB
 ·split
  ·rename_i q; right; exact hn.ot q.1
  ·left; rfl
theorem free_word : ∀ (d:Nat) (x:PTerm),depT x ≤ d→rightT x=true → ∀ z,xF z x→isWord z
 | 0,x,h,_,_,_=>by have:=yW x; omega
 | d + 1,x,h,hr,z,hz=>by
  have hd:=yQ x
  rcases (zah z x).1 hz with ⟨h1,h2⟩ | ⟨h1,j,hj,h2,h3⟩
  ·rw [← h2]; exact (xY hr).nm (.inl h1)
  ·exact free_word d x.sub[j] (by have:=yV _ (List.getElem_mem hj); omega) (yp hr hj) z h3
theorem no_empty {x:PTerm} (h:rightT x=true):cntT ⟨#[]⟩ x=0:=by
 by_cases e:cntT ⟨#[]⟩ x=0
 ·exact e
 ·exact absurd rfl (jK (free_word _ x (Nat.le_refl _) h _ e))
theorem getD_get {l:List PTerm} {i:Nat} (h:i < l.length):l.getD i PTerm.z=l[i]:=by simp [List.getD_eq_getElem?_getD,h]
theorem vz {x:PTerm} (n:ByteArray) (y:PTerm) (hk:x.kind ≠ 1):putT x n y=⟨x.kind,nmC x n y,otC x n y,x.form,x.sub.mapIdx fun i p=>putC putT x n y i p⟩ := by rw [putT_eq,if_neg hk]
theorem put_var {x:PTerm} (n:ByteArray) (y:PTerm) (hk:x.kind=1):putT x n y=if x.name=n then y else x:=by rw [putT_eq,if_pos hk]
theorem bind_put {x:PTerm} (hr:rightT x=true) (hk:x.kind ≠ 1) (n:ByteArray) (y:PTerm) {j:Nat} (hj:j < x.sub.length):xu x.kind (nmC x n y) (otC x n y) j=if renC x n y j x.sub[j] then xO x.sub[j] y n else xc x j:=by
 obtain ⟨_,l2,l12,l9,_⟩ := yL hr
 by_cases k2:x.kind=2
 ·have hj0:j=0:=by have:=l2 k2; omega
  subst hj0
  have e : ∀ a b,xu x.kind a b 0=a:=fun a b=>by simp [xu,k2]
  rw [e]
  unfold nmC xc
  rw [e]
  simp only [k2,if_true,getD_get hj,true_or,true_and]
 by_cases k12:x.kind=12
 ·have hj1:j=0∨j=1:=by have:=l12 k12; omega
  rcases hj1 with rfl | rfl
  ·have e : ∀ a b,xu x.kind a b 0=⟨#[]⟩ := fun a b=>by simp [xu,k12]
   rw [e,if_neg]
   ·unfold xc; rw [e]
   ·rintro ⟨_,h,_⟩; unfold xc at h; rw [e] at h; exact h rfl
  ·have e : ∀ a b,xu x.kind a b 1=a:=fun a b=>by simp [xu,k12]
   rw [e]
   unfold nmC xc
   rw [e]
   simp only [k12,getD_get hj,show ¬ ((12:Int)=2) by decide,if_false,false_or,true_or,true_and]
 by_cases k9:x.kind=9
 ·have hj1:j=0∨j=1∨j=2:=by have:=l9 k9; omega
  rcases hj1 with rfl | rfl | rfl
  ·have e : ∀ a b,xu x.kind a b 0=⟨#[]⟩ := fun a b=>by simp [xu,k9]
   rw [e,if_neg]
   ·unfold xc; rw [e]
   ·rintro ⟨_,h,_⟩; unfold xc at h; rw [e] at h; exact h rfl
  ·have e : ∀ a b,xu x.kind a b 1=a:=fun a b=>by simp [xu,k9]
   rw [e]
   unfold nmC xc
   rw [e]
   simp only [k9,getD_get hj,show ¬ ((9:Int)=2) by decide,show ¬ ((9:Int)=12) by decide,if_false,false_or,true_and]
  ·have e : ∀ a b,xu x.kind a b 2=b:=fun a b=>by simp [xu,k9]
   rw [e]
   unfold otC xc
   rw [e]
   simp only [k9,getD_get hj,true_and]
 ·have e : ∀ a b,xu x.kind a b j=⟨#[]⟩ := fun a b=>by simp [xu,k2,k12,k9]
  rw [e,if_neg]
  ·unfold xc; rw [e]
  ·rintro ⟨_,h,_⟩; unfold xc at h; rw [e] at h; exact h rfl
theorem kM : ∀ (d:Nat) (x:PTerm),depT x ≤ d→rightT x=true → ∀ (n:ByteArray) (y:PTerm),rightT y=true→rightT (putT x n y)=true
 | 0,x,h,_,_,_,_=>by have:=yW x; omega
 | d + 1,x,h,hr,n,y,hy=>by
  have hd:=yQ x
  by_cases hk:x.kind=1
  ·rw [put_var n y hk]; split <;> assumption
  rw [vz n y hk]
  have hn:=xY hr
  have w1:nmC x n y=x.name∨((x.kind=2∨x.kind=12∨x.kind=9)∧isWord (nmC x n y)):=by
   unfold nmC
   dsimp only
   by_cases q:(x.kind=2∨x.kind=12∨x.kind=9)∧renC x n y (if x.kind=2 then 0 else 1) (x.sub.getD (if x.kind=2 then 0 else 1) PTerm.z)
   ·rw [if_pos q]; exact .inr ⟨q.1,uj _ _ _⟩
   ·rw [if_neg q]; exact .inl rfl
  have w2:otC x n y=x.other∨(x.kind=9∧isWord (otC x n y)):=by
   unfold otC
   split
   ·rename_i q; right; exact ⟨q.1,uj _ _ _⟩
   ·left; rfl
  refine right_of ⟨?_,fun q=>?_,fun q=>?_,fun q=>?_,fun q=>?_,fun q=>hn.fm q,fun q=>hn.fm0 q⟩ fun i hi=>?_
  ·show ye x.kind=((x.sub.mapIdx _).length:Int)
   rw [List.length_mapIdx]; exact hn.len
  ·show isWord (nmC x n y)
   rcases w1 with w | w
   ·rw [w]; exact hn.nm q
   ·exact w.2
  ·show nmC x n y=_
   rcases w1 with w | w
   ·rw [w]; exact hn.nm0 q
   ·refine absurd ?_ q
    show x.kind=1∨x.kind=2∨x.kind=9∨x.kind=12
    omega
  ·show isWord (otC x n y)
   rcases w2 with w | w
   ·rw [w]; exact hn.ot q
   ·exact w.2
  ·show otC x n y=_
   rcases w2 with w | w
   ·rw [w]; exact hn.ot0 q
   ·exact absurd w.1 q
  ·have hi':i < x.sub.length:=by simpa [PTerm.sub] using hi
   have ei:(x.sub.mapIdx fun i p=>putC putT x n y i p)[i]'(by simpa using hi')=putC putT x n y i x.sub[i]:=List.getElem_mapIdx ..
   show rightT ((x.sub.mapIdx fun i p=>putC putT x n y i p)[i]'(by simpa using hi'))=true
   rw [ei]
   have hp:depT x.sub[i] ≤ d:=by have:=yV _ (List.getElem_mem hi'); omega
   have hrp:=yp hr hi'
   unfold putC
   split
   ·exact hrp
   ·split
    ·exact kM d _ (Nat.le_trans (dep_ren _ _ _) hp) (kM d _ hp hrp _ _ (jT (uj _ _ _))) n y hy
    ·exact kM d _ hp hrp n y hy
def sumI (f:Nat→PTerm→Nat):Nat→List PTerm→Nat
 | _,[]=>0
 | i,p :: l=>f i p + sumI f (i + 1) l
theorem cntL_sumI (n:ByteArray) (k:Int) (nm ot:ByteArray) : ∀ (l:List PTerm) (i:Nat),cntL n k nm ot i l=sumI (fun i p=>if xu k nm ot i=n then 0 else cntT n p) i l
 | [],_=>rfl
 | y :: l,i=>by simp only [cntL,sumI,cntL_sumI n k nm ot l (i + 1)]
theorem sumI_map {F A B:Nat→PTerm→Nat} {m:Nat} : ∀ {l:List PTerm} {i:Nat} {g:Nat→PTerm→PTerm},(∀ j (h:j < l.length),F (i + j) (g j l[j])=A (i + j) l[j] + B (i + j) l[j] * m)→sumI F i (l.mapIdx g)=sumI A i l + sumI B i l * m
 | [],_,_,_=>by simp [sumI]
 | y :: l,i,g,h=>by
  rw [List.mapIdx_cons]
  simp only [sumI]
  have h1:=sumI_map (F:=F) (A:=A) (B:=B) (m:=m) (l:=l) (i:=i + 1) (g:=fun j=>g (j + 1)) (fun j hj=>by
   have:=h (j + 1) (by simpa using hj)
   rw [show i + 1 + j=i + (j + 1) by omega]
   simpa using this)
  have h2:=h 0 zbC
  simp at h2
  rw [h1,h2,Nat.add_mul]; omega
theorem sumI_le {A B:Nat→PTerm→Nat} : ∀ {l:List PTerm} {i:Nat},(∀ j (h:j < l.length),A (i + j) l[j] ≤ B (i + j) l[j])→sumI A i l ≤ sumI B i l
 | [],_,_=>Nat.le_refl _
 | y :: l,i,h=>by
  have h1:=sumI_le (A:=A) (B:=B) (l:=l) (i:=i + 1) (fun j hj=>by
   have:=h (j + 1) (by simpa using hj)
   rw [show i + 1 + j=i + (j + 1) by omega]
   simpa using this)
  have h2:=h 0 zbC
  simp at h2
  simp only [sumI]; omega
theorem sumI_zero {A:Nat→PTerm→Nat} {l:List PTerm} {i:Nat} (h : ∀ j (h:j < l.length),A (i + j) l[j]=0):sumI A i l=0:=by
 have h1:sumI A i l ≤ sumI (fun _ _=>0) i l:=sumI_le fun j hj=>Nat.le_of_eq (h j hj)
 have h2 : ∀ (l:List PTerm) (i:Nat),sumI (fun _ _=>0) i l=0:=by
  intro l
  induction l with
  | nil=>intro i; rfl
  | cons y l ih=>intro i; simp [sumI,ih]
 rw [h2] at h1; omega
theorem cnt_put : ∀ (d:Nat) (x:PTerm),depT x ≤ d→rightT x=true → ∀ (n:ByteArray) (y:PTerm),rightT y=true→sizeT x + sizeT y + 4 < 9223372036854775808 → ∀ z,cntT z (putT x n y)=(if z=n then 0 else cntT z x) + cntT n x * cntT z y
 | 0,x,h,_,_,_,_,_,_=>by have:=yW x; omega
 | d + 1,x,h,hr,n,y,hy,hb,z=>by
  have hd:=yQ x
  have hs:=yI x
  by_cases hk:x.kind=1
  ·rw [put_var n y hk,uq n x,uq z x,if_pos hk,if_pos hk]
   by_cases e:x.name=n
   ·rw [if_pos e,if_pos e,Nat.one_mul]
    by_cases e2:z=n
    ·rw [if_pos e2]; omega
    ·rw [if_neg e2,if_neg (fun q=>e2 (q.symm.trans e))]; omega
   ·rw [if_neg e,if_neg e,Nat.zero_mul,uq z x,if_pos hk]
    by_cases e2:z=n
    ·rw [if_pos e2,if_neg (fun q=>e (q.trans e2))]
    ·rw [if_neg e2]; rfl
  rw [vz n y hk,uq n x,uq z x,if_neg hk,if_neg hk,uq]
  show (if x.kind=1 then _ else cntL z x.kind (nmC x n y) (otC x n y) 0 (x.sub.mapIdx fun i p=>putC putT x n y i p))=_
  rw [if_neg hk,cntL_sumI,cntL_sumI,cntL_sumI]
  have hzz : ∀ (l:List PTerm) (i:Nat) (f:Nat→PTerm→Nat),(if z=n then 0 else sumI f i l)=sumI (fun i p=>if z=n then 0 else f i p) i l:=by
   intro l i f
   by_cases e:z=n
   ·simp only [if_pos e]; exact (sumI_zero fun _ _=>rfl).symm
   ·simp only [if_neg e]
  rw [hzz]
  refine sumI_map fun j hj=>?_
  simp only [Nat.zero_add]
  have hp:depT x.sub[j] ≤ d:=by have:=yV _ (List.getElem_mem hj); omega
  have hsp:sizeT x.sub[j] ≤ sizeL x.sub:=vO (List.getElem_mem hj)
  have hrp:=yp hr hj
  have hq:rightT (putT x.sub[j] (xc x j) (varT (xO x.sub[j] y n)))=true:=kM d _ hp hrp _ _ (jT (uj _ _ _))
  have hbp:=bind_put hr hk n y hj
  rw [hbp]
  generalize x.sub[j]=p at *
  by_cases c1:xc x j=n
  ·have hren:¬ renC x n y j p:=fun q=>q.1.1 c1
   have c1':xu x.kind x.name x.other j=n:=c1
   rw [if_neg hren,putC,if_pos (Or.inl c1),if_pos c1,c1',c1]
   by_cases e:z=n
   ·subst e; simp
   ·simp [e,Ne.symm e]
  by_cases c2:xF n p
  ·by_cases c3:xc x j ≠ ⟨#[]⟩ ∧ xF (xc x j) y
   ·have hren:renC x n y j p:=⟨⟨c1,c2⟩,c3⟩
    have hns:¬ (xc x j=n∨¬ xF n p):=fun q=>q.elim c1 (fun q=>q c2)
    rw [if_pos hren,putC,if_neg hns,if_pos c3,if_neg c1]
    obtain ⟨f1,f2,f3⟩ := fresh_ok (p:=p) (y:=y) (n:=n) zbB
    have hww:isWord (xO p y n):=uj _ _ _
    generalize xO p y n=w at *
    have g1:cntT w p=0:=by simpa [xF] using f1
    have g2:cntT w y=0:=by simpa [xF] using f2
    have hw1:sizeT (varT w)=1:=rfl
    have hvar : ∀ z,cntT z (varT w)=if w=z then 1 else 0:=fun z=>by rw [uq]; rfl
    by_cases e:w=z
    ·subst e
     rw [if_pos rfl,g1,g2]; simp
    ·rw [if_neg e]
     have hsr:=size_ren p (xc x j) w
     rw [cnt_put d _ (Nat.le_trans (dep_ren _ _ _) hp) hq n y hy zbB z]
     rw [cnt_put d p hp hrp (xc x j) (varT w) (jT hww) zbB z,cnt_put d p hp hrp (xc x j) (varT w) (jT hww) zbB n,hvar,hvar,if_neg e,if_neg f3]
     simp [Ne.symm c1]
     by_cases e2:z=n <;> by_cases e3:z=xc x j <;> simp [e2,e3,eq_comm]
   ·have hren:¬ renC x n y j p:=fun q=>c3 q.2
    have hns:¬ (xc x j=n∨¬ xF n p):=fun q=>q.elim c1 (fun q=>q c2)
    rw [if_neg hren,putC,if_neg hns,if_neg c3,if_neg c1,cnt_put d p hp hrp n y hy zbB z]
    by_cases e:xc x j=z
    ·rw [if_pos e,if_pos e]
     have hz0:cntT z y=0:=by
      rw [← e]
      by_cases e0:xc x j=⟨#[]⟩
      ·rw [e0]; exact no_empty hy
      ·have:¬ xF (xc x j) y:=fun q=>c3 ⟨e0,q⟩
       simpa [xF] using this
     rw [hz0]; simp
    ·rw [if_neg e,if_neg e]
  ·have hren:¬ renC x n y j p:=fun q=>c2 q.1.2
   rw [if_neg hren,putC,if_pos (Or.inr c2),if_neg c1]
   have g:cntT n p=0:=by simpa [xF] using c2
   rw [g,Nat.zero_mul,Nat.add_zero]
   by_cases e:z=n
   ·rw [if_pos e,e,g]; simp
   ·rw [if_neg e]
end
section
open Gw
theorem PTerm.eta (x:PTerm):PTerm.mk x.kind x.name x.other x.form x.sub=x:=by cases x; rfl
theorem mk_kind (k:Int) (n o:ByteArray) (f:Int) (s:List PTerm):(PTerm.mk k n o f s).kind=k:=rfl
theorem zaP (k:Int) (n o:ByteArray) (f:Int) (s:List PTerm):(PTerm.mk k n o f s).sub=s:=rfl
mutual
def stripT:PTerm→PTerm
 | .mk k nm ot f s=>if k=11 then (stripL s).headD PTerm.z else .mk k nm ot f (stripL s)
def stripL:List PTerm→List PTerm
 | []=>[]
 | x :: l=>stripT x :: stripL l
end
end
section
open Gw
theorem jz {i:Int} {n:Nat} (h0:0 ≤ i) (h1:i < n):inb i n=true:=by simp [inb,h0,h1]
theorem wrap_succ {i:Nat} (h:i < 1000000000000):IntKind.i64.wrap ((i:Int) + 1)=((i + 1:Nat):Int):=by rw [wrap_small ⟨by omega,by omega⟩]; omega
theorem forS_inv {σ:Type} {b:Int→σ→Option σ} {inv:Nat→σ} : ∀ (n i:Nat),(∀ j:Nat,i ≤ j→j < i + n→b j (inv j)=some (inv (j + 1)))→forS b n i (inv i)=some (inv (i + n))
 | 0,i,_=>rfl
 | n + 1,i,h=>by
  have ih:=forS_inv (b:=b) (inv:=inv) n (i + 1) (fun j h1 h2=>h j zbB zbB)
  simp only [forS,h i (Nat.le_refl _) zbB,zbF]
  rw [show ((i:Int) + 1)=((i + 1:Nat):Int) by omega,ih,show i + 1 + n=i + (n + 1) by omega]
theorem iter_brk {σ ρ:Type} {b:σ→Option (Stp σ ρ)} {inv:Nat→σ} {s:σ} : ∀ (n i k:Nat),n < k→(∀ j:Nat,i ≤ j→j < i + n→b (inv j)=some (.go (inv (j + 1))))→b (inv (i + n))=some (.brk s)→iter b k (inv i)=some (.inl s)
 | n,i,0,hk,_,_=>by omega
 | 0,i,k + 1,_,_,h=>by simp only [iter]; rw [show i + 0=i from rfl] at h; rw [h]; rfl
 | n + 1,i,k + 1,hk,h,he=>by
  simp only [iter,h i (Nat.le_refl _) zbB,zbF]
  exact iter_brk n (i + 1) k zbB (fun j h1 h2=>h j zbB zbB) (by rw [show i + 1 + n=i + (n + 1) by omega]; exact he)
theorem iter_ret {σ ρ:Type} {b:σ→Option (Stp σ ρ)} {inv:Nat→σ} {r:ρ} : ∀ (n i k:Nat),n < k→(∀ j:Nat,i ≤ j→j < i + n→b (inv j)=some (.go (inv (j + 1))))→b (inv (i + n))=some (.ret r)→iter b k (inv i)=some (.inr r)
 | n,i,0,hk,_,_=>by omega
 | 0,i,k + 1,_,_,h=>by simp only [iter]; rw [show i + 0=i from rfl] at h; rw [h]; rfl
 | n + 1,i,k + 1,hk,h,he=>by
  simp only [iter,h i (Nat.le_refl _) zbB,zbF]
  exact iter_ret n (i + 1) k zbB (fun j h1 h2=>h j zbB zbB) (by rw [show i + 1 + n=i + (n + 1) by omega]; exact he)
theorem zbw : ∀ l:List PTerm,l.length ≤ sizeL l
 | []=>Nat.le_refl _
 | y :: l=>by have:=kN y; have:=zbw l; simp only [sizeL,List.length_cons]; omega
theorem copy12 : ∀ (K:Nat) (x:PTerm),sizeT x + 2 ≤ K→sizeT x ≤ 1000000000000→zdu.f K x=some x
 | 0,x,h,_=>by omega
 | K + 1,x,h,hb=>by
  have hs:=yI x
  have hl:=zbw x.sub
  show zdu.g (zdu.f K) K x=_
  unfold zdu.g
  have hloop:=iter_brk (b:=fun s=>zdu.b0 x (zdu.f K) s.1 s.2) (inv:=fun i=>((i:Int),(⟨x.kind,x.name,x.other,x.form,x.sub.take i⟩ : PTerm))) (s:=((x.sub.length:Int),x)) x.sub.length 0 K zbB (fun j _ hj=>by
   have hj:j < x.sub.length:=by omega
   have hm:sizeT x.sub[j] ≤ sizeL x.sub:=vO (List.getElem_mem hj)
   show zdu.b0 x (zdu.f K) (j:Int) (⟨x.kind,x.name,x.other,x.form,x.sub.take j⟩ : PTerm)=_
   unfold zdu.b0
   rw [if_pos (by simp; omega),chk,if_pos (jz zbB zbB),zaI hj,copy12 K _ zbB zbB]
   simp only [zbF]
   rw [chk,if_pos (by show decide ((((x.sub.take j).length + 1) * 72) ≤ _)=true; rw [List.length_take]; simp; omega),wrap_succ zbB]
   show some (Stp.go (((j + 1:Nat):Int),PTerm.mk x.kind x.name x.other x.form (x.sub.take j ++ [x.sub[j]])))=_
   rw [← List.take_succ_eq_append_getElem hj]) (by
   show zdu.b0 x (zdu.f K) ((0 + x.sub.length:Nat):Int) (⟨x.kind,x.name,x.other,x.form,x.sub.take (0 + x.sub.length)⟩ : PTerm)=_
   unfold zdu.b0
   rw [Nat.zero_add,if_neg zbC,List.take_length,PTerm.eta])
  have hloop:iter (fun s=>zdu.b0 x (zdu.f K) s.1 s.2) K (0,(⟨x.kind,x.name,x.other,x.form,([]:List PTerm)⟩ : PTerm))=some (.inl ((x.sub.length:Int),x)):=hloop
  rw [hloop]
  show some (⟨x.kind,x.name,x.other,x.form,x.sub⟩ : PTerm)=some x
  rw [PTerm.eta]
theorem bind14 (x:PTerm) (i:Nat):zcD.f x (i:Int)=some (xc x i):=by
 unfold zcD.f xc xu
 have e1:((i:Int)=1)=(i=1):=by apply propext; omega
 have e2:((i:Int)=2)=(i=2):=by apply propext; omega
 simp only [e1,e2]
 by_cases h2:x.kind=2
 ·simp [h2]
 ·by_cases h1:i=1
  ·by_cases h3:x.kind=12∨x.kind=9
   ·simp [h1,h3]
   ·have a:=(not_or.1 h3).1; have b:=(not_or.1 h3).2
    simp [h1,h2,a,b]
  ·by_cases h9:x.kind=9 <;> by_cases h4:i=2 <;> simp [h1,h2,h9,h4]
end
section
open Gw
end
section
open Gw
def idxN (x:PTerm):Nat:=if x.kind=2 then 0 else 1
def nmJ (x:PTerm) (n:ByteArray) (y:PTerm) (j:Nat):ByteArray:=if idxN x < j then nmC x n y else x.name
def otJ (x:PTerm) (n:ByteArray) (y:PTerm) (j:Nat):ByteArray:=if 2 < j then otC x n y else x.other
theorem getD_at {l:List PTerm} {j:Nat} (h:j < l.length):l.getD j PTerm.z=l[j]:=by rw [List.getD_eq_getElem?_getD,List.getElem?_eq_getElem h]; rfl
theorem parts_le {k:Int} (h:k ≠ 9):ye k ≤ 2:=by
 unfold ye
 by_cases h1:k=1
 ·rw [if_pos h1]; decide
 rw [if_neg h1,if_neg h]
 by_cases h2:k=3∨k=4∨k=12
 ·rw [if_pos h2]; decide
 rw [if_neg h2]
 by_cases h3:k=2∨k=5∨k=6∨k=7∨k=8∨k=10∨k=11
 ·rw [if_pos h3]; decide
 rw [if_neg h3]; decide
theorem third {x:PTerm} (hr:rightT x=true) (h:2 < x.sub.length):x.kind=9:=by
 apply Classical.byContradiction
 intro q
 have h1:=(xY hr).len
 have h2:=parts_le q
 omega
theorem ren_bind {x:PTerm} {n:ByteArray} {y:PTerm} {j:Nat} {p:PTerm} (h:renC x n y j p):x.kind=2∨(j=1∧(x.kind=12∨x.kind=9))∨(x.kind=9∧j=2):=by
 have hb:xu x.kind x.name x.other j ≠ ⟨#[]⟩ := h.2.1
 unfold xu at hb
 by_cases c:x.kind=2∨j=1∧(x.kind=12∨x.kind=9)
 ·rcases c with c | c
  ·exact .inl c
  ·exact .inr (.inl c)
 ·rw [if_neg c] at hb
  by_cases c2:x.kind=9∧j=2
  ·exact .inr (.inr c2)
  ·rw [if_neg c2] at hb; exact absurd rfl hb
theorem nmJ_end {x:PTerm} (hr:rightT x=true) (n:ByteArray) (y:PTerm):nmJ x n y x.sub.length=nmC x n y:=by
 obtain ⟨_,l2,l12,l9,_⟩ := yL hr
 unfold nmJ
 by_cases h:idxN x < x.sub.length
 ·rw [if_pos h]
 ·rw [if_neg h,nmC_neg]
  intro q
  unfold idxN at h
  rcases q.1 with k | k | k
  ·rw [if_pos k] at h; have:=l2 k; omega
  ·rw [if_neg zbB] at h; have:=l12 k; omega
  ·rw [if_neg zbB] at h; have:=l9 k; omega
theorem otJ_end {x:PTerm} (hr:rightT x=true) (n:ByteArray) (y:PTerm):otJ x n y x.sub.length=otC x n y:=by
 obtain ⟨_,l2,l12,l9,_⟩ := yL hr
 unfold otJ
 by_cases h:2 < x.sub.length
 ·rw [if_pos h]
 ·rw [if_neg h,otC_neg]
  intro q
  have:=l9 q.1; omega
theorem nmJ_succ {x:PTerm} (hr:rightT x=true) (n:ByteArray) (y:PTerm) {j:Nat} (hj:j < x.sub.length):nmJ x n y (j + 1)=if renC x n y j x.sub[j]∧¬ j=2 then xO x.sub[j] y n else nmJ x n y j:=by
 obtain ⟨_,l2,l12,l9,_⟩ := yL hr
 have hi1:idxN x ≤ 1:=by unfold idxN; split <;> omega
 by_cases hi:j=idxN x
 ·have e1:nmJ x n y (j + 1)=nmC x n y:=by unfold nmJ; rw [if_pos zbB]
  have e2:nmJ x n y j=x.name:=by unfold nmJ; rw [if_neg zbB]
  rw [e1,e2]
  have hg:x.sub.getD (if x.kind=2 then 0 else 1) PTerm.z=x.sub[j]:=by
   rw [show (if x.kind=2 then 0 else 1)=j from hi.symm]; exact getD_at hj
  have hidx:(if x.kind=2 then 0 else 1)=j:=hi.symm
  by_cases c:renC x n y j x.sub[j]
  ·have hk:x.kind=2∨x.kind=12∨x.kind=9:=by
    rcases ren_bind c with q | q | q
    ·exact .inl q
    ·exact .inr q.2
    ·exact .inr (.inr q.1)
   have cc:renC x n y (if x.kind=2 then 0 else 1) (x.sub.getD (if x.kind=2 then 0 else 1) PTerm.z):=by rw [hg,hidx]; exact c
   rw [if_pos ⟨c,by omega⟩,nmC_pos ⟨hk,cc⟩,hg]
  ·have cc:¬ renC x n y (if x.kind=2 then 0 else 1) (x.sub.getD (if x.kind=2 then 0 else 1) PTerm.z):=by rw [hg,hidx]; exact c
   rw [if_neg (fun q=>c q.1),nmC_neg (fun q=>cc q.2)]
 ·have e:nmJ x n y (j + 1)=nmJ x n y j:=by
   unfold nmJ
   by_cases q:idxN x < j
   ·rw [if_pos q,if_pos zbB]
   ·rw [if_neg q,if_neg zbB]
  rw [e,if_neg]
  intro q
  rcases ren_bind q.1 with k | k | k
  ·have:=l2 k; unfold idxN at hi; rw [if_pos k] at hi; omega
  ·have:x.kind ≠ 2:=by omega
   unfold idxN at hi; rw [if_neg this] at hi; omega
  ·exact q.2 k.2
theorem otJ_succ {x:PTerm} (hr:rightT x=true) (n:ByteArray) (y:PTerm) {j:Nat} (hj:j < x.sub.length):otJ x n y (j + 1)=if renC x n y j x.sub[j]∧j=2 then xO x.sub[j] y n else otJ x n y j:=by
 by_cases h2:j=2
 ·subst h2
  have k9:=third hr hj
  have e1:otJ x n y (2 + 1)=otC x n y:=by unfold otJ; rw [if_pos zbB]
  have e2:otJ x n y 2=x.other:=by unfold otJ; rw [if_neg zbB]
  rw [e1,e2]
  have hg:x.sub.getD 2 PTerm.z=x.sub[2]:=getD_at hj
  by_cases c:renC x n y 2 x.sub[2]
  ·rw [if_pos ⟨c,rfl⟩,otC_pos ⟨k9,by rw [hg]; exact c⟩,hg]
  ·rw [if_neg (fun q=>c q.1),otC_neg (fun q=>c (by have:=q.2; rw [hg] at this; exact this))]
 ·have e:otJ x n y (j + 1)=otJ x n y j:=by
   unfold otJ
   by_cases q:2 < j
   ·rw [if_pos q,if_pos zbB]
   ·rw [if_neg q,if_neg zbB]
  rw [e,if_neg (fun q=>h2 q.2)]
end
section
open Gw
def vL (m:List (ByteArray × Int)) (z:ByteArray):Int:=(Gw.look z m).getD 0
theorem look_insB (x y:ByteArray) (v:Int) : ∀ l:List (ByteArray × Int),Gw.look y (Gw.ins x v l)=if y=x then some v else Gw.look y l
 | []=>by by_cases e:y=x <;> simp [Gw.ins,Gw.look,e]
 | (k,w) :: l=>by
  by_cases e:x=k
  ·subst e
   by_cases e2:y=x <;> simp [Gw.ins,Gw.look,e2]
  ·by_cases e2:y=k
   ·have:y ≠ x:=fun q=>e (q.symm.trans e2)
    subst e2
    simp [Gw.ins,Gw.look,e,this]
   ·simp [Gw.ins,Gw.look,e,e2,look_insB x y v l]
theorem vL_ins (x:ByteArray) (v:Int) (l:List (ByteArray × Int)) (z:ByteArray):vL (Gw.ins x v l) z=if z=x then v else vL l z:=by
 unfold vL; rw [look_insB]; split <;> rfl
theorem cnt_le (z:ByteArray) (x:PTerm):cntT z x ≤ sizeT x:=by
 have:=cnt_sum x [z] zbC
 simpa using this
theorem drop_at {l:List PTerm} {j:Nat} (h:j < l.length):l.drop j=l[j] :: l.drop (j + 1):=List.drop_eq_getElem_cons h
theorem names14 : ∀ (K:Nat) (x:PTerm) (B F:List (ByteArray × Int)),sizeT x + 2 ≤ K→(∀ z,0 ≤ vL B z∧vL B z + sizeT x ≤ 1000000000000)→(∀ z,0 ≤ vL F z∧vL F z + sizeT x ≤ 1000000000000) →
  ∃ B' F',zcF.f K x B F=some (B',F')∧(∀ z,vL B' z=vL B z) ∧ ∀ z,vL F' z=vL F z + (if vL B z=0 then (cntT z x:Int) else 0)
 | 0,x,B,F,h,_,_=>by omega
 | K + 1,x,B,F,h,hB,hF=>by
  have hs:=yI x
  have hl:=zbw x.sub
  show ∃ B' F',zcF.g (zcF.f K) x B F=_∧_
  unfold zcF.g
  by_cases hk:x.kind=1
  ·rw [if_pos (by simpa using hk)]
   have hc : ∀ z,(cntT z x:Int)=if z=x.name then 1 else 0:=fun z=>by
    rw [uq,if_pos hk]
    by_cases e:x.name=z
    ·rw [if_pos e,if_pos e.symm]; rfl
    ·rw [if_neg e,if_neg (fun q=>e q.symm)]; rfl
   by_cases h0:vL B x.name=0
   ·refine ⟨B,Gw.ins x.name (IntKind.i64.wrap (vL F x.name + 1)) F,?_,fun _=>rfl,fun z=>?_⟩
    ·show ((if decide (vL B x.name=0) then some (Gw.ins x.name (IntKind.i64.wrap (vL F x.name + 1)) F) else some F).bind fun o4=>some (B,o4))=_
     rw [if_pos (by simpa using h0)]; rfl
    ·rw [vL_ins,wrap_small ⟨by have:=(hF x.name).1; omega,by have:=(hF x.name).2; omega⟩,hc]
     by_cases e:z=x.name
     ·rw [if_pos e,if_pos e,e,if_pos h0]
     ·rw [if_neg e,if_neg e]; split <;> omega
   ·refine ⟨B,F,?_,fun _=>rfl,fun z=>?_⟩
    ·show ((if decide (vL B x.name=0) then some (Gw.ins x.name (IntKind.i64.wrap (vL F x.name + 1)) F) else some F).bind fun o4=>some (B,o4))=_
     rw [if_neg (by simpa using h0)]; rfl
    ·rw [hc]
     by_cases e:z=x.name
     ·rw [e,if_neg h0]; omega
     ·rw [if_neg e]; split <;> omega
  rw [if_neg (by simpa using hk)]
  have loop : ∀ (m j:Nat) (B F:List (ByteArray × Int)),j + m=x.sub.length→(∀ z,0 ≤ vL B z∧vL B z + (1 + sizeL (x.sub.drop j)) ≤ 1000000000000)→(∀ z,0 ≤ vL F z∧vL F z + sizeL (x.sub.drop j) ≤ 1000000000000) →
    ∃ B' F',forS (fun i s=>zcF.b0 x (zcF.f K) i s.1 s.2) m (j:Int) (B,F)=some (B',F')∧(∀ z,vL B' z=vL B z) ∧ ∀ z,vL F' z=vL F z + (if vL B z=0 then (cntL z x.kind x.name x.other j (x.sub.drop j):Int) else 0):=by
   intro m
   induction m with
   | zero =>
    intro j B F hj _ _
    refine ⟨B,F,rfl,fun _=>rfl,fun z=>?_⟩
    rw [List.drop_of_length_le zbB]
    simp [cntL]
   | succ m ih =>
    intro j B F hj hB hF
    have hjl:j < x.sub.length:=by omega
    have hd:=drop_at hjl
    have hsd:sizeL (x.sub.drop j)=sizeT x.sub[j] + sizeL (x.sub.drop (j + 1)):=by rw [hd]; rfl
    have hm:sizeT x.sub[j] ≤ sizeL x.sub:=vO (List.getElem_mem hjl)
    have hsp:=kN x.sub[j]
    have hw1:IntKind.i64.wrap (vL B (xc x j) + 1)=vL B (xc x j) + 1:=wrap_small ⟨by have:=(hB (xc x j)).1; omega,by have:=(hB (xc x j)).2; omega⟩
    have hB1 : ∀ z,vL (Gw.ins (xc x j) (vL B (xc x j) + 1) B) z=if z=xc x j then vL B (xc x j) + 1 else vL B z:=fun z=>vL_ins _ _ _ z
    obtain ⟨B2,F2,e1,e2,e3⟩ := names14 K x.sub[j] (Gw.ins (xc x j) (vL B (xc x j) + 1) B) F zbB (fun z=>by
     rw [hB1]; have:=hB z; have:=hB (xc x j); split <;> omega) (fun z=>by have:=hF z; omega)
    have hb2:vL B2 (xc x j)=vL B (xc x j) + 1:=by rw [e2,hB1,if_pos rfl]
    have hw2:IntKind.i64.wrap (vL B2 (xc x j) - 1)=vL B (xc x j):=by
     rw [hb2,wrap_small ⟨by have:=(hB (xc x j)).1; omega,by have:=(hB (xc x j)).2; omega⟩]; omega
    have hB3 : ∀ z,vL (Gw.ins (xc x j) (vL B (xc x j)) B2) z=vL B z:=fun z=>by
     rw [vL_ins,e2,hB1]
     by_cases e:z=xc x j
     ·rw [if_pos e,e]
     ·rw [if_neg e,if_neg e]
    have hF2 : ∀ z,vL F2 z=vL F z + (if vL B z=0 then (if xc x j=z then 0 else (cntT z x.sub[j]:Int)) else 0):=fun z=>by
     rw [e3,hB1]
     by_cases e:z=xc x j
     ·have:=(hB (xc x j)).1
      rw [if_pos e,if_neg zbB,if_pos e.symm]; split <;> omega
     ·have e':¬ xc x j=z:=fun q=>e q.symm
      simp only [if_neg e,if_neg e']
    obtain ⟨B4,F4,g1,g2,g3⟩ := ih (j + 1) (Gw.ins (xc x j) (vL B (xc x j)) B2) F2 zbB (fun z=>by rw [hB3]; have:=hB z; omega) (fun z=>by
     have h1:=hF z; have h2:=cnt_le z x.sub[j]; rw [hF2]; split
     ·split <;> omega
     ·omega)
    refine ⟨B4,F4,?_,fun z=>by rw [g2,hB3],fun z=>?_⟩
    ·have hbody:zcF.b0 x (zcF.f K) (j:Int) B F=some (Gw.ins (xc x j) (vL B (xc x j)) B2,F2):=by
      unfold zcF.b0
      rw [bind14,zbF,zaI hjl]
      show ((zcF.f K x.sub[j] (Gw.ins (xc x j) (IntKind.i64.wrap (vL B (xc x j) + 1)) B) F).bind fun r21=>some (Gw.ins (xc x j) (IntKind.i64.wrap (vL r21.1 (xc x j) - 1)) r21.1,r21.2))=_
      rw [hw1,e1,zbF,hw2]
     simp only [forS,hbody,zbF]
     rw [show ((j:Int) + 1)=((j + 1:Nat):Int) by omega]
     exact g1
    ·rw [g3,hB3,hF2,hd]
     have hcl:cntL z x.kind x.name x.other j (x.sub[j] :: x.sub.drop (j + 1))=(if xc x j=z then 0 else cntT z x.sub[j]) + cntL z x.kind x.name x.other (j + 1) (x.sub.drop (j + 1)):=by rw [cntL]
     rw [hcl]
     by_cases e:xc x j=z
     ·simp only [if_pos e]; split <;> omega
     ·simp only [if_neg e]; split <;> omega
  obtain ⟨B',F',e1,e2,e3⟩ := loop x.sub.length 0 B F zbB (fun z=>by have:=hB z; rw [List.drop_zero]; omega) (fun z=>by have:=hF z; rw [List.drop_zero]; omega)
  refine ⟨B',F',?_,e2,fun z=>?_⟩
  ·rw [show ((x.sub.length:Int) - 0).toNat=x.sub.length by omega]
   have e1:forS (fun i s=>zcF.b0 x (zcF.f K) i s.1 s.2) x.sub.length 0 (B,F)=some (B',F'):=e1
   rw [e1]; rfl
  ·rw [e3,uq,if_neg hk,List.drop_zero]
theorem freely14 {K:Nat} {x:PTerm} (hK:sizeT x + 2 ≤ K) (hb:sizeT x ≤ 1000000000) : ∃ F,zcG.f K x=some F ∧ ∀ z,vL F z=cntT z x:=by
 obtain ⟨B',F',e1,_,e3⟩ := names14 K x [] [] hK (fun z=>⟨Int.le_refl _,by show (0:Int) + _ ≤ _; omega⟩) (fun z=>⟨Int.le_refl _,by show (0:Int) + _ ≤ _; omega⟩)
 refine ⟨F',by unfold zcG.f; rw [e1]; rfl,fun z=>?_⟩
 rw [e3]
 show (0:Int) + (if (0:Int)=0 then _ else _)=_
 rw [if_pos rfl]; omega
theorem fresh14 {K:Nat} {p y:PTerm} {n:ByteArray} {G F:List (ByteArray × Int)} (hG : ∀ z,vL G z=cntT z p) (hF : ∀ z,vL F z=cntT z y) (hK:sizeT p + sizeT y + 40 ≤ K) (hb:sizeT p + sizeT y ≤ 1000000000):zcI.f K G F n=some (xO p y n):=by
 obtain ⟨j,hj,hjb⟩ := not_blocked (p:=p) (y:=y) (n:=n) zbB
 obtain ⟨g1,g2,g3⟩ := firstN_some (p:=fun k => !blocked p y n (vNm k)) (m:=sizeT p + sizeT y + 2) (i:=0) (j:=j) zbB zbB (by simpa using hjb)
 unfold zcI.f
 have body : ∀ i:Nat,i ≤ sizeT p + sizeT y + 2→zcI.b0 G F n (i:Int)=some (if blocked p y n (vNm i) then .go ((i + 1:Nat):Int) else .ret (vNm i)):=fun i hi=>by
  unfold zcI.b0 strconv_Itoa.f
  rw [chk,if_pos (by simp; omega),zbF,chk,if_pos (dec_ok 118 zbB)]
  rw [show (⟨#[118]⟩ : ByteArray) ++ decN (i:Int)=vNm i from rfl,wrap_succ zbB]
  have q1:((Gw.look (vNm i) G).getD 0=0)=¬ xF (vNm i) p:=by
   apply propext; show vL G (vNm i)=0↔_; rw [hG]; unfold xF; omega
  have q2:((Gw.look (vNm i) F).getD 0=0)=¬ xF (vNm i) y:=by
   apply propext; show vL F (vNm i)=0↔_; rw [hF]; unfold xF; omega
  unfold blocked
  simp only [q1,q2]
  by_cases e:vNm i=n
  ·simp [e]
  ·by_cases f1:xF (vNm i) p
   ·simp [e,f1]
   ·by_cases f2:xF (vNm i) y <;> simp [e,f1,f2]
 have hr:=iter_ret (b:=fun s=>zcI.b0 G F n s) (inv:=fun i=>(i:Int)) (r:=xO p y n) (firstN (fun k => !blocked p y n (vNm k)) (sizeT p + sizeT y + 2) 0) 0 K zbB (fun i _ hi=>by
  show zcI.b0 G F n (i:Int)=_
  have hbl:blocked p y n (vNm i)=true:=by simpa using g3 i zbB zbB
  rw [body i zbB,if_pos hbl]) (by
  show zcI.b0 G F n ((0 + _:Nat):Int)=_
  have hbl:blocked p y n (xO p y n)=false:=by simpa [xO] using g1
  rw [Nat.zero_add,body _ zbB]
  show some (if blocked p y n (xO p y n)=true then _ else Stp.ret (xO p y n))=_
  rw [if_neg (by rw [hbl]; decide)])
 have hr:iter (fun s=>zcI.b0 G F n s) K 0=_:=hr
 rw [hr]; rfl
end
section
open Gw
def setJ (l:List PTerm) (j:Nat):List PTerm:=l.take j ++ List.replicate (l.length - j) PTerm.z
theorem setJ_len (l:List PTerm) (j:Nat) (h:j ≤ l.length):(setJ l j).length=l.length:=by unfold setJ; simp; omega
theorem setJ_0 (l:List PTerm):setJ l 0=List.replicate l.length PTerm.z:=by simp [setJ]
theorem setJ_end (l:List PTerm):setJ l l.length=l:=by simp [setJ]
theorem setJ_succ {l:List PTerm} {j:Nat} (h:j < l.length):(setJ l j).set j l[j]=setJ l (j + 1):=by
 unfold setJ
 rw [show l.length - j=(l.length - (j + 1)) + 1 by omega,List.replicate_succ,List.set_append_right _ _ (by simp; omega),List.take_succ_eq_append_getElem h]
 have:j - (l.take j).length=0:=by simp; omega
 rw [this,List.set_cons_zero,List.append_assoc]
 rfl
theorem len3 {x:PTerm} (hr:rightT x=true):x.sub.length ≤ 3:=by
 have h1:=(xY hr).len
 by_cases k:x.kind=9
 ·rw [k] at h1; have:ye 9=3:=by decide
  omega
 ·have:=parts_le k; omega
theorem clone14 : ∀ (K:Nat) (x:PTerm),rightT x=true→sizeT x + 2 ≤ K→zcH.f K x=some x
 | 0,x,_,h=>by omega
 | K + 1,x,hr,h=>by
  have hs:=yI x
  have h3:=len3 hr
  show zcH.g (zcH.f K) x=_
  unfold zcH.g
  rw [chk,if_pos (by simp; omega),show ((x.sub.length:Int) - 0).toNat=x.sub.length by omega,show Int.toNat (x.sub.length:Int)=x.sub.length from rfl]
  have hloop:=forS_inv (b:=fun i s=>zcH.b0 (zcH.f K) x i s) (inv:=fun i=>setJ x.sub i) x.sub.length 0 (fun j _ hj=>by
   have hj:j < x.sub.length:=by omega
   have hm:sizeT x.sub[j] ≤ sizeL x.sub:=vO (List.getElem_mem hj)
   show zcH.b0 (zcH.f K) x (j:Int) (setJ x.sub j)=_
   unfold zcH.b0
   rw [zaI hj,clone14 K _ (yp hr hj) zbB,zbF,chk,if_pos (jz zbB (by rw [setJ_len _ _ zbB]; omega))]
   show some ((setJ x.sub j).set j x.sub[j])=_
   rw [setJ_succ hj])
  rw [Nat.zero_add,setJ_end,setJ_0] at hloop
  have hloop:forS (fun i s=>zcH.b0 (zcH.f K) x i s) x.sub.length 0 (List.replicate x.sub.length PTerm.z)=some x.sub:=hloop
  rw [hloop,zbF,PTerm.eta]
def plS (x:PTerm) (n:ByteArray) (y:PTerm):List PTerm:=x.sub.mapIdx fun i p=>putC putT x n y i p
theorem plS_len (x:PTerm) (n:ByteArray) (y:PTerm):(plS x n y).length=x.sub.length:=by unfold plS; simp
theorem plS_at {x:PTerm} (n:ByteArray) (y:PTerm) {j:Nat} (hj:j < x.sub.length):(plS x n y)[j]'(by rw [plS_len]; exact hj)=putC putT x n y j x.sub[j]:=List.getElem_mapIdx ..
def stP (x:PTerm) (n:ByteArray) (y:PTerm) (j:Nat):PTerm:=⟨x.kind,nmJ x n y j,otJ x n y j,x.form,setJ (plS x n y) j⟩
theorem vL_one (w z:ByteArray):vL (Gw.ins w 1 ([]:List (ByteArray × Int))) z=cntT z (varT w):=by
 rw [vL_ins,uq]
 show _=(((if (1:Int)=1 then (if w=z then 1 else 0) else _):Nat):Int)
 rw [if_pos rfl]
 by_cases e:z=w
 ·rw [if_pos e,if_pos e.symm]; rfl
 ·rw [if_neg e,if_neg (fun q=>e q.symm)]; rfl
theorem put14 : ∀ (K:Nat) (x:PTerm) (n:ByteArray) (y:PTerm) (F:List (ByteArray × Int)),rightT x=true→rightT y=true→(∀ z,vL F z=cntT z y)→sizeT x + sizeT y + 60 ≤ K→sizeT x + sizeT y ≤ 1000000000→zcJ.f K x n y F=some (putT x n y)
 | 0,x,n,y,F,_,_,_,h,_=>by omega
 | K + 1,x,n,y,F,hr,hy,hF,h,hb=>by
  have hs:=yI x
  have hsy:=kN y
  have hl:=zbw x.sub
  have h3:=len3 hr
  show zcJ.g (zcJ.f K) K x n y F=_
  unfold zcJ.g
  by_cases hk:x.kind=1
  ·rw [if_pos (by simpa using hk),put_var n y hk]
   by_cases e:x.name=n
   ·rw [if_pos (by simpa using e),if_pos e,clone14 K y hy zbB]; rfl
   ·rw [if_neg (by simpa using e),if_neg e]
  rw [if_neg (by simpa using hk),chk,if_pos (by simp; omega),show ((x.sub.length:Int) - 0).toNat=x.sub.length by omega,show Int.toNat (x.sub.length:Int)=x.sub.length from rfl]
  have hloop:=forS_inv (b:=fun i s=>zcJ.b0 x K n F (zcJ.f K) y i s) (inv:=fun i=>stP x n y i) x.sub.length 0 (fun j _ hj=>by
   have hj:j < x.sub.length:=by omega
   have hm:sizeT x.sub[j] ≤ sizeL x.sub:=vO (List.getElem_mem hj)
   have hrp:=yp hr hj
   obtain ⟨G,hG,hG2⟩ := freely14 (K:=K) (x:=x.sub[j]) zbB zbB
   show zcJ.b0 x K n F (zcJ.f K) y (j:Int) (stP x n y j)=some (stP x n y (j + 1))
   unfold zcJ.b0
   have hck:inb (j:Int) (setJ (plS x n y) j).length=true:=jz zbB (by rw [setJ_len _ _ (by rw [plS_len]; omega),plS_len]; omega)
   rw [zaI hj,bind14,zbF,hG,zbF]
   have e3:=nmJ_succ hr n y hj
   have e4:=otJ_succ hr n y hj
   have hst:stP x n y (j + 1)=⟨x.kind,nmJ x n y (j + 1),otJ x n y (j + 1),x.form,(setJ (plS x n y) j).set (Int.toNat (j:Int)) (putC putT x n y j x.sub[j])⟩ := by
    unfold stP
    rw [← plS_at n y hj,show Int.toNat (j:Int)=j from rfl,setJ_succ (by rw [plS_len]; exact hj)]
   have q1:((Gw.look n G).getD 0=0)=¬ xF n x.sub[j]:=by
    apply propext; show vL G n=0↔_; rw [hG2]; unfold xF; omega
   have q2:(0 < (Gw.look (xc x j) F).getD 0)=xF (xc x j) y:=by
    apply propext; show 0 < vL F (xc x j)↔_; rw [hF]; unfold xF; omega
   simp only [q1,q2]
   by_cases c1:xc x j=n∨¬ xF n x.sub[j]
   ·have hren:¬ renC x n y j x.sub[j]:=fun q=>c1.elim q.1.1 (fun r=>r q.1.2)
    have hp:putC putT x n y j x.sub[j]=x.sub[j]:=by rw [putC,if_pos c1]
    have n1:nmJ x n y (j + 1)=nmJ x n y j:=by rw [e3,if_neg (fun q=>hren q.1)]
    have o1:otJ x n y (j + 1)=otJ x n y j:=by rw [e4,if_neg (fun q=>hren q.1)]
    rw [hst,n1,o1,hp]
    rw [if_pos (by
     rcases c1 with e | e
     ·simp [e]
     ·simp [e]),clone14 K _ hrp zbB,zbF]
    show chk (inb (j:Int) (setJ (plS x n y) j).length) _=_
    rw [chk,if_pos hck]
    rfl
   have c1':xc x j ≠ n∧xF n x.sub[j]:=⟨fun q=>c1 (.inl q),Classical.byContradiction fun q=>c1 (.inr q)⟩
   rw [if_neg (by simp [c1'.1,c1'.2])]
   by_cases c3:xc x j ≠ ⟨#[]⟩ ∧ xF (xc x j) y
   ·have hren:renC x n y j x.sub[j]:=⟨c1',c3⟩
    have hp:putC putT x n y j x.sub[j]=putT (putT x.sub[j] (xc x j) (varT (xO x.sub[j] y n))) n y:=by rw [putC,if_neg c1,if_pos c3]
    have hww:=uj x.sub[j] y n
    have hvr:rightT (varT (xO x.sub[j] y n))=true:=jT hww
    have hv1:sizeT (varT (xO x.sub[j] y n))=1:=rfl
    have hq:rightT (putT x.sub[j] (xc x j) (varT (xO x.sub[j] y n)))=true:=kM _ _ (Nat.le_refl _) hrp _ _ hvr
    have hsr:=size_ren x.sub[j] (xc x j) (xO x.sub[j] y n)
    rw [if_pos (by simp [c3.1,c3.2]),fresh14 hG2 hF zbB zbB,zbF]
    have hrec:zcJ.f K x.sub[j] (xc x j) (⟨1,xO x.sub[j] y n,ByteArray.empty,0,[]⟩ : PTerm) (Gw.ins (xO x.sub[j] y n) 1 ([]:List (ByteArray × Int)))=some (putT x.sub[j] (xc x j) (varT (xO x.sub[j] y n))):=put14 K x.sub[j] (xc x j) (varT (xO x.sub[j] y n)) _ hrp hvr (fun z=>vL_one _ z) zbB zbB
    rw [hrec,zbF]
    have hrec2:=put14 K _ n y F hq hy hF zbB zbB
    by_cases h2:j=2
    ·have n1:nmJ x n y (j + 1)=nmJ x n y j:=by rw [e3,if_neg (fun q=>q.2 h2)]
     have o1:otJ x n y (j + 1)=xO x.sub[j] y n:=by rw [e4,if_pos ⟨hren,h2⟩]
     rw [if_pos (by simp [h2]),zbF]
     dsimp only
     rw [hrec2,zbF]
     show chk (inb (j:Int) (setJ (plS x n y) j).length) _=_
     rw [chk,if_pos hck,hst,n1,o1,hp]
     rfl
    ·have n1:nmJ x n y (j + 1)=xO x.sub[j] y n:=by rw [e3,if_pos ⟨hren,h2⟩]
     have o1:otJ x n y (j + 1)=otJ x n y j:=by rw [e4,if_neg (fun q=>h2 q.2)]
     rw [if_neg (by simp; omega),zbF]
     dsimp only
     rw [hrec2,zbF]
     show chk (inb (j:Int) (setJ (plS x n y) j).length) _=_
     rw [chk,if_pos hck,hst,n1,o1,hp]
     rfl
   ·have hren:¬ renC x n y j x.sub[j]:=fun q=>c3 q.2
    have hp:putC putT x n y j x.sub[j]=putT x.sub[j] n y:=by rw [putC,if_neg c1,if_neg c3]
    have n1:nmJ x n y (j + 1)=nmJ x n y j:=by rw [e3,if_neg (fun q=>hren q.1)]
    have o1:otJ x n y (j + 1)=otJ x n y j:=by rw [e4,if_neg (fun q=>hren q.1)]
    rw [if_neg (by simpa using c3),zbF]
    dsimp only
    rw [put14 K _ n y F hrp hy hF zbB zbB,zbF]
    show chk (inb (j:Int) (setJ (plS x n y) j).length) _=_
    rw [chk,if_pos hck,hst,n1,o1,hp]
    rfl)
  have h0:stP x n y 0=⟨x.kind,x.name,x.other,x.form,List.replicate x.sub.length PTerm.z⟩ := by
   unfold stP nmJ otJ; rw [if_neg zbB,if_neg zbB,setJ_0,plS_len]
  have h1:stP x n y (0 + x.sub.length)=putT x n y:=by
   unfold stP
   rw [Nat.zero_add,nmJ_end hr,otJ_end hr,vz n y hk]
   have:=setJ_end (plS x n y)
   rw [plS_len] at this
   rw [this]; rfl
  rw [h0,h1] at hloop
  have hloop:forS (fun i s=>zcJ.b0 x K n F (zcJ.f K) y i s) x.sub.length 0 (⟨x.kind,x.name,x.other,x.form,List.replicate x.sub.length PTerm.z⟩ : PTerm)=some (putT x n y):=hloop
  rw [hloop,zbF,PTerm.eta]
end
section
open Gw
mutual
def gD (b:Bool) (n:ByteArray) (a:Nat):PTerm→Nat
 | .mk k nm ot _ s=>if k=1 then (if nm=n then a else 1) else 1 + gDL b n a k nm ot 0 s
def gDL (b:Bool) (n:ByteArray) (a:Nat) (k:Int) (nm ot:ByteArray):Nat→List PTerm→Nat
 | _,[]=>0
 | i,y :: l=>max (if xu k nm ot i=n then (if b then depT y else 0) else gD b n a y) (gDL b n a k nm ot (i + 1) l)
end
theorem gD_eq (b:Bool) (n:ByteArray) (a:Nat) (x:PTerm):gD b n a x=if x.kind=1 then (if x.name=n then a else 1) else 1 + gDL b n a x.kind x.name x.other 0 x.sub:=by cases x; simp only [gD]; rfl
theorem gDL_take (b:Bool) (n:ByteArray) (a:Nat) (k:Int) (nm ot:ByteArray) : ∀ {l:List PTerm} {i j:Nat} {x:PTerm},l[j]? = some x→gDL b n a k nm ot i (l.take (j + 1))=max (gDL b n a k nm ot i (l.take j)) (if xu k nm ot (i + j)=n then (if b then depT x else 0) else gD b n a x)
 | [],_,_,_,h=>by simp at h
 | y :: l,i,0,x,h=>by simp at h; subst h; simp [gDL]
 | y :: l,i,j + 1,x,h=>by
  have:=gDL_take b n a k nm ot (l:=l) (i:=i + 1) (j:=j) (by simpa using h)
  simp only [List.take_succ_cons,gDL]
  rw [this,show i + 1 + j=i + (j + 1) by omega]; omega
mutual
theorem gD_le (n:ByteArray) (a:Nat) : ∀ x,gD false n a x ≤ gD true n a x∧gD true n a x ≤ max (gD false n a x) (depT x)
 | .mk k nm ot f s=>by
  simp only [gD,depT]
  by_cases hk:k=1
  ·simp only [if_pos hk]; omega
  ·simp only [if_neg hk]
   have:=gDL_le n a k nm ot 0 s
   omega
theorem gDL_le (n:ByteArray) (a:Nat) (k:Int) (nm ot:ByteArray) : ∀ (i:Nat) (l:List PTerm),gDL false n a k nm ot i l ≤ gDL true n a k nm ot i l∧gDL true n a k nm ot i l ≤ max (gDL false n a k nm ot i l) (depL l)
 | _,[]=>by simp [gDL]
 | i,y :: l=>by
  have h1:=gD_le n a y
  have h2:=gDL_le n a k nm ot (i + 1) l
  simp only [gDL,depL]
  by_cases e:xu k nm ot i=n
  ·simp only [if_pos e]
   simp only [if_true,Bool.false_eq_true,if_false]; omega
  ·simp only [if_neg e]; omega
end
theorem gD_low {b:Bool} {n:ByteArray} {a:Nat} {x:PTerm} (hb:gD b n a x ≤ gD true n a x) (ha:a ≤ 1024) : ∀ (d:Nat) (y:PTerm),depT y ≤ d→gD true n a y ≤ d + 1024
 | 0,y,h=>by have:=yW y; omega
 | d + 1,y,h=>by
  have hd:=yQ y
  rw [gD_eq]
  by_cases hk:y.kind=1
  ·rw [if_pos hk]; split <;> omega
  rw [if_neg hk]
  have key : ∀ (l:List PTerm) (i:Nat),(∀ z ∈ l,depT z ≤ d)→gDL true n a y.kind y.name y.other i l ≤ d + 1024:=by
   intro l
   induction l with
   | nil=>intro i _; simp [gDL]
   | cons z l ih =>
    intro i hz
    have h1:=ih (i + 1) (fun w hw=>hz w (by simp [hw]))
    have h2:=gD_low hb ha d z (hz z zbC)
    have h3:=hz z zbC
    simp only [gDL]
    split
    ·simp only [if_true]; omega
    ·omega
  have:=key y.sub 0 (fun z hz=>by have:=yV _ hz; omega)
  omega
theorem cntL_le (n:ByteArray) (k:Int) (nm ot:ByteArray) : ∀ (l:List PTerm) (i:Nat),cntL n k nm ot i l ≤ sizeL l
 | [],i=>by simp [cntL,sizeL]
 | y :: l,i=>by
  have h1:=cntL_le n k nm ot l (i + 1)
  have h2:=cnt_le n y
  simp only [cntL,sizeL]; split <;> omega
theorem max_int (a b:Nat):(if (a:Int) < (b:Int) then (b:Int) else (a:Int))=((max a b:Nat):Int):=by
 split <;> omega
theorem grown14 : ∀ (K:Nat) (x:PTerm) (n:ByteArray) (a e:Nat),rightT x=true→sizeT x + 1100 ≤ K→sizeT x ≤ 65536→depT x ≤ 1024→1 ≤ a→a ≤ 65536→e ≤ 1024 →
  zcE.f K x n (a:Int) (e:Int)=some (((sizeT x + cntT n x * (a - 1):Nat):Int),((gD true n e x:Nat):Int))
 | 0,x,n,a,e,_,h,_,_,_,_,_=>by omega
 | K + 1,x,n,a,e,hr,h,hb,hdp,ha,ha2,he=>by
  have hs:=yI x
  have hd:=yQ x
  have hl:=zbw x.sub
  show zcE.g (zcE.f K) K x n a e=_
  unfold zcE.g
  by_cases hk:x.kind=1
  ·rw [if_pos (by simpa using hk),gD_eq,if_pos hk,uq,if_pos hk]
   have h0:x.sub=[]:=(yL hr).1 hk
   have hs1:sizeT x=1:=by rw [hs,h0]; rfl
   by_cases q:x.name=n
   ·rw [if_pos (by simpa using q),if_pos q,if_pos q,hs1]
    congr 2; omega
   ·rw [if_neg (by simpa using q),if_neg q,if_neg q,hs1]
    simp
  rw [if_neg (by simpa using hk),show ((x.sub.length:Int) - 0).toNat=x.sub.length by omega]
  have hmul : ∀ c:Nat,c ≤ 65536→c * (a - 1) ≤ 4294967296:=fun c hc=>Nat.le_trans (Nat.mul_le_mul hc (show a - 1 ≤ 65536 by omega)) zbA
  have hloop:=forS_inv (b:=fun i (s:Int × Int)=>zcE.b0 x K n (zcE.f K) a e i s.1 s.2) (inv:=fun i=>(((1 + sizeL (x.sub.take i) + cntL n x.kind x.name x.other 0 (x.sub.take i) * (a - 1):Nat):Int),((gDL true n e x.kind x.name x.other 0 (x.sub.take i):Nat):Int))) x.sub.length 0 (fun j _ hj=>by
   have hj:j < x.sub.length:=by omega
   have hjo:x.sub[j]? = some x.sub[j]:=List.getElem?_eq_getElem hj
   have hm:sizeT x.sub[j] ≤ sizeL x.sub:=vO (List.getElem_mem hj)
   have hmd:depT x.sub[j] ≤ depL x.sub:=yV _ (List.getElem_mem hj)
   have hst:=sizeL_take hjo
   have hct:=cntL_take n x.kind x.name x.other (i:=0) hjo
   have hdt:=gDL_take true n e x.kind x.name x.other (i:=0) hjo
   rw [Nat.zero_add] at hct hdt
   have hsl:=sizeL_le (l:=x.sub) (j + 1)
   have hcl:=cntL_le n x.kind x.name x.other (x.sub.take j) 0
   have hm1:=hmul (cntL n x.kind x.name x.other 0 (x.sub.take j)) zbB
   have hc2:=cnt_le n x.sub[j]
   have hm2:=hmul (cntT n x.sub[j]) zbB
   show zcE.b0 x K n (zcE.f K) a e (j:Int) _ _=_
   unfold zcE.b0 zbQ.f zbX.f
   rw [zaI hj,zbF,show (1025:Int)=((1025:Nat):Int) from rfl,deep_some K x.sub[j] 1025 zbB zbB zbB zbB]
   simp only [zbF]
   rw [bind14,zbF]
   by_cases q:xc x j=n
   ·have q':xu x.kind x.name x.other j=n:=q
    rw [if_neg (by simpa using q)]
    rw [hst,hct,hdt,if_pos q',if_pos q']
    have e1:(if true=true then depT x.sub[j] else 0)=depT x.sub[j]:=rfl
    rw [e1,show min (sizeT x.sub[j]) 65537=sizeT x.sub[j] by omega,show min (depT x.sub[j]) 1025=depT x.sub[j] by omega,max_int,Nat.add_zero]
    rw [wrap_small ⟨by omega,by omega⟩]
    congr 2; omega
   ·have q':¬ xu x.kind x.name x.other j=n:=q
    rw [if_pos (by simpa using q),grown14 K x.sub[j] n a e (yp hr hj) zbB zbB zbB ha ha2 he,zbF]
    rw [hst,hct,hdt,if_neg q',if_neg q',max_int]
    rw [wrap_small ⟨by omega,by omega⟩]
    rw [Nat.add_mul]
    congr 2; omega)
  have h0:(((1 + sizeL (x.sub.take 0) + cntL n x.kind x.name x.other 0 (x.sub.take 0) * (a - 1):Nat):Int),((gDL true n e x.kind x.name x.other 0 (x.sub.take 0):Nat):Int))=((1:Int),(0:Int)):=by
   rw [List.take_zero]; simp [sizeL,cntL,gDL]
  rw [h0,Nat.zero_add,List.take_length] at hloop
  have hloop:forS (fun i (s:Int × Int)=>zcE.b0 x K n (zcE.f K) a e i s.1 s.2) x.sub.length 0 (1,0)=_:=hloop
  rw [hloop,zbF,gD_eq,if_neg hk,uq,if_neg hk,hs]
  have hlow:=gD_low (b:=true) (n:=n) (a:=e) (x:=x) (Nat.le_refl _) he _ x (Nat.le_refl _)
  rw [gD_eq,if_neg hk] at hlow
  rw [wrap_small ⟨by omega,by omega⟩]
  congr 2; omega
end
section
open Gw
def err:TR→Option (Int × List Int)
 | .ok _=>none
 | .no c w=>some (c,w.reverse)
abbrev Tc:Type:=PChecker→PTerm→List (ByteArray × Int)→Option (Int × Option (Int × List Int))
abbrev Cc:Type:=PChecker→PTerm→List (ByteArray × Int)→Int→Option (Option (Int × List Int))
def Sok (M:List Nd) (s:Sc):Prop := ∀ q ∈ s,inb q.2 M.length=true
theorem Sok.cons {M:List Nd} {s:Sc} {n:ByteArray} {f:Int} (h:Sok M s) (hf:inb f M.length=true):Sok M ((n,f) :: s):=fun q hq=>by
 rcases List.mem_cons.1 hq with rfl | hq
 ·exact hf
 ·exact h q hq
abbrev PS (M:List Nd) (k:Nat) (x:PTerm):Int→Sc→Option Int→TR:=fun i s' w=>(tyS M k (at_ PTerm.z x.sub i) s' w).at_ i
def Tells (M:List Nd) (r:Option (Int × Option (Int × List Int))) (t:TR):Prop := ∃ i,r=some (i,err t) ∧ ∀ f,t = .ok f→i=f∧inb f M.length=true
theorem at_err {r:TR} {i:Int} (h:r.way.length ≤ 2000):zdv.f i (err r)=some (err (r.at_ i)):=by
 cases r with
 | ok f=>rfl
 | no c w =>
  simp only [TR.way] at h
  simp only [err,zdv.f,TR.at_,List.reverse_cons,List.length_reverse]
  rw [chk_t (decide_eq_true zbB)]
theorem TR.ok_at {r:TR} {i f:Int} (h:r.at_ i = .ok f):r = .ok f:=TR.at_ok.1 h
theorem node_tab {M:List Nd} {i k:Int} (hi:inb i M.length=true):zdx.f ⟨some M⟩ i k=some (nd M i,if (nd M i).kind=k then none else some (130,[])):=by
 simp only [zdx.f,zbG.f,Option.map_some,zbF]
 by_cases h:(nd M i).kind=k
 ·simp [nd,h] at h ⊢ <;> simp [h]
 ·simp [nd] at h ⊢ <;> simp [h]
section
variable {M:List Nd} {x:PTerm} {k:Nat} {T:Tc} {C:Cc}
theorem kJ (hk:k ≤ 1999) {i:Int} (hi:inb i x.sub.length=true) {s:Sc} (h:Tells M (T ⟨some M⟩ (at_ PTerm.z x.sub i) s) (tyS M k (at_ PTerm.z x.sub i) s none)):Tells M (zdy.g T ⟨some M⟩ x i s) (PS M k x i s none):=by
 obtain ⟨j,h1,h2⟩ := h
 refine ⟨j,?_,fun f hf=>h2 f (TR.ok_at hf)⟩
 unfold zdy.g
 rw [chk_t hi,h1]
 simp only [zbF]
 rw [at_err (Nat.le_trans (tyS_way k _ _ _) zbB)]
 rfl
theorem vF (hk:k ≤ 1999) {i id:Int} (hi:inb i x.sub.length=true) {s:Sc} (h:C ⟨some M⟩ (at_ PTerm.z x.sub i) s id=some (err (tyS M k (at_ PTerm.z x.sub i) s (some id)))):zdz.g C ⟨some M⟩ x i s id=some (err (PS M k x i s (some id))):=by
 unfold zdz.g
 rw [chk_t hi,h]
 simp only [zbF]
 rw [at_err (Nat.le_trans (tyS_way k _ _ _) zbB)]
 rfl
def hdS (M:List Nd) (P:Int→Sc→Option Int→TR) (s:Sc) (kd:Int):TR:=(P 0 s none).bind fun f=>if (nd M f).kind=kd then .ok f else .no 130 []
theorem hdS_eq (P:Int→Sc→Option Int→TR) (s:Sc) (kd:Int) (g:Nd→TR):((P 0 s none).bind fun f=>ofK M f kd g)=(hdS M P s kd).bind fun f=>g (nd M f):=by
 unfold hdS
 cases P 0 s none with
 | ok f =>
  simp only [TR.bind,ofK]
  split <;> rfl
 | no c w=>rfl
theorem kG (hk:k ≤ 1999) (hi:inb 0 x.sub.length=true) {s:Sc} {kd:Int} (h:Tells M (T ⟨some M⟩ (at_ PTerm.z x.sub 0) s) (tyS M k (at_ PTerm.z x.sub 0) s none)) :
  ∃ n,zdA.g T ⟨some M⟩ x s kd=some (n,err (hdS M (PS M k x) s kd)) ∧ ∀ f,hdS M (PS M k x) s kd = .ok f→n=nd M f∧inb f M.length=true∧(nd M f).kind=kd:=by
 obtain ⟨j,h1,h2⟩ := kJ hk hi h
 unfold zdA.g hdS
 rw [h1]
 simp only [zbF]
 cases hp:PS M k x 0 s none with
 | no c w=>exact ⟨Nd.z,rfl,fun f hf=>by cases hf⟩
 | ok f =>
  obtain ⟨rfl,hb⟩ := h2 f hp
  simp only [err,Option.isSome_none,Bool.false_eq_true,if_false,node_tab hb,zbF,TR.bind]
  by_cases hkd:(nd M j).kind=kd
  ·simp only [hkd,if_true]
   exact ⟨_,rfl,fun f hf=>by cases hf; exact ⟨rfl,hb,hkd⟩⟩
  ·simp only [hkd,if_false]
   exact ⟨_,rfl,fun f hf=>by cases hf⟩
structure Parts (M:List Nd) (k:Nat) (x:PTerm) (T:Tc) (C:Cc):Prop where
 told : ∀ i,inb i x.sub.length=true → ∀ s,Sok M s→Tells M (T ⟨some M⟩ (at_ PTerm.z x.sub i) s) (tyS M k (at_ PTerm.z x.sub i) s none)
 chkd : ∀ i,inb i x.sub.length=true → ∀ s,Sok M s → ∀ id,inb id M.length=true→C ⟨some M⟩ (at_ PTerm.z x.sub i) s id=some (err (tyS M k (at_ PTerm.z x.sub i) s (some id)))
theorem yR {i:Int} {n:Nat} (h:(0 ≤ i∧i < n) ):inb i n=true:=by simp [inb,h.1,h.2]
theorem rt_len (hr:rightT x=true):ye x.kind=(x.sub.length:Int):=by
 rw [zaB] at hr
 simp only [nodeR,Bool.and_eq_true,decide_eq_true_eq] at hr
 exact hr.1.1.1.1
theorem find_tab {s:Sc} (hs:Sok M s) (n:ByteArray) {q:ByteArray × Int} (h:s.find? (fun q=>decide (q.1=n))=some q):inb q.2 M.length=true:=hs q (List.mem_of_find?_eq_some h)
theorem told_tells (hM:Wf M) (hk:k ≤ 1999) (hr:rightT x=true) (hP:Parts M k x T C) {s:Sc} (hs:Sok M s):Tells M (zdB.g T C ⟨some M⟩ x s) (yg M (PS M k x) s x):=by
 have hl:=rt_len hr
 have hno : ∀ c,Tells M (some (0,some (c,[]))) (.no c []):=fun c=>⟨0,rfl,fun f hf=>by cases hf⟩
 by_cases k1:x.kind=1
 ·simp only [zdB.g,yg,k1,decide_true,if_true,zbS.f,zbF]
  cases hf:s.find? (fun q=>decide (q.1=x.name)) with
  | none=>exact hno 131
  | some q=>exact ⟨q.2,rfl,fun f hf'=>by cases hf'; exact ⟨rfl,find_tab hs _ hf⟩⟩
 by_cases k3:x.kind=3
 ·simp only [k3,ye] at hl
  have h0:=yR (i:=0) (n:=x.sub.length) zbB
  have h1:=yR (i:=1) (n:=x.sub.length) zbB
  have e:yg M (PS M k x) s x=(hdS M (PS M k x) s 5).bind fun f=>(PS M k x 1 s (some (nd M f).l)).bind fun _ => .ok (nd M f).r:=by
   rw [← hdS_eq (g:=fun n=>(PS M k x 1 s (some n.l)).bind fun _ => .ok n.r)]
   simp [yg,k3]
  obtain ⟨n,e1,e2⟩ := kG (kd:=5) hk h0 (hP.told 0 h0 s hs)
  rw [e]
  simp only [zdB.g,k3,Int.reduceEq,decide_false,decide_true,Bool.false_eq_true,if_false,if_true,e1,zbF]
  cases hh:hdS M (PS M k x) s 5 with
  | no c w=>exact ⟨0,rfl,fun f hf=>by cases hf⟩
  | ok f =>
   obtain ⟨rfl,hb,hkd⟩ := e2 f hh
   have hl:=hM.left hb (.inr (.inr hkd))
   have hrr:=hM.right hb (.inr (.inr hkd))
   simp only [err,Option.isSome_none,Bool.false_eq_true,if_false,vF hk h1 (hP.chkd 1 h1 s hs _ hl),zbF,TR.bind]
   cases PS M k x 1 s (some (nd M f).l) with
   | ok g=>exact ⟨_,rfl,fun f' hf=>by cases hf; exact ⟨rfl,hrr⟩⟩
   | no c w=>exact ⟨_,rfl,fun f' hf=>by cases hf⟩
 by_cases k5:x.kind=5
 ·simp only [k5,ye] at hl
  have h0:=yR (i:=0) (n:=x.sub.length) zbB
  have e:yg M (PS M k x) s x=(hdS M (PS M k x) s 3).bind fun f => .ok (nd M f).l:=by
   rw [← hdS_eq (g:=fun n => .ok n.l)]
   simp [yg,k5]
  obtain ⟨n,e1,e2⟩ := kG (kd:=3) hk h0 (hP.told 0 h0 s hs)
  rw [e]
  simp only [zdB.g,k5,Int.reduceEq,decide_false,decide_true,Bool.false_eq_true,if_false,if_true,e1,zbF]
  cases hh:hdS M (PS M k x) s 3 with
  | no c w=>exact ⟨_,rfl,fun f hf=>by cases hf⟩
  | ok f =>
   obtain ⟨rfl,hb,hkd⟩ := e2 f hh
   exact ⟨_,rfl,fun f' hf=>by cases hf; exact ⟨rfl,hM.left hb (.inl hkd)⟩⟩
 by_cases k6:x.kind=6
 ·simp only [k6,ye] at hl
  have h0:=yR (i:=0) (n:=x.sub.length) zbB
  have e:yg M (PS M k x) s x=(hdS M (PS M k x) s 3).bind fun f => .ok (nd M f).r:=by
   rw [← hdS_eq (g:=fun n => .ok n.r)]
   simp [yg,k6]
  obtain ⟨n,e1,e2⟩ := kG (kd:=3) hk h0 (hP.told 0 h0 s hs)
  rw [e]
  simp only [zdB.g,k6,Int.reduceEq,decide_false,decide_true,Bool.false_eq_true,if_false,if_true,e1,zbF]
  cases hh:hdS M (PS M k x) s 3 with
  | no c w=>exact ⟨_,rfl,fun f hf=>by cases hf⟩
  | ok f =>
   obtain ⟨rfl,hb,hkd⟩ := e2 f hh
   exact ⟨_,rfl,fun f' hf=>by cases hf; exact ⟨rfl,hM.right hb (.inl hkd)⟩⟩
 by_cases k11:x.kind=11
 ·simp only [k11,ye] at hl
  have h0:=yR (i:=0) (n:=x.sub.length) zbB
  simp only [zdB.g,yg,k11,Int.reduceEq,decide_false,decide_true,Bool.false_eq_true,if_false,if_true,zbG.f,Option.map_some,zbF]
  by_cases hf:inb x.form M.length=true
  ·have hf':(zaj M x.form).2=true:=by
    have:=zM hf
    simp [zaj,vX,this.1,this.2]
   simp only [hf,hf',if_true,Bool.not_true,Bool.false_eq_true,if_false,vF hk h0 (hP.chkd 0 h0 s hs _ hf),zbF]
   cases PS M k x 0 s (some x.form) with
   | ok g=>exact ⟨_,rfl,fun f' hf2=>by cases hf2; exact ⟨rfl,hf⟩⟩
   | no c w=>exact ⟨_,rfl,fun f' hf2=>by cases hf2⟩
  ·have hf':(zaj M x.form).2=false:=by
    have h2:¬ vX M x.form=true:=fun e=>hf (by
     simp only [vX,Bool.and_eq_true,decide_eq_true_eq] at e
     exact yR e)
    simp [zaj,h2]
   simp only [hf,hf',Bool.not_false,if_true,Bool.false_eq_true,if_false]
   exact hno 31
 by_cases k12:x.kind=12
 ·simp only [k12,ye] at hl
  have h0:=yR (i:=0) (n:=x.sub.length) zbB
  have h1:=yR (i:=1) (n:=x.sub.length) zbB
  obtain ⟨j,e1,e2⟩ := kJ hk h0 (hP.told 0 h0 s hs)
  simp only [zdB.g,yg,k12,Int.reduceEq,decide_false,decide_true,Bool.false_eq_true,if_false,if_true,e1,zbF]
  cases hh:PS M k x 0 s none with
  | no c w=>exact ⟨0,rfl,fun f hf=>by cases hf⟩
  | ok f =>
   obtain ⟨rfl,hb⟩ := e2 f hh
   simp only [err,Option.isSome_none,Bool.false_eq_true,if_false,TR.bind]
   obtain ⟨j2,e3,e4⟩ := kJ hk h1 (hP.told 1 h1 ((x.name,j) :: s) (hs.cons hb))
   rw [e3]
   exact ⟨j2,rfl,e4⟩
 by_cases k9:x.kind=9
 ·simp only [k9,ye] at hl
  have h0:=yR (i:=0) (n:=x.sub.length) zbB
  have h1:=yR (i:=1) (n:=x.sub.length) zbB
  have h2:=yR (i:=2) (n:=x.sub.length) zbB
  have e:yg M (PS M k x) s x=(hdS M (PS M k x) s 4).bind fun f=>(PS M k x 1 ((x.name,(nd M f).l) :: s) none).bind fun a=>(PS M k x 2 ((x.other,(nd M f).r) :: s) none).bind fun b=>if a=b then .ok a else .no 130 []:=by
   rw [← hdS_eq (g:=fun n=>(PS M k x 1 ((x.name,n.l) :: s) none).bind fun a=>(PS M k x 2 ((x.other,n.r) :: s) none).bind fun b=>if a=b then .ok a else .no 130 [])]
   simp [yg,k9]
  obtain ⟨n,e1,e2⟩ := kG (kd:=4) hk h0 (hP.told 0 h0 s hs)
  rw [e]
  simp only [zdB.g,k9,Int.reduceEq,decide_false,decide_true,Bool.false_eq_true,if_false,if_true,e1,zbF]
  cases hh:hdS M (PS M k x) s 4 with
  | no c w=>exact ⟨0,rfl,fun f hf=>by cases hf⟩
  | ok f =>
   obtain ⟨rfl,hb,hkd⟩ := e2 f hh
   have hl:=hM.left hb (.inr (.inl hkd))
   have hrr:=hM.right hb (.inr (.inl hkd))
   obtain ⟨j2,e3,e4⟩ := kJ hk h1 (hP.told 1 h1 ((x.name,(nd M f).l) :: s) (hs.cons hl))
   simp only [err,Option.isSome_none,Bool.false_eq_true,if_false,TR.bind,e3,zbF]
   cases hh2:PS M k x 1 ((x.name,(nd M f).l) :: s) none with
   | no c w=>exact ⟨0,rfl,fun f hf=>by cases hf⟩
   | ok a =>
    obtain ⟨rfl,hb2⟩ := e4 a hh2
    obtain ⟨j3,e5,e6⟩ := kJ hk h2 (hP.told 2 h2 ((x.other,(nd M f).r) :: s) (hs.cons hrr))
    simp only [err,Option.isSome_none,Bool.false_eq_true,if_false,TR.bind,e5,zbF]
    cases hh3:PS M k x 2 ((x.other,(nd M f).r) :: s) none with
    | no c w=>exact ⟨_,rfl,fun f hf=>by cases hf⟩
    | ok b =>
     obtain ⟨rfl,hb3⟩ := e6 b hh3
     by_cases hab:j2=j3
     ·subst hab
      simp only [err,TR.bind,if_true]
      exact ⟨j2,by simp [err],fun f' hf=>by cases hf; exact ⟨rfl,hb2⟩⟩
     ·have hba:¬ j3=j2:=fun e=>hab e.symm
      simp only [err,TR.bind,hab,if_false]
      exact ⟨j2,by simp [err,hba],fun f' hf=>by cases hf⟩
 simp only [zdB.g,yg,k1,k3,k5,k6,k9,k11,k12,decide_false,Bool.false_eq_true,if_false]
 exact hno 132
theorem err_bind_none {t:TR} {y:Option (Option (Int × List Int))} {z:TR} (h : ∀ f,t = .ok f→y=some (err z)):(if (err t).isSome=true then some (err t) else y)=some (err (t.bind fun _=>z)):=by
 cases t with
 | ok f=>simpa [err,TR.bind] using h f rfl
 | no c w=>simp [err,TR.bind]
theorem chkd_tells (hM:Wf M) (hk:k ≤ 1999) (hr:rightT x=true) (hP:Parts M k x T C) {s:Sc} (hs:Sok M s) {id:Int} (hid:inb id M.length=true) (hT:Tells M (T ⟨some M⟩ x s) (yg M (PS M k x) s x)):zdC.g T C ⟨some M⟩ x s id=some (err (yD M (PS M k x) s x id)):=by
 have hl:=rt_len hr
 have hnode : ∀ (kd:Int) (g:Nd→TR) (y:Nd→Option (Option (Int × List Int))),((nd M id).kind=kd→y (nd M id)=some (err (g (nd M id))))→((zdx.f ⟨some M⟩ id kd).bind fun r=>if r.2.isSome=true then some r.2 else y r.1)=some (err (ofK M id kd g)):=by
  intro kd g y hy
  rw [node_tab hid]
  simp only [zbF,ofK]
  by_cases h:(nd M id).kind=kd
  ·simp only [h,if_true,Option.isSome_none,Bool.false_eq_true,if_false]; exact hy h
  ·simp only [h,if_false,Option.isSome_some,if_true]; rfl
 have hsome : ∀ {y:Option (Option (Int × List Int))},(y.bind fun r=>some r)=y:=fun {y}=>by cases y <;> rfl
 by_cases k2:x.kind=2
 ·simp only [k2,ye] at hl
  have h0:=yR (i:=0) (n:=x.sub.length) zbB
  simp only [zdC.g,yD,k2,decide_true,if_true,hsome]
  exact hnode 5 (fun n=>PS M k x 0 ((x.name,n.l) :: s) (some n.r)) (fun n=>zdz.g C ⟨some M⟩ x 0 ((x.name,n.l) :: s) n.r) fun hkd=>vF hk h0 (hP.chkd 0 h0 _ (hs.cons (hM.left hid (.inr (.inr hkd)))) _ (hM.right hid (.inr (.inr hkd))))
 by_cases k4:x.kind=4
 ·simp only [k4,ye] at hl
  have h0:=yR (i:=0) (n:=x.sub.length) zbB
  have h1:=yR (i:=1) (n:=x.sub.length) zbB
  simp only [zdC.g,yD,k4,Int.reduceEq,decide_false,decide_true,Bool.false_eq_true,if_false,if_true,hsome]
  refine hnode 3 (fun n=>(PS M k x 0 s (some n.l)).bind fun _=>PS M k x 1 s (some n.r)) (fun n=>(zdz.g C ⟨some M⟩ x 0 s n.l).bind fun r30=>if r30.isSome=true then some r30 else zdz.g C ⟨some M⟩ x 1 s n.r) fun hkd=>?_
  rw [vF hk h0 (hP.chkd 0 h0 s hs _ (hM.left hid (.inl hkd)))]
  simp only [zbF]
  exact err_bind_none fun f _=>vF hk h1 (hP.chkd 1 h1 s hs _ (hM.right hid (.inl hkd)))
 by_cases k7:x.kind=7
 ·simp only [k7,ye] at hl
  have h0:=yR (i:=0) (n:=x.sub.length) zbB
  simp only [zdC.g,yD,k7,Int.reduceEq,decide_false,decide_true,Bool.false_eq_true,if_false,if_true,hsome,zbF]
  exact hnode 4 (fun n=>PS M k x 0 s (some n.l)) (fun n=>zdz.g C ⟨some M⟩ x 0 s n.l) fun hkd=>vF hk h0 (hP.chkd 0 h0 s hs _ (hM.left hid (.inr (.inl hkd))))
 by_cases k8:x.kind=8
 ·simp only [k8,ye] at hl
  have h0:=yR (i:=0) (n:=x.sub.length) zbB
  simp only [zdC.g,yD,k8,Int.reduceEq,decide_false,decide_true,Bool.false_eq_true,if_false,if_true,hsome,zbF]
  exact hnode 4 (fun n=>PS M k x 0 s (some n.r)) (fun n=>zdz.g C ⟨some M⟩ x 0 s n.r) fun hkd=>vF hk h0 (hP.chkd 0 h0 s hs _ (hM.right hid (.inr (.inl hkd))))
 by_cases k9:x.kind=9
 ·simp only [k9,ye] at hl
  have h0:=yR (i:=0) (n:=x.sub.length) zbB
  have h1:=yR (i:=1) (n:=x.sub.length) zbB
  have h2:=yR (i:=2) (n:=x.sub.length) zbB
  have e:yD M (PS M k x) s x id=(hdS M (PS M k x) s 4).bind fun f=>(PS M k x 1 ((x.name,(nd M f).l) :: s) (some id)).bind fun _=>PS M k x 2 ((x.other,(nd M f).r) :: s) (some id):=by
   rw [← hdS_eq (g:=fun n=>(PS M k x 1 ((x.name,n.l) :: s) (some id)).bind fun _=>PS M k x 2 ((x.other,n.r) :: s) (some id))]
   simp [yD,k9]
  obtain ⟨n,e1,e2⟩ := kG (kd:=4) hk h0 (hP.told 0 h0 s hs)
  rw [e]
  simp only [zdC.g,k9,Int.reduceEq,decide_false,decide_true,Bool.false_eq_true,if_false,if_true,hsome,zbF,e1]
  cases hh:hdS M (PS M k x) s 4 with
  | no c w=>rfl
  | ok f =>
   obtain ⟨rfl,hb,hkd⟩ := e2 f hh
   simp only [err,Option.isSome_none,Bool.false_eq_true,if_false,TR.bind]
   rw [vF hk h1 (hP.chkd 1 h1 _ (hs.cons (hM.left hb (.inr (.inl hkd)))) _ hid)]
   simp only [zbF]
   exact err_bind_none fun f' _=>vF hk h2 (hP.chkd 2 h2 _ (hs.cons (hM.right hb (.inr (.inl hkd)))) _ hid)
 by_cases k10:x.kind=10
 ·simp only [k10,ye] at hl
  have h0:=yR (i:=0) (n:=x.sub.length) zbB
  have e:yD M (PS M k x) s x id=(hdS M (PS M k x) s 2).bind fun f => .ok id:=by
   rw [← hdS_eq (g:=fun n => .ok id)]
   simp [yD,k10]
  obtain ⟨n,e1,e2⟩ := kG (kd:=2) hk h0 (hP.told 0 h0 s hs)
  rw [e]
  simp only [zdC.g,k10,Int.reduceEq,decide_false,decide_true,Bool.false_eq_true,if_false,if_true,hsome,zbF,e1]
  cases hh:hdS M (PS M k x) s 2 with
  | no c w=>rfl
  | ok f=>rfl
 by_cases k12:x.kind=12
 ·simp only [k12,ye] at hl
  have h0:=yR (i:=0) (n:=x.sub.length) zbB
  have h1:=yR (i:=1) (n:=x.sub.length) zbB
  obtain ⟨j,e1,e2⟩ := kJ hk h0 (hP.told 0 h0 s hs)
  simp only [zdC.g,yD,k12,Int.reduceEq,decide_false,decide_true,Bool.false_eq_true,if_false,if_true,hsome,zbF,e1]
  cases hh:PS M k x 0 s none with
  | no c w=>rfl
  | ok f =>
   obtain ⟨rfl,hb⟩ := e2 f hh
   simp only [err,Option.isSome_none,Bool.false_eq_true,if_false,TR.bind]
   exact vF hk h1 (hP.chkd 1 h1 _ (hs.cons hb) _ hid)
 obtain ⟨j,e1,e2⟩ := hT
 simp only [zdC.g,yD,k2,k4,k7,k8,k9,k10,k12,decide_false,Bool.false_eq_true,if_false,zbF,e1]
 cases hh:yg M (PS M k x) s x with
 | no c w=>simp [err,TR.bind]
 | ok f =>
  obtain ⟨rfl,hb⟩ := e2 f hh
  by_cases hj:j=id
  ·subst hj; simp [err,TR.bind]
  ·simp [err,TR.bind,hj]
end
theorem tc_prog {M:List Nd} (hM:Wf M) : ∀ (k:Nat),k ≤ 1999 → ∀ (x:PTerm),rightT x=true→depT x ≤ k →
  (∀ (s:Sc),Sok M s → ∀ K,2 * k ≤ K→Tells M (zdB.f K ⟨some M⟩ x s) (tyS M k x s none)) ∧
  (∀ (s:Sc),Sok M s → ∀ id,inb id M.length=true → ∀ K,2 * k + 1 ≤ K→zdC.f K ⟨some M⟩ x s id=some (err (tyS M k x s (some id))))
 | 0,_,x,_,h=>by have:=yW x; omega
 | k + 1,hk,x,hr,hd=>by
  have hde:=yQ x
  have hsub : ∀ i,inb i x.sub.length=true→rightT (at_ PTerm.z x.sub i)=true∧depT (at_ PTerm.z x.sub i) ≤ k:=fun i hi=>by
   have hm:=at_mem (zM hi)
   rw [zaB,Bool.and_eq_true] at hr
   exact ⟨rightL_mem hr.2 _ hm,by have:=yV _ hm; omega⟩
  have hP : ∀ K,2 * k + 1 ≤ K→Parts M k x (zdB.f K) (zdC.f K):=fun K hK =>
   ⟨fun i hi s hs=>(tc_prog hM k zbB _ (hsub i hi).1 (hsub i hi).2).1 s hs K zbB,fun i hi s hs id hid=>(tc_prog hM k zbB _ (hsub i hi).1 (hsub i hi).2).2 s hs id hid K zbB⟩
  have h1 : ∀ (s:Sc),Sok M s → ∀ K,2 * (k + 1) ≤ K→Tells M (zdB.f K ⟨some M⟩ x s) (tyS M (k + 1) x s none):=fun s hs K hK=>by
   obtain ⟨K',rfl⟩ : ∃ K',K=K' + 1:=⟨K - 1,by omega⟩
   exact told_tells hM zbB hr (hP K' zbB) hs
  refine ⟨h1,fun s hs id hid K hK=>?_⟩
  obtain ⟨K',rfl⟩ : ∃ K',K=K' + 1:=⟨K - 1,by omega⟩
  exact chkd_tells hM zbB hr (hP K' zbB) hs hid (h1 s hs K' zbB)
end
section
open Gw
def scS (l:List Hyp):Sc:=(l.map fun h=>(h.name,h.form)).reverse
def jN (M:List Nd) (l:List Hyp):Bool:=l.all fun h=>inb h.form M.length
theorem scS_ok {M:List Nd} {l:List Hyp} (h:jN M l=true):Sok M (scS l):=fun q hq=>by
 obtain ⟨a,ha,rfl⟩ := List.mem_map.1 (List.mem_reverse.1 hq)
 exact List.all_eq_true.1 h a ha
theorem ahead_loop (l:List Hyp) : ∀ (n i:Nat) (ids:List Int) (s:Sc),i + n=l.length→(ids.length + n) * 8 ≤ 140737488355328 →
  forS (fun i s=>zdD.b0 l i s.1 s.2) n (i:Int) (ids,s)=some (ids ++ (l.drop i).map (·.form),((l.drop i).map fun h=>(h.name,h.form)).reverse ++ s)
 | 0,i,ids,s,hi,_=>by
  rw [List.drop_eq_nil_of_le zbB]; simp [forS]
 | n + 1,i,ids,s,hi,hb=>by
  have hil:i < l.length:=by omega
  have he:at_ Hyp.z l (i:Int)=l[i]:=by
   unfold at_; rw [Int.toNat_natCast,List.getD_eq_getElem?_getD,List.getElem?_eq_getElem hil]; rfl
  have hb0:zdD.b0 l (i:Int) ids s=some (ids ++ [l[i].form],(l[i].name,l[i].form) :: s):=by
   simp only [zdD.b0,zbR.f,zbF,he]
   rw [chk_t (decide_eq_true (by simp only [List.length_singleton]; omega))]
  rw [forS]
  show (zdD.b0 l (i:Int) ids s).bind _=_
  rw [hb0]
  simp only [zbF]
  have:=ahead_loop l n (i + 1) (ids ++ [l[i].form]) ((l[i].name,l[i].form) :: s) zbB (by simp only [List.length_append,List.length_singleton]; omega)
  rw [show ((i:Int) + 1)=((i + 1:Nat):Int) by omega,this,List.drop_eq_getElem_cons hil]
  simp only [List.map_cons,List.reverse_cons,List.append_assoc,List.cons_append,List.nil_append,List.singleton_append]
theorem has_inb {M:List Nd} (i:Int):(zaj M i).2=inb i M.length:=by
 unfold zaj vX inb
 split <;> simp_all
theorem ahead_some {K:Nat} {M:List Nd} {l:List Hyp} {x:PTerm} {ids:List Int} (hK:66562 ≤ K) (hn:nmT x) (hb:(ids.length + l.length) * 8 ≤ 140737488355328) :
  zdD.f K (some M) l x ids=some (if (ids.all fun i=>inb i M.length) && jN M l then (scS l,xL x) else ([],31)):=by
 unfold zdD.f
 have h1:=ahead_loop l l.length 0 ids [] zbB zbB
 have e0:(((l.length:Nat):Int) - 0).toNat=l.length:=by omega
 simp only [zbI.f,zbF,show decide ((31:Int)=1)=false from rfl,Bool.false_eq_true,if_false,e0]
 rw [show (0:Int)=((0:Nat):Int) from rfl,h1]
 simp only [zbF,List.drop_zero,List.append_nil]
 generalize hids:ids ++ l.map (·.form)=js
 have h2:=zbt (b:=fun i s=>zdD.b1 (some M) (js,(l.map fun h=>(h.name,h.form)).reverse) i) (p:=fun k => !inb (js.getD k 0) M.length) (r:=fun _=>(([]:List (ByteArray × Int)),(31:Int))) js.length 0 () (by
  intro k _ hk
  unfold zdD.b1 at_
  simp only [zbG.f,Option.map_some,zbF,Int.toNat_natCast,has_inb]
  cases inb (js.getD k 0) M.length <;> rfl)
 have e1:(((js.length:Nat):Int) - ((0:Nat):Int)).toNat=js.length:=by omega
 rw [e1,h2]
 have h3:((ids.all fun i=>inb i M.length) && jN M l) = !((List.range' 0 js.length).find? fun k => !inb (js.getD k 0) M.length).isSome:=by
  have h4:((ids.all fun i=>inb i M.length) && jN M l)=js.all fun i=>inb i M.length:=by
   rw [← hids,List.all_append,jN,List.all_map]; rfl
  rw [h4,← any_find,Bool.eq_iff_iff]
  simp only [List.all_eq_true,Bool.not_eq_true',List.any_eq_false,Bool.not_eq_true,Bool.not_eq_false',List.mem_range'_1]
  constructor
  ·intro hh k hk
   have hk':k < js.length:=by omega
   simp only [List.getD_eq_getElem?_getD,List.getElem?_eq_getElem hk',Option.getD_some]
   simpa using hh _ (List.getElem_mem hk')
  ·intro hh x hx
   obtain ⟨k,hk,rfl⟩ := List.getElem_of_mem hx
   have:=hh k ⟨by omega,by omega⟩
   simp only [List.getD_eq_getElem?_getD,List.getElem?_eq_getElem hk,Option.getD_some] at this
   simpa using this
 rw [h3]
 cases (List.range' 0 js.length).find? fun k => !inb (js.getD k 0) M.length with
 | none=>simp [aft,zaD hK hn,scS]
 | some k=>simp [aft]
def jO (M:List Nd) (l:List Hyp) (x:PTerm):Int × Int:=if jN M l then (if xL x ≠ 0 then (0,xL x) else ((tyS M (depT x) x (scS l) none).form,(tyS M (depT x) x (scS l) none).code)) else (0,31)
def kP (M:List Nd) (l:List Hyp) (x:PTerm) (id:Int):List Int × Int:=if inb id M.length && jN M l then (if xL x ≠ 0 then ([],xL x) else ((tyS M (depT x) x (scS l) (some id)).way,(tyS M (depT x) x (scS l) (some id)).code)) else ([],31)
theorem checkT_ok {x:PTerm} (h:¬ xL x ≠ 0):sizeT x ≤ 65536∧depT x ≤ 1024∧rightT x=true:=by
 unfold xL at h
 split at h
 ·simp at h
 ·split at h
  ·rename_i h1 h2; exact ⟨by omega,by omega,h2⟩
  ·simp at h
theorem code_err (t:TR):zdw.f (err t)=some (t.way,t.code):=by
 cases t <;> simp [zdw.f,err,TR.way,TR.code,zbT.f]
theorem cd_pos {t:TR} (h:Cd t):(∀ f,t ≠ .ok f)→t.code ≠ 0:=by
 cases t with
 | ok f=>intro q; exact absurd rfl (q f)
 | no c w=>intro _ q; simp only [TR.code] at q; subst q; simp [Cd] at h
theorem Infer_some {K:Nat} {M:List Nd} {l:List Hyp} {x:PTerm} (hM:Wf M) (hK:66562 ≤ K) (hn:nmT x) (hb:l.length * 8 ≤ 140737488355328):zdG.f K (some M) l x=some (jO M l x):=by
 unfold zdG.f jO
 rw [ahead_some hK hn (by simpa using hb)]
 simp only [List.all_nil,Bool.true_and,zbF]
 by_cases hl:jN M l=true
 ·simp only [hl,if_true]
  by_cases hc:xL x ≠ 0
  ·simp [hc]
  ·obtain ⟨h1,h2,h3⟩ := checkT_ok hc
   obtain ⟨i,e1,e2⟩ := (tc_prog hM (depT x) zbB x h3 (Nat.le_refl _)).1 (scS l) (scS_ok hl) K zbB
   have hcd:=tyS_cd (M:=M) (depT x) x (scS l) none
   simp only [hc,decide_false,Bool.false_eq_true,if_false,e1,zbF,code_err]
   cases ht:tyS M (depT x) x (scS l) none with
   | ok f =>
    obtain ⟨rfl,_⟩ := e2 f ht
    simp [TR.code,TR.form]
   | no c w =>
    rw [ht] at hcd
    have:=cd_pos hcd (by intro f; simp)
    simp only [TR.code] at this
    simp [TR.code,TR.form,this]
 ·simp [hl]
theorem Where_some {K:Nat} {M:List Nd} {l:List Hyp} {x:PTerm} {id:Int} (hM:Wf M) (hK:66562 ≤ K) (hn:nmT x) (hb:(1 + l.length) * 8 ≤ 140737488355328):zdE.f K (some M) l x id=some (kP M l x id):=by
 unfold zdE.f kP
 rw [ahead_some hK hn (by simpa using hb)]
 simp only [List.all_cons,List.all_nil,Bool.and_true,zbF]
 by_cases hl:(inb id M.length && jN M l)=true
 ·simp only [hl,if_true]
  rw [Bool.and_eq_true] at hl
  by_cases hc:xL x ≠ 0
  ·simp [hc]
  ·obtain ⟨h1,h2,h3⟩ := checkT_ok hc
   have e1:=(tc_prog hM (depT x) zbB x h3 (Nat.le_refl _)).2 (scS l) (scS_ok hl.2) id hl.1 K zbB
   simp only [hc,decide_false,Bool.false_eq_true,if_false,e1,zbF,code_err]
 ·simp [hl]
theorem CheckF_some {K:Nat} {M:List Nd} {l:List Hyp} {x:PTerm} {id:Int} (hM:Wf M) (hK:66562 ≤ K) (hn:nmT x) (hb:(1 + l.length) * 8 ≤ 140737488355328):zdF.f K (some M) l x id=some (kP M l x id).2:=by
 unfold zdF.f
 rw [Where_some hM hK hn hb]; rfl
end
section
open Gw
-- nodes,levels,what is right,as the document tells them
end
section
open Gw
set_option maxRecDepth 4000
theorem yz {x:PTerm}:xL x=0↔sizeT x ≤ 65536∧depT x ≤ 1024∧rightT x=true:=by
 unfold xL
 by_cases h:65536 < sizeT x∨1024 < depT x
 ·rw [if_pos h]; constructor
  ·intro q; exact absurd q zbA
  ·intro q; omega
 ·rw [if_neg h]
  by_cases r:rightT x=true
  ·rw [if_pos r]; exact ⟨fun _=>⟨by omega,by omega,r⟩,fun _=>rfl⟩
  ·rw [if_neg r]; exact ⟨fun q=>absurd q zbA,fun q=>absurd q.2.2 r⟩
def putV (x:PTerm) (n:ByteArray) (y:PTerm):PTerm × Int :=
 if xL x ≠ 0 then (PTerm.z,xL x) else if xL y ≠ 0 then (PTerm.z,xL y) else if ¬ isWord n then (PTerm.z,32)
 else if 65536 < sizeT x + cntT n x * (sizeT y - 1)∨1024 < gD true n (depT y) x then (PTerm.z,121) else (putT x n y,0)
theorem Put14 {K:Nat} {x:PTerm} {n:ByteArray} {y:PTerm} (hK:200000 ≤ K) (hx:nmT x) (hy:nmT y) (hn:n.size < 9223372036854775808):zcK.f K x n y=some (putV x n y):=by
 unfold zcK.f putV
 rw [zaD zbB hx,zbF]
 by_cases cx:xL x=0
 rotate_left
 ·rw [if_pos (by simpa using cx),if_pos cx]; rfl
 rw [if_neg (by simpa using cx),if_neg (by simpa using cx),zaD zbB hy,zbF]
 by_cases cy:xL y=0
 rotate_left
 ·rw [if_pos (by simpa using cy),if_pos cy]; rfl
 rw [if_neg (by simpa using cy),if_neg (by simpa using cy)]
 unfold zbL.f
 rw [chk,if_pos (by simpa using hn),zbF]
 by_cases w:isWord n
 rotate_left
 ·rw [if_pos (by simpa using w),if_pos w]; rfl
 obtain ⟨x1,x2,x3⟩ := yz.1 cx
 obtain ⟨y1,y2,y3⟩ := yz.1 cy
 have ys:=kN y
 rw [if_neg (by simpa using w),if_neg (by simpa using w)]
 unfold zbQ.f zbX.f
 rw [zbF,show (1025:Int)=((1025:Nat):Int) from rfl,deep_some K y 1025 zbB zbB zbB zbB]
 simp only [zbF]
 rw [show min (sizeT y) 65537=sizeT y by omega,show min (depT y) 1025=depT y by omega,grown14 K x n (sizeT y) (depT y) x3 zbB x1 x2 ys y1 y2,zbF]
 obtain ⟨F,hF,hF2⟩ := freely14 (K:=K) (x:=y) zbB zbB
 by_cases c:65536 < sizeT x + cntT n x * (sizeT y - 1)∨1024 < gD true n (depT y) x
 ·rw [if_pos c,if_pos]
  ·rfl
  ·rw [Bool.or_eq_true_iff]
   rcases c with c | c
   ·exact .inl (decide_eq_true zbB)
   ·exact .inr (decide_eq_true zbB)
 ·rw [if_neg c,if_neg,hF,zbF,put14 K x n y F x3 y3 hF2 zbB zbB]
  ·rfl
  ·rw [Bool.or_eq_true_iff]
   rintro (q | q)
   ·have q:=of_decide_eq_true q; exact c (.inl zbB)
   ·have q:=of_decide_eq_true q; exact c (.inr zbB)
end
section
open Gw
end
section
open Gw
abbrev kid (x:PTerm) (i:Int):PTerm:=at_ PTerm.z x.sub i
def besV (M:List Nd) (p:PTerm) (k f:Int):Int:=if p.kind=k then 1 else if p.kind=11∧(kid p 0).kind=k∧(nd M p.form).kind=f then 2 else 0
def rowV (M:List Nd) (x:PTerm):Int :=
 if x.kind=3 then besV M (kid x 0) 2 5
 else if x.kind=5∨x.kind=6 then (if besV M (kid x 0) 4 3=0 then 0 else 2 + besV M (kid x 0) 4 3)
 else if x.kind=9 then (if besV M (kid x 0) 7 4 ≠ 0 then 4 + besV M (kid x 0) 7 4 else if besV M (kid x 0) 8 4 ≠ 0 then 4 + besV M (kid x 0) 8 4 else 0)
 else if x.kind=12 then 7
 else if x.kind=11 then (if (kid x 0).kind=1∨(kid x 0).kind=3∨(kid x 0).kind=5∨(kid x 0).kind=6∨(kid x 0).kind=11 then 8 else 0)
 else 0
theorem zaQ {x:PTerm} (hr:rightT x=true):(x.sub.length:Int)=ye x.kind:=(xY hr).len.symm
theorem kid_at {x:PTerm} {i:Nat} (h:i < x.sub.length):kid x (i:Int)=x.sub[i]:=zaI h
theorem kid_right {x:PTerm} (hr:rightT x=true) {i:Nat} (h:i < x.sub.length):rightT (kid x (i:Int))=true:=by rw [kid_at h]; exact yp hr h
theorem uz {x:PTerm} {k:Int} (h:0 < x.sub.length):zcf.f x k=some (decide ((kid x 0).kind=k)):=by
 unfold zcf.f
 have hin:inb 0 x.sub.length=true:=jz zbB zbB
 rw [chk,if_pos (by rw [hin]; simp)]
 have:decide (0 < (x.sub.length:Int))=true:=decide_eq_true zbB
 rw [this]; rfl
theorem jf {M:List Nd} {x:PTerm} (hl:0 < x.sub.length) (hr:rightT (kid x 0)=true) (hf:(kid x 0).kind=11→inb (kid x 0).form M.length=true) {k f:Int} (hk:k ≠ 11):zcg.f (some M) x k f=some (decide (besV M (kid x 0) k f=2)):=by
 unfold zcg.f besV
 have hin:inb 0 x.sub.length=true:=jz zbB zbB
 rw [uz hl,zbF,chk,if_pos (by rw [hin]; simp)]
 by_cases h11:(kid x 0).kind=11
 ·have hl1:(kid x 0).sub.length=1:=(yL hr).2.2.2.2 h11
  have hne:¬ (kid x 0).kind=k:=by rw [h11]; exact fun q=>hk q.symm
  rw [if_neg hne,if_pos (by simp [h11])]
  rw [show zcf.f (at_ PTerm.z x.sub 0) k=some (decide ((kid (kid x 0) 0).kind=k)) from uz (x:=kid x 0) zbB,zbF]
  by_cases c:(kid (kid x 0) 0).kind=k
  ·rw [if_neg (by simp [h11,c]),chk,if_pos hin]
   have hi:=hf h11
   unfold zbG.f
   simp only [Option.map_some,zbF]
   show some (decide ((nd M (kid x 0).form).kind=f))=_
   by_cases q:(nd M (kid x 0).form).kind=f
   ·rw [if_pos ⟨h11,c,q⟩]; simp [q]
   ·rw [if_neg (fun z=>q z.2.2)]; simp [q]
  ·rw [if_pos (by simp [c]),if_neg (fun z=>c z.2.1)]; rfl
 ·rw [if_neg (by simp [h11]),zbF,if_pos (by simp [h11])]
  by_cases c:(kid x 0).kind=k
  ·rw [if_pos c]; rfl
  ·rw [if_neg c,if_neg (fun z=>h11 z.1)]; rfl
end
section
open Gw
theorem bes_vals (M:List Nd) (p:PTerm) (k f:Int):besV M p k f=0∨besV M p k f=1∨besV M p k f=2:=by
 unfold besV; split
 ·exact .inr (.inl rfl)
 ·split
  ·exact .inr (.inr rfl)
  ·exact .inl rfl
section
variable {M:List Nd} {x:PTerm}
theorem kids {hr:rightT x=true}:(x.kind=3∨x.kind=12→x.sub.length=2)∧(x.kind=5∨x.kind=6∨x.kind=11→x.sub.length=1)∧(x.kind=9→x.sub.length=3):=by
 have h:=zaQ hr
 refine ⟨fun k=>?_,fun k=>?_,fun k=>?_⟩
 ·rcases k with k | k <;> rw [k] at h <;> simp [ye] at h <;> omega
 ·rcases k with k | k | k <;> rw [k] at h <;> simp [ye] at h <;> omega
 ·rw [k] at h; simp [ye] at h; omega
theorem row_iff:(rowV M x=1↔x.kind=3∧(kid x 0).kind=2)∧(rowV M x=2↔x.kind=3∧besV M (kid x 0) 2 5=2)∧(rowV M x=3↔(x.kind=5∨x.kind=6)∧(kid x 0).kind=4)∧(rowV M x=4↔(x.kind=5∨x.kind=6)∧besV M (kid x 0) 4 3=2) ∧
  (rowV M x=5↔x.kind=9∧((kid x 0).kind=7∨(kid x 0).kind=8))∧(rowV M x=6↔x.kind=9∧(besV M (kid x 0) 8 4=2∨besV M (kid x 0) 7 4=2))∧(rowV M x=7↔x.kind=12) ∧
  (rowV M x=8↔x.kind=11∧((kid x 0).kind=1∨(kid x 0).kind=3∨(kid x 0).kind=5∨(kid x 0).kind=6∨(kid x 0).kind=11))∧0 ≤ rowV M x∧rowV M x ≤ 8:=by
 have v25:=bes_vals M (kid x 0) 2 5
 have v43:=bes_vals M (kid x 0) 4 3
 have v74:=bes_vals M (kid x 0) 7 4
 have v84:=bes_vals M (kid x 0) 8 4
 have one : ∀ k f,(besV M (kid x 0) k f=1↔(kid x 0).kind=k):=fun k f=>by
  unfold besV
  by_cases h:(kid x 0).kind=k
  ·rw [if_pos h]; simp [h]
  ·rw [if_neg h]; constructor
   ·intro q; split at q <;> omega
   ·intro q; exact absurd q h
 have two : ∀ k f,besV M (kid x 0) k f=2→(kid x 0).kind=11∧(kid (kid x 0) 0).kind=k:=fun k f q=>by
  unfold besV at q
  split at q
  ·omega
  ·split at q
   ·rename_i z; exact ⟨z.1,z.2.1⟩
   ·omega
 have o25:=one 2 5; have o43:=one 4 3; have o74:=one 7 4; have o84:=one 8 4
 have t74:=two 7 4; have t84:=two 8 4
 by_cases k3:x.kind=3
 ·clear v43 v74 v84 o43 o74 o84 t74 t84
  have e:rowV M x=besV M (kid x 0) 2 5:=by unfold rowV; rw [if_pos k3]
  refine ⟨?_,?_,?_,?_,?_,?_,?_,?_,?_,?_⟩ <;> omega
 by_cases k56:x.kind=5∨x.kind=6
 ·clear v25 v74 v84 o25 o74 o84 t74 t84
  by_cases z:besV M (kid x 0) 4 3=0
  ·have e:rowV M x=0:=by unfold rowV; rw [if_neg k3,if_pos k56,if_pos z]
   refine ⟨?_,?_,?_,?_,?_,?_,?_,?_,?_,?_⟩ <;> omega
  ·have e:rowV M x=2 + besV M (kid x 0) 4 3:=by unfold rowV; rw [if_neg k3,if_pos k56,if_neg z]
   refine ⟨?_,?_,?_,?_,?_,?_,?_,?_,?_,?_⟩ <;> omega
 by_cases k9:x.kind=9
 ·clear v25 v43 o25 o43
  have t74:=fun q=>(t74 q).1
  have t84:=fun q=>(t84 q).1
  by_cases z:besV M (kid x 0) 7 4=0
  ·by_cases z8:besV M (kid x 0) 8 4=0
   ·have e:rowV M x=0:=by unfold rowV; rw [if_neg k3,if_neg k56,if_pos k9,if_neg (fun c=>c z),if_neg (fun c=>c z8)]
    refine ⟨?_,?_,?_,?_,?_,?_,?_,?_,?_,?_⟩ <;> omega
   ·have e:rowV M x=4 + besV M (kid x 0) 8 4:=by unfold rowV; rw [if_neg k3,if_neg k56,if_pos k9,if_neg (fun c=>c z),if_pos z8]
    refine ⟨?_,?_,?_,?_,?_,?_,?_,?_,?_,?_⟩ <;> omega
  ·have e:rowV M x=4 + besV M (kid x 0) 7 4:=by unfold rowV; rw [if_neg k3,if_neg k56,if_pos k9,if_pos z]
   refine ⟨?_,?_,?_,?_,?_,?_,?_,?_,?_,?_⟩ <;> omega
 clear v25 v43 v74 v84 o25 o43 o74 o84 t74 t84
 by_cases k12:x.kind=12
 ·have e:rowV M x=7:=by unfold rowV; rw [if_neg k3,if_neg k56,if_neg k9,if_pos k12]
  refine ⟨?_,?_,?_,?_,?_,?_,?_,?_,?_,?_⟩ <;> omega
 by_cases k11:x.kind=11
 ·by_cases z:(kid x 0).kind=1∨(kid x 0).kind=3∨(kid x 0).kind=5∨(kid x 0).kind=6∨(kid x 0).kind=11
  ·have e:rowV M x=8:=by unfold rowV; rw [if_neg k3,if_neg k56,if_neg k9,if_neg k12,if_pos k11,if_pos z]
   refine ⟨?_,?_,?_,?_,?_,?_,?_,?_,?_,?_⟩ <;> omega
  ·have e:rowV M x=0:=by unfold rowV; rw [if_neg k3,if_neg k56,if_neg k9,if_neg k12,if_pos k11,if_neg z]
   refine ⟨?_,?_,?_,?_,?_,?_,?_,?_,?_,?_⟩ <;> omega
 ·have e:rowV M x=0:=by unfold rowV; rw [if_neg k3,if_neg k56,if_neg k9,if_neg k12,if_neg k11]
  refine ⟨?_,?_,?_,?_,?_,?_,?_,?_,?_,?_⟩ <;> omega
theorem dec_of {p q:Prop} [Decidable p] [Decidable q] (h:p↔q):decide p=decide q:=by rw [Bool.eq_iff_iff,decide_eq_true_eq,decide_eq_true_eq]; exact h
theorem rules14 (hr:rightT x=true) (hf:(kid x 0).kind=11→inb (kid x 0).form M.length=true) :
  zcm.f (some M) x=some (decide (rowV M x=1))∧zcn.f (some M) x=some (decide (rowV M x=2))∧zco.f (some M) x=some (decide (rowV M x=3))∧zcq.f (some M) x=some (decide (rowV M x=4)) ∧
  zcs.f (some M) x=some (decide (rowV M x=5))∧zct.f (some M) x=some (decide (rowV M x=6))∧zcu.f (some M) x=some (decide (rowV M x=7))∧zcv.f (some M) x=some (decide (rowV M x=8)):=by
 obtain ⟨l2,l1,l3⟩ := kids (hr:=hr)
 obtain ⟨r1,r2,r3,r4,r5,r6,r7,r8,_⟩ := row_iff (M:=M) (x:=x)
 have hk0:0 < x.sub.length→rightT (kid x 0)=true:=fun h=>kid_right hr (i:=0) h
 rw [dec_of r1,dec_of r2,dec_of r3,dec_of r4,dec_of r5,dec_of r6,dec_of r7,dec_of r8]
 refine ⟨?_,?_,?_,?_,?_,?_,?_,?_⟩
 ·unfold zcm.f
  by_cases k:x.kind=3
  ·rw [if_pos (by simpa using k),uz (by have:=l2 (.inl k); omega),zbF]; simp [k]
  ·rw [if_neg (by simpa using k),zbF]; simp [k]
 ·unfold zcn.f
  by_cases k:x.kind=3
  ·have hl:=l2 (.inl k)
   rw [if_pos (by simpa using k),jf zbB (hk0 zbB) hf zbA,zbF]; simp [k]
  ·rw [if_neg (by simpa using k),zbF]; simp [k]
 ·unfold zco.f zci.f
  rw [zbF]
  by_cases k:x.kind=5∨x.kind=6
  ·have hl:=l1 zbB
   have kb:((decide (x.kind=5)) || (decide (x.kind=6)))=true:=by simpa using k
   rw [kb,if_pos rfl,uz zbB,zbF]; simp [k]
  ·have kb:((decide (x.kind=5)) || (decide (x.kind=6)))=false:=by simpa using k
   rw [kb,if_neg zbA,zbF]; simp [k]
 ·unfold zcq.f zci.f
  rw [zbF]
  by_cases k:x.kind=5∨x.kind=6
  ·have hl:=l1 zbB
   have kb:((decide (x.kind=5)) || (decide (x.kind=6)))=true:=by simpa using k
   rw [kb,if_pos rfl,jf zbB (hk0 zbB) hf zbA,zbF]; simp [k]
  ·have kb:((decide (x.kind=5)) || (decide (x.kind=6)))=false:=by simpa using k
   rw [kb,if_neg zbA,zbF]; simp [k]
 ·unfold zcs.f zck.f
  by_cases k:x.kind=9
  ·have hl:=l3 k
   rw [uz zbB,zbF,if_pos (by simpa using k),uz zbB,zbF]
   by_cases c7:(kid x 0).kind=7
   ·rw [if_neg (by simp [c7]),zbF,zbF]; simp [k,c7]
   ·rw [if_pos (by simp [k,c7]),zbF,zbF]; simp [k,c7]
  ·have hh : ∃ b,zcf.f x 8=some b:=by
    unfold zcf.f
    by_cases hl:0 < x.sub.length
    ·rw [chk,if_pos (by rw [show inb 0 x.sub.length=true from jz zbB zbB]; simp)]; exact ⟨_,rfl⟩
    ·rw [chk,if_pos (by rw [show decide (0 < (x.sub.length:Int))=false from decide_eq_false zbB]; rfl)]; exact ⟨_,rfl⟩
   obtain ⟨b,hb⟩ := hh
   rw [hb,zbF,if_neg (by simpa using k),zbF,if_neg (by simp [k]),zbF,zbF]; simp [k]
 ·unfold zct.f zcl.f
  by_cases k:x.kind=9
  ·have hl:=l3 k
   rw [jf zbB (hk0 zbB) hf zbA,zbF]
   by_cases c8:besV M (kid x 0) 8 4=2
   ·rw [if_neg (by simp [c8]),zbF,zbF]; simp [k,c8]
   ·rw [if_pos (by simp [k,c8]),jf zbB (hk0 zbB) hf zbA,zbF,zbF]; simp [k,c8]
  ·have hh : ∃ b,zcg.f (some M) x 8 4=some b:=by
    by_cases hl:0 < x.sub.length
    ·exact ⟨_,jf hl (hk0 hl) hf zbA⟩
    ·unfold zcg.f zcf.f
     have d0:decide (0 < (x.sub.length:Int))=false:=decide_eq_false zbB
     rw [d0]
     exact ⟨false,rfl⟩
   obtain ⟨b,hb⟩ := hh
   rw [hb,zbF,if_neg (by simp [k]),zbF,zbF]; simp [k]
 ·rfl
 ·unfold zcv.f
  by_cases k:x.kind=11
  ·have hl:=l1 zbB
   rw [if_neg (by simpa using k),chk,if_pos (by rw [hl]; rfl),show at_ PTerm.z x.sub 0=kid x 0 from rfl]
   by_cases c1:(kid x 0).kind=1
   ·simp [k,c1]
   by_cases c3:(kid x 0).kind=3
   ·simp [k,c3]
   by_cases c5:(kid x 0).kind=5
   ·simp [k,c5]
   by_cases c6:(kid x 0).kind=6
   ·simp [k,c6]
   by_cases c11:(kid x 0).kind=11
   ·simp [k,c11]
   ·simp [k,c1,c3,c5,c6,c11]
  ·rw [if_pos (by simpa using k)]; simp [k]
theorem fits14 (hr:rightT x=true) (hf:(kid x 0).kind=11→inb (kid x 0).form M.length=true):zcS.f (some M) x=some (if rowV M x=0 then (8,false) else (rowV M x - 1,true)):=by
 obtain ⟨e1,e2,e3,e4,e5,e6,e7,e8⟩ := rules14 (M:=M) hr hf
 have hb:=(row_iff (M:=M) (x:=x)).2.2.2.2.2.2.2.2
 unfold zcS.f
 rw [e1,e2,e3,e4,e5,e6,e7,e8]
 simp only [zbF]
 generalize rowV M x=r at *
 have:r=0∨r=1∨r=2∨r=3∨r=4∨r=5∨r=6∨r=7∨r=8:=by omega
 rcases this with rfl | rfl | rfl | rfl | rfl | rfl | rfl | rfl | rfl <;> rfl
end
end
section
open Gw
theorem at_or {l:List PTerm} (i:Int):at_ PTerm.z l i ∈ l∨at_ PTerm.z l i=PTerm.z:=by
 unfold at_
 rw [List.getD_eq_getElem?_getD]
 by_cases h:i.toNat < l.length
 ·left; rw [List.getElem?_eq_getElem h]; exact List.getElem_mem h
 ·right; rw [List.getElem?_eq_none zbB]; rfl
theorem tyS_z (M:List Nd) : ∀ (k:Nat) (s:Sc) (w:Option Int),tyS M k PTerm.z s w = .no 132 []
 | 0,s,w=>rfl
 | k + 1,s,none=>by rw [ux]; simp [yg,PTerm.z,PTerm.kind]
 | k + 1,s,some id=>by rw [uK]; simp [yD,yg,PTerm.z,PTerm.kind,TR.bind]
theorem tyS_fuel (M:List Nd) : ∀ (k:Nat) (x:PTerm) (s:Sc) (w:Option Int),depT x ≤ k→tyS M (k + 1) x s w=tyS M k x s w
 | 0,x,s,w,h=>by have:=yW x; omega
 | k + 1,x,s,w,h=>by
  have hd:=yQ x
  have e:(fun i s' w=>(tyS M (k + 1) (at_ PTerm.z x.sub i) s' w).at_ i)=fun i s' w=>(tyS M k (at_ PTerm.z x.sub i) s' w).at_ i:=by
   funext i s' w
   rcases at_or (l:=x.sub) i with h1 | h1
   ·have:=yV _ h1
    rw [tyS_fuel M k _ _ _ zbB]
   ·rw [h1,tyS_z,tyS_z]
  cases w with
  | none=>rw [ux,ux,e]
  | some id=>rw [uK,uK,e]
theorem tyS_dep {M:List Nd} {x:PTerm} {s:Sc} {w:Option Int} : ∀ (k:Nat),depT x ≤ k→tyS M k x s w=tyS M (depT x) x s w
 | 0,h=>by have:=yW x; omega
 | k + 1,h=>by
  by_cases e:depT x=k + 1
  ·rw [e]
  ·rw [tyS_fuel M k x s w zbB]; exact tyS_dep k zbB
end
section
open Gw
abbrev theT (a:PTerm) (f:Int):PTerm:=⟨11,⟨#[]⟩,⟨#[]⟩,f,[a]⟩
def intoV (x:PTerm) (a:PTerm) (b:Bool):PTerm × Int:=if b then putV (kid x 2) x.other a else putV (kid x 1) x.name a
def yj (M:List Nd) (x:PTerm):PTerm × Int :=
 let p:=kid x 0; let q:=kid p 0; let f:=nd M p.form
 if rowV M x=1 then putV (kid p 0) p.name (kid x 1)
 else if rowV M x=2 then (let r:=putV (kid q 0) q.name (theT (kid x 1) f.l); if r.2 ≠ 0 then r else (theT r.1 f.r,0))
 else if rowV M x=3 then (if x.kind=6 then kid p 1 else kid p 0,0)
 else if rowV M x=4 then (if x.kind=6 then theT (kid q 1) f.r else theT (kid q 0) f.l,0)
 else if rowV M x=5 then intoV x (kid p 0) (decide (p.kind=8))
 else if rowV M x=6 then intoV x (theT (kid q 0) (if besV M p 8 4=2 then f.r else f.l)) (decide (besV M p 8 4=2))
 else if rowV M x=7 then putV (kid x 1) x.name (kid x 0)
 else if rowV M x=8 then (kid x 0,0)
 else (PTerm.z,140)
theorem zaw {M:List Nd} {p:PTerm} {k f:Int} (h:besV M p k f=2):p.kind=11∧(kid p 0).kind=k∧(nd M p.form).kind=f:=by
 unfold besV at h
 by_cases c:p.kind=k
 ·rw [if_pos c] at h; exact absurd h zbA
 ·rw [if_neg c] at h
  by_cases c2:p.kind=11∧(kid p 0).kind=k∧(nd M p.form).kind=f
  ·exact c2
  ·rw [if_neg c2] at h; exact absurd h zbA
theorem nm_z:nmT PTerm.z:=by unfold PTerm.z; simp [nmT,nmL]
theorem nm_mem : ∀ {l:List PTerm},nmL l → ∀ y ∈ l,nmT y
 | [],_,_,h=>by simp at h
 | a :: l,h,y,hy=>by
  rcases List.mem_cons.1 hy with rfl | hy
  ·exact h.1
  ·exact nm_mem h.2 y hy
theorem vg {x:PTerm} (h:nmT x) (i:Int):nmT (kid x i):=by
 rcases at_or (l:=x.sub) i with q | q
 ·exact nm_mem ((zap x).1 h).2.2 _ q
 ·unfold kid; rw [q]; exact nm_z
theorem nm_the {a:PTerm} (h:nmT a) (f:Int):nmT (theT a f):=by
 rw [zap]; exact ⟨by show (0:Nat) < _; decide,by show (0:Nat) < _; decide,⟨h,trivial⟩⟩
theorem size_the (a:PTerm) (f:Int):sizeT (theT a f)=1 + sizeT a:=by rw [yI]; rfl
section
variable {M:List Nd} {x:PTerm} {K:Nat}
theorem vu {x:PTerm} (hr:rightT x=true) {i:Int} {n:Nat} (h:x.sub.length=n) (hi:0 ≤ i∧i < n):rightT (kid x i)=true:=by
 obtain ⟨j,rfl⟩ : ∃ j:Nat,i=j:=⟨i.toNat,by omega⟩
 exact kid_right hr zbB
theorem zbv (hl:0 < x.sub.length) (b:Bool):zch.f (some M) x b=some (if b then (nd M (kid x 0).form).r else (nd M (kid x 0).form).l):=by
 unfold zch.f zbG.f
 rw [chk,if_pos (jz zbB zbB)]
 simp only [Option.map_some,zbF]
 cases b <;> rfl
theorem into_some (hK:200000 ≤ K) (hn:nmT x) {a:PTerm} (ha:nmT a) (hl:x.sub.length=3) (b:Bool):zcN.f K x a b=some (intoV x a b):=by
 unfold zcN.f intoV
 have hnx:=(zap x).1 hn
 cases b
 ·rw [if_neg zbA,if_neg zbA,chk,if_pos (jz zbB zbB),Put14 hK (vg hn 1) ha hnx.1]; rfl
 ·rw [if_pos rfl,if_pos rfl,chk,if_pos (jz zbB zbB),Put14 hK (vg hn 2) ha hnx.2.1]; rfl
theorem cont14 (hK:200000 ≤ K) (hr:rightT x=true) (hn:nmT x) (hf:(kid x 0).kind=11→inb (kid x 0).form M.length=true) (h0:rowV M x ≠ 0) :
  ∃ p,zcR.f K (rowV M x - 1) (some M) x=some p∧p.2=(yj M x).2∧(p.2=0→p.1=(yj M x).1):=by
 obtain ⟨l2,l1,l3⟩ := kids (hr:=hr)
 have b12:=(row_iff (M:=M) (x:=x)).2.2.2.2.2.2.2.2
 have hin : ∀ {y:PTerm} {i:Int} {n:Nat},y.sub.length=n→(0 ≤ i∧i < n)→inb i y.sub.length=true:=fun h hi=>jz hi.1 zbB
 have hc:rowV M x=1∨rowV M x=2∨rowV M x=3∨rowV M x=4∨rowV M x=5∨rowV M x=6∨rowV M x=7∨rowV M x=8:=by omega
 rcases hc with e | e | e | e | e | e | e | e
 ·obtain ⟨k3,kp⟩ := (row_iff (M:=M) (x:=x)).1.1 e
  have hl:=l2 (.inl k3)
  have hp:=vu hr hl (i:=0) zbB
  have hpl:(kid x 0).sub.length=1:=(yL hp).2.1 kp
  have hv:yj M x=putV (kid (kid x 0) 0) (kid x 0).name (kid x 1):=by unfold yj; simp only [e]; rfl
  refine ⟨yj M x,?_,rfl,fun _=>rfl⟩
  rw [hv,e]
  show zcL.f K (some M) x=_
  unfold zcL.f
  rw [chk,if_pos (hin (i:=0) hl zbB),chk,if_pos (hin (y:=kid x 0) (i:=0) hpl zbB),chk,if_pos (hin (i:=0) hl zbB),chk,if_pos (hin (i:=1) hl zbB)]
  rw [Put14 hK (vg (vg hn 0) 0) (vg hn 1) ((zap _).1 (vg hn 0)).1]; rfl
 ·obtain ⟨k3,kb⟩ := (row_iff (M:=M) (x:=x)).2.1.1 e
  obtain ⟨kp,kq,_⟩ := zaw kb
  have hl:=l2 (.inl k3)
  have hp:=vu hr hl (i:=0) zbB
  have hpl:(kid x 0).sub.length=1:=(yL hp).2.2.2.2 kp
  have hq:=vu hp hpl (i:=0) zbB
  have hql:(kid (kid x 0) 0).sub.length=1:=(yL hq).2.1 kq
  have hv:yj M x=(let r:=putV (kid (kid (kid x 0) 0) 0) (kid (kid x 0) 0).name (theT (kid x 1) (nd M (kid x 0).form).l); if r.2 ≠ 0 then r else (theT r.1 (nd M (kid x 0).form).r,0)):=by unfold yj; simp only [e]; rfl
  have ht:nmT (theT (kid x 1) (nd M (kid x 0).form).l):=nm_the (vg hn 1) _
  refine ⟨(theT (putV (kid (kid (kid x 0) 0) 0) (kid (kid x 0) 0).name (theT (kid x 1) (nd M (kid x 0).form).l)).1 (nd M (kid x 0).form).r,(putV (kid (kid (kid x 0) 0) 0) (kid (kid x 0) 0).name (theT (kid x 1) (nd M (kid x 0).form).l)).2),?_,?_,?_⟩
  ·rw [e]
   show zcM.f K (some M) x=_
   unfold zcM.f
   rw [chk,if_pos (hin (i:=0) hl zbB),chk,if_pos (hin (y:=kid x 0) (i:=0) hpl zbB),chk,if_pos (hin (y:=kid (kid x 0) 0) (i:=0) hql zbB),chk,if_pos (hin (i:=1) hl zbB),zbv zbB,zbF]
   unfold zce.f
   rw [zbF]
   show ((zcK.f K (kid (kid (kid x 0) 0) 0) (kid (kid x 0) 0).name (theT (kid x 1) (nd M (kid x 0).form).l)).bind _)=_
   rw [Put14 hK (vg (vg (vg hn 0) 0) 0) ht ((zap _).1 (vg (vg hn 0) 0)).1,zbF,zbv zbB]
   rfl
  ·rw [hv]; dsimp only; split <;> simp_all
  ·intro z; rw [hv]; dsimp only at z ⊢; rw [if_neg (fun c=>c z)]
 ·obtain ⟨k56,kp⟩ := (row_iff (M:=M) (x:=x)).2.2.1.1 e
  have hl:=l1 zbB
  have hp:=vu hr hl (i:=0) zbB
  have hpl:(kid x 0).sub.length=2:=by have:=zaQ hp; rw [kp] at this; simp [ye] at this; omega
  have hv:yj M x=(if x.kind=6 then kid (kid x 0) 1 else kid (kid x 0) 0,0):=by unfold yj; simp only [e]; rfl
  refine ⟨yj M x,?_,rfl,fun _=>rfl⟩
  rw [hv,e]
  show zcp.f (some M) x=_
  unfold zcp.f zcj.f
  rw [chk,if_pos (hin (i:=0) hl zbB)]
  by_cases k6:x.kind=6
  ·rw [if_pos (by simpa using k6),chk,if_pos (hin (y:=kid x 0) (i:=1) hpl zbB),if_pos k6]; rfl
  ·rw [if_neg (by simpa using k6),chk,if_pos (hin (y:=kid x 0) (i:=0) hpl zbB),if_neg k6]; rfl
 ·obtain ⟨k56,kb⟩ := (row_iff (M:=M) (x:=x)).2.2.2.1.1 e
  obtain ⟨kp,kq,_⟩ := zaw kb
  have hl:=l1 zbB
  have hp:=vu hr hl (i:=0) zbB
  have hpl:(kid x 0).sub.length=1:=(yL hp).2.2.2.2 kp
  have hq:=vu hp hpl (i:=0) zbB
  have hql:(kid (kid x 0) 0).sub.length=2:=by have:=zaQ hq; rw [kq] at this; simp [ye] at this; omega
  have hv:yj M x=(if x.kind=6 then theT (kid (kid (kid x 0) 0) 1) (nd M (kid x 0).form).r else theT (kid (kid (kid x 0) 0) 0) (nd M (kid x 0).form).l,0):=by unfold yj; simp only [e]; rfl
  refine ⟨yj M x,?_,rfl,fun _=>rfl⟩
  rw [hv,e]
  show zcr.f (some M) x=_
  unfold zcr.f zcj.f zce.f
  rw [chk,if_pos (hin (i:=0) hl zbB),chk,if_pos (hin (y:=kid x 0) (i:=0) hpl zbB)]
  by_cases k6:x.kind=6
  ·rw [if_pos (by simpa using k6),chk,if_pos (hin (y:=kid (kid x 0) 0) (i:=1) hql zbB),zbF,zbv zbB,if_pos k6]; simp [k6]; rfl
  ·rw [if_neg (by simpa using k6),chk,if_pos (hin (y:=kid (kid x 0) 0) (i:=0) hql zbB),zbF,zbv zbB,if_neg k6]; simp [k6]; rfl
 ·obtain ⟨k9,kp⟩ := (row_iff (M:=M) (x:=x)).2.2.2.2.1.1 e
  have hl:=l3 k9
  have hp:=vu hr hl (i:=0) zbB
  have hpl:(kid x 0).sub.length=1:=by have:=zaQ hp; rcases kp with kp | kp <;> rw [kp] at this <;> simp [ye] at this <;> omega
  have hv:yj M x=intoV x (kid (kid x 0) 0) (decide ((kid x 0).kind=8)):=by unfold yj; simp only [e]; rfl
  refine ⟨yj M x,?_,rfl,fun _=>rfl⟩
  rw [hv,e]
  show zcO.f K (some M) x=_
  unfold zcO.f
  have hj : ∃ b,zck.f x=some (decide ((kid x 0).kind=8),b):=by
   unfold zck.f
   rw [uz zbB,zbF,if_pos (by simpa using k9),uz zbB,zbF]
   by_cases c7:(kid x 0).kind=7
   ·rw [if_neg (by simp [c7]),zbF]; exact ⟨_,rfl⟩
   ·rw [if_pos (by simp [k9,c7]),zbF]; exact ⟨_,rfl⟩
  obtain ⟨b,hj⟩ := hj
  rw [hj,zbF,chk,if_pos (hin (i:=0) hl zbB),chk,if_pos (hin (y:=kid x 0) (i:=0) hpl zbB)]
  rw [into_some hK hn (vg (vg hn 0) 0) hl]; rfl
 ·obtain ⟨k9,kb⟩ := (row_iff (M:=M) (x:=x)).2.2.2.2.2.1.1 e
  have hl:=l3 k9
  have hp:=vu hr hl (i:=0) zbB
  have hk:(kid x 0).kind=11∧((kid (kid x 0) 0).kind=8∨(kid (kid x 0) 0).kind=7):=by
   rcases kb with kb | kb
   ·obtain ⟨a,b,_⟩ := zaw kb; exact ⟨a,.inl b⟩
   ·obtain ⟨a,b,_⟩ := zaw kb; exact ⟨a,.inr b⟩
  have hpl:(kid x 0).sub.length=1:=(yL hp).2.2.2.2 hk.1
  have hq:=vu hp hpl (i:=0) zbB
  have hql:(kid (kid x 0) 0).sub.length=1:=by have:=zaQ hq; rcases hk.2 with kp | kp <;> rw [kp] at this <;> simp [ye] at this <;> omega
  have hv:yj M x=intoV x (theT (kid (kid (kid x 0) 0) 0) (if besV M (kid x 0) 8 4=2 then (nd M (kid x 0).form).r else (nd M (kid x 0).form).l)) (decide (besV M (kid x 0) 8 4=2)):=by unfold yj; simp only [e]; rfl
  refine ⟨yj M x,?_,rfl,fun _=>rfl⟩
  rw [hv,e]
  show zcP.f K (some M) x=_
  unfold zcP.f
  have hj : ∃ b,zcl.f (some M) x=some (decide (besV M (kid x 0) 8 4=2),b):=by
   unfold zcl.f
   rw [jf zbB hp hf zbA,zbF]
   by_cases c8:besV M (kid x 0) 8 4=2
   ·rw [if_neg (by simp [c8]),zbF]; exact ⟨_,rfl⟩
   ·rw [if_pos (by simp [k9,c8]),jf zbB hp hf zbA,zbF]; exact ⟨_,rfl⟩
  obtain ⟨b,hj⟩ := hj
  rw [hj,zbF,chk,if_pos (hin (i:=0) hl zbB),chk,if_pos (hin (y:=kid x 0) (i:=0) hpl zbB),chk,if_pos (hin (y:=kid (kid x 0) 0) (i:=0) hql zbB),zbv zbB,zbF]
  unfold zce.f
  rw [zbF]
  have hsel:(if decide (besV M (kid x 0) 8 4=2)=true then (nd M (kid x 0).form).r else (nd M (kid x 0).form).l)=(if besV M (kid x 0) 8 4=2 then (nd M (kid x 0).form).r else (nd M (kid x 0).form).l):=by
   by_cases c:besV M (kid x 0) 8 4=2 <;> simp [c]
  show ((zcN.f K x (theT (kid (kid (kid x 0) 0) 0) (if decide (besV M (kid x 0) 8 4=2)=true then (nd M (kid x 0).form).r else (nd M (kid x 0).form).l)) (decide (besV M (kid x 0) 8 4=2))).bind fun r44=>some (r44.1,r44.2))=_
  rw [hsel,into_some hK hn (nm_the (vg (vg (vg hn 0) 0) 0) _) hl]; rfl
 ·have k12:=(row_iff (M:=M) (x:=x)).2.2.2.2.2.2.1.1 e
  have hl:=l2 (.inr k12)
  have hv:yj M x=putV (kid x 1) x.name (kid x 0):=by unfold yj; simp only [e]; rfl
  refine ⟨yj M x,?_,rfl,fun _=>rfl⟩
  rw [hv,e]
  show zcQ.f K (some M) x=_
  unfold zcQ.f
  rw [chk,if_pos (hin (i:=1) hl zbB),chk,if_pos (hin (i:=0) hl zbB),Put14 hK (vg hn 1) (vg hn 0) ((zap _).1 hn).1]; rfl
 ·obtain ⟨k11,_⟩ := (row_iff (M:=M) (x:=x)).2.2.2.2.2.2.2.1.1 e
  have hl:=l1 zbB
  have hv:yj M x=(kid x 0,0):=by unfold yj; simp only [e]; rfl
  refine ⟨yj M x,?_,rfl,fun _=>rfl⟩
  rw [hv,e]
  show zcw.f (some M) x=_
  unfold zcw.f
  rw [chk,if_pos (hin (i:=0) hl zbB)]
end
end
section
open Gw
theorem sizeL_put {n:ByteArray} {k:Int} {nm ot:ByteArray} {m:Nat} : ∀ (l:List PTerm) (i:Nat) (f:Nat→PTerm→PTerm),(∀ j (h:j < l.length),sizeT (f j l[j])=sizeT l[j] + (if xu k nm ot (i + j)=n then 0 else cntT n l[j]) * m)→sizeL (l.mapIdx f)=sizeL l + cntL n k nm ot i l * m
 | [],i,f,_=>by simp [sizeL,cntL]
 | y :: l,i,f,h=>by
  have h0:=h 0 zbC
  have ih:=sizeL_put (n:=n) (k:=k) (nm:=nm) (ot:=ot) (m:=m) l (i + 1) (fun j=>f (j + 1)) (fun j hj=>by
   have:=h (j + 1) (by simpa using hj)
   rw [show i + 1 + j=i + (j + 1) by omega]
   simpa using this)
  rw [List.mapIdx_cons]
  simp only [sizeL,cntL]
  rw [ih]
  simp only [List.getElem_cons_zero,Nat.add_zero] at h0
  rw [h0,Nat.add_mul]; omega
theorem size_put : ∀ (d:Nat) (x:PTerm),depT x ≤ d→rightT x=true → ∀ (n:ByteArray) (y:PTerm),rightT y=true→sizeT x + sizeT y + 4 < 9223372036854775808→sizeT (putT x n y)=sizeT x + cntT n x * (sizeT y - 1)
 | 0,x,h,_,_,_,_,_=>by have:=yW x; omega
 | d + 1,x,h,hr,n,y,hy,hb=>by
  have hd:=yQ x
  have hs:=yI x
  have hsy:=kN y
  by_cases hk:x.kind=1
  ·have h0:x.sub=[]:=(yL hr).1 hk
   have hs1:sizeT x=1:=by rw [hs,h0]; rfl
   rw [put_var n y hk,uq,if_pos hk]
   by_cases e:x.name=n
   ·rw [if_pos e,if_pos e,hs1]; omega
   ·rw [if_neg e,if_neg e]; omega
  rw [vz n y hk,yI,uq,if_neg hk]
  show 1 + sizeL (x.sub.mapIdx fun i p=>putC putT x n y i p)=_
  rw [sizeL_put (n:=n) (k:=x.kind) (nm:=x.name) (ot:=x.other) (m:=sizeT y - 1) x.sub 0 (fun i p=>putC putT x n y i p) (fun j hj=>?_),hs]
  ·omega
  ·rw [Nat.zero_add]
   have hp:depT x.sub[j] ≤ d:=by have:=yV _ (List.getElem_mem hj); omega
   have hsp:sizeT x.sub[j] ≤ sizeL x.sub:=vO (List.getElem_mem hj)
   have hrp:=yp hr hj
   by_cases c1:xc x j=n∨¬ xF n x.sub[j]
   ·rw [putC,if_pos c1]
    rcases c1 with c | c
    ·have c':xu x.kind x.name x.other j=n:=c
     rw [if_pos c']; omega
    ·have g:cntT n x.sub[j]=0:=by unfold xF at c; omega
     rw [g]; split <;> omega
   have c1':xc x j ≠ n∧xF n x.sub[j]:=⟨fun q=>c1 (.inl q),Classical.byContradiction fun q=>c1 (.inr q)⟩
   have c':¬ xu x.kind x.name x.other j=n:=c1'.1
   rw [if_neg c']
   by_cases c3:xc x j ≠ ⟨#[]⟩ ∧ xF (xc x j) y
   ·rw [putC,if_neg c1,if_pos c3]
    obtain ⟨f1,f2,f3⟩ := fresh_ok (p:=x.sub[j]) (y:=y) (n:=n) zbB
    have hvr:rightT (varT (xO x.sub[j] y n))=true:=jT (uj _ _ _)
    have hv1:sizeT (varT (xO x.sub[j] y n))=1:=rfl
    have hq:=kM d _ hp hrp (xc x j) _ hvr
    have hsr:=size_ren x.sub[j] (xc x j) (xO x.sub[j] y n)
    rw [size_put d _ (Nat.le_trans (dep_ren _ _ _) hp) hq n y hy zbB,size_put d _ hp hrp (xc x j) _ hvr zbB,hv1]
    have hcv:cntT n (varT (xO x.sub[j] y n))=0:=by
     rw [uq]; show (if (1:Int)=1 then (if xO x.sub[j] y n=n then 1 else 0) else _)=0
     rw [if_pos rfl,if_neg f3]
    rw [cnt_put d _ hp hrp (xc x j) _ hvr zbB n,hcv,if_neg (fun q=>c1'.1 q.symm)]
    simp
   ·rw [putC,if_neg c1,if_neg c3,size_put d _ hp hrp n y hy zbB]
end
section
open Gw
theorem putV_ok {x:PTerm} {n:ByteArray} {y:PTerm} (h:(putV x n y).2=0):xL x=0∧xL y=0∧isWord n∧(putV x n y).1=putT x n y∧sizeT (putT x n y) ≤ 65536:=by
 unfold putV at h ⊢
 by_cases cx:xL x=0
 rotate_left
 ·rw [if_pos cx] at h; exact absurd h cx
 rw [if_neg (fun q=>q cx)] at h ⊢
 by_cases cy:xL y=0
 rotate_left
 ·rw [if_pos cy] at h; exact absurd h cy
 rw [if_neg (fun q=>q cy)] at h ⊢
 by_cases w:isWord n
 rotate_left
 ·rw [if_pos w] at h; exact absurd h zbA
 rw [if_neg (fun q=>q w)] at h ⊢
 by_cases c:65536 < sizeT x + cntT n x * (sizeT y - 1)∨1024 < gD true n (depT y) x
 ·rw [if_pos c] at h; exact absurd h zbA
 rw [if_neg c]
 obtain ⟨x1,x2,x3⟩ := yz.1 cx
 obtain ⟨y1,y2,y3⟩ := yz.1 cy
 refine ⟨cx,cy,w,rfl,?_⟩
 rw [size_put _ x (Nat.le_refl _) x3 n y y3 zbB]
 omega
section
variable {M:List Nd} {x:PTerm} {K:Nat}
end
end
section
open Gw
mutual
def toldB (M:List Nd):PTerm→Bool
 | .mk k _ _ f s=>(if k=11 then inb f M.length else true) && toldBL M s
def toldBL (M:List Nd):List PTerm→Bool
 | []=>true
 | x :: l=>toldB M x && toldBL M l
end
theorem toldB_eq (M:List Nd) (x:PTerm):toldB M x=((if x.kind=11 then inb x.form M.length else true) && toldBL M x.sub):=by cases x; simp only [toldB]; rfl
theorem toldBL_all (M:List Nd) : ∀ l:List PTerm,toldBL M l=l.all (toldB M)
 | []=>rfl
 | x :: l=>by simp only [toldBL,List.all_cons,toldBL_all M l]
theorem told_kid {M:List Nd} {x:PTerm} (h:toldB M x=true) {i:Nat} (hi:i < x.sub.length):toldB M x.sub[i]=true:=by
 rw [toldB_eq,Bool.and_eq_true_iff,toldBL_all,List.all_eq_true] at h
 exact h.2 _ (List.getElem_mem hi)
theorem told_form {M:List Nd} {x:PTerm} (h:toldB M x=true) (hk:x.kind=11):inb x.form M.length=true:=by
 rw [toldB_eq,Bool.and_eq_true_iff,if_pos hk] at h
 exact h.1
theorem containsB {rec:Tb→PTerm→Option Bool} {T:Tb} {p:PTerm→Bool} {l:List PTerm} (h : ∀ x ∈ l,rec T x=some (p x)) (hl:l.length < 9223372036854775807):zcz.g rec l T=some (!l.all p):=by
 unfold zcz.g zcy.g
 have hf:=zbt (b:=fun i s=>zcy.b0 rec l T i) (p:=fun j => !p (l.getD j PTerm.z)) (r:=fun j=>(j:Int)) l.length 0 () (fun j h1 h2=>by
  have hj:j < l.length:=by omega
  show zcy.b0 rec l T (j:Int)=_
  unfold zcy.b0 zcx.g
  rw [zaI hj,h _ (List.getElem_mem hj),getD_at hj]
  cases p l[j] <;> rfl)
 have hf:forN (fun i s=>zcy.b0 rec l T i) l.length 0 ()=_:=hf
 rw [show ((l.length:Int) - 0).toNat=l.length by omega,hf]
 cases q:(List.range' 0 l.length).find? fun j => !p (l.getD j PTerm.z) with
 | some j =>
  have h1:=List.find?_some q
  have h2:=List.mem_range'_1.1 (List.mem_of_find?_eq_some q)
  have hj:j < l.length:=by omega
  rw [getD_at hj] at h1
  show some (decide ((0:Int) ≤ (j:Int)))=_
  rw [decide_eq_true zbB]
  have:l.all p=false:=List.all_eq_false.2 ⟨_,List.getElem_mem hj,by simpa using h1⟩
  rw [this]; rfl
 | none =>
  have h1:=List.find?_eq_none.1 q
  show some (decide ((0:Int) ≤ -1))=_
  have:l.all p=true:=by
   rw [List.all_eq_true]
   intro y hy
   obtain ⟨j,hj,rfl⟩ := List.getElem_of_mem hy
   have:=h1 j (List.mem_range'_1.2 ⟨by omega,by omega⟩)
   rw [getD_at hj] at this
   simpa using this
  rw [this]; rfl
theorem known14 {M:List Nd} : ∀ (K:Nat) (x:PTerm),depT x ≤ K→rightT x=true→zcA.f K (some M) x=some (toldB M x)
 | 0,x,h,_=>by have:=yW x; omega
 | K + 1,x,h,hr=>by
  have hd:=yQ x
  have h3:=len3 hr
  show zcA.g (zcA.f K) (some M) x=_
  unfold zcA.g zbH.f
  have hh:(if decide (x.kind=11)=true then (some M).map (fun N=>(N.length:Int)) else some 0)=some (if x.kind=11 then (M.length:Int) else 0):=by
   by_cases k:x.kind=11
   ·rw [if_pos (by simpa using k),if_pos k]; rfl
   ·rw [if_neg (by simpa using k),if_neg k]
  rw [hh,zbF,toldB_eq,toldBL_all]
  have hc:=containsB (rec:=zcA.f K) (T:=some M) (p:=toldB M) (l:=x.sub) (fun y hy=>by
   obtain ⟨j,hj,rfl⟩ := List.getElem_of_mem hy
   exact known14 K _ (by have:=yV _ (List.getElem_mem hj); omega) (yp hr hj)) zbB
  by_cases k:x.kind=11
  ·rw [if_pos k,if_pos k]
   have hf:=(xY hr).fm k
   by_cases c:(M.length:Int) ≤ x.form
   ·have:inb x.form M.length=false:=by
     unfold inb; rw [decide_eq_false (p:=x.form < (M.length:Int)) zbB]; simp
    rw [if_pos (by simp [k,c]),this]; rfl
   ·rw [if_neg (by simp [k]; omega),hc,zbF,jz hf.1 zbB,Bool.true_and,Bool.not_not]
  ·rw [if_neg (by simp [k]),hc,zbF,if_neg k,Bool.true_and,Bool.not_not]
end
section
open Gw
def je (M:List Nd) (x:PTerm):Int:=if xL x ≠ 0 then xL x else if toldB M x then 0 else 31
theorem begun14 {M:List Nd} {K:Nat} {x:PTerm} (hK:200000 ≤ K) (hn:nmT x) (hM:M.Nodup):zcC.f K (some M) x=some (decide (je M x=0),je M x):=by
 unfold zcC.f je
 have hc:zcd.f (some M)=some (some M):=by
  unfold zcd.f; rw [chk,if_pos (by simpa using hM)]
 rw [hc,zbF,if_neg zbC,zaD zbB hn,zbF]
 by_cases c:xL x=0
 ·obtain ⟨c1,c2,c3⟩ := yz.1 c
  rw [if_neg (by simpa using c),known14 K x zbB c3,zbF,c]
  unfold zcB.f
  cases toldB M x <;> simp
 ·rw [if_pos (by simpa using c),if_pos c,decide_eq_false c]
theorem ahead_ok {M:List Nd} {x:PTerm}:je M x=0↔(sizeT x ≤ 65536∧depT x ≤ 1024∧rightT x=true)∧toldB M x=true:=by
 unfold je
 rw [← yz]
 by_cases c:xL x=0
 ·rw [if_neg (fun q=>q c)]
  cases h:toldB M x with
  | true=>simp [c]
  | false=>simp
 ·rw [if_pos c]; simp [c]
def doV (M:List Nd):PTerm→List Int→PTerm × Int
 | x,[]=>yj M x
 | x,k :: w=>if k < 0∨(x.sub.length:Int) ≤ k then (PTerm.z,140) else if (doV M (kid x k) w).2 ≠ 0 then (PTerm.z,(doV M (kid x k) w).2) else (⟨x.kind,x.name,x.other,x.form,x.sub.set k.toNat (doV M (kid x k) w).1⟩,0)
theorem kid_form {M:List Nd} {x:PTerm} (ht:toldB M x=true):(kid x 0).kind=11→inb (kid x 0).form M.length=true:=by
 intro h
 by_cases hl:0 < x.sub.length
 ·have e:kid x ((0:Nat):Int)=x.sub[0]:=kid_at hl
  have e':kid x 0=x.sub[0]:=e
  rw [e'] at h ⊢
  exact told_form (told_kid ht hl) h
 ·exfalso
  have h0:x.sub=[]:=List.eq_nil_of_length_eq_zero zbB
  unfold kid at h
  rw [h0] at h
  exact absurd h zbA
theorem do14 {M:List Nd} : ∀ (K:Nat) (x:PTerm) (w:List Int),200000 + depT x ≤ K→nmT x→rightT x=true→toldB M x=true → ∃ p,zcW.f K (some M) x w=some p∧p.2=(doV M x w).2∧(p.2=0→p.1=(doV M x w).1)
 | 0,x,w,h,_,_,_=>by omega
 | K + 1,x,w,h,hn,hr,ht=>by
  have hd:=yQ x
  have hdp:=yW x
  have h3:=len3 hr
  show ∃ p,zcW.g (zcW.f K) K (some M) x w=some p∧_
  unfold zcW.g
  match w with
  | [] =>
   rw [if_pos zbA,fits14 hr (kid_form ht),zbF]
   by_cases c:rowV M x=0
   ·rw [if_pos c,if_pos zbA]
    have hv:yj M x=(PTerm.z,140):=by unfold yj; simp only [c]; rfl
    exact ⟨(PTerm.z,140),rfl,by show _=(yj M x).2; rw [hv],fun q=>absurd q zbA⟩
   ·rw [if_neg c,if_neg zbC]
    obtain ⟨p,e1,e2,e3⟩ := cont14 (K:=K) zbB hr hn (kid_form ht) c
    rw [show ((rowV M x - 1,true):Int × Bool).1=rowV M x - 1 from rfl,e1]
    exact ⟨p,rfl,e2,e3⟩
  | k :: w =>
   rw [if_neg (by simp; omega),chk,if_pos (by simp [inb])]
   have hk:at_ (0:Int) (k :: w) 0=k:=rfl
   rw [hk]
   have hdo:doV M x (k :: w)=if k < 0∨(x.sub.length:Int) ≤ k then (PTerm.z,140) else if (doV M (kid x k) w).2 ≠ 0 then (PTerm.z,(doV M (kid x k) w).2) else (⟨x.kind,x.name,x.other,x.form,x.sub.set k.toNat (doV M (kid x k) w).1⟩,0):=by rw [doV]
   rw [hdo]
   by_cases c:k < 0∨(x.sub.length:Int) ≤ k
   ·rw [if_pos (by simpa using c),if_pos c]
    exact ⟨(PTerm.z,140),rfl,rfl,fun _=>rfl⟩
   ·rw [if_neg (by simpa using c),if_neg c,chk,if_pos (jz zbB zbB),chk,if_pos (by simp; omega)]
    obtain ⟨j,rfl⟩ : ∃ j:Nat,k=j:=⟨k.toNat,by omega⟩
    have hj:j < x.sub.length:=by omega
    have hkj:kid x (j:Int)=x.sub[j]:=kid_at hj
    obtain ⟨p,e1,e2,e3⟩ := do14 K (kid x (j:Int)) w (by rw [hkj]; have:=yV _ (List.getElem_mem hj); omega) (vg hn _) (by rw [hkj]; exact yp hr hj) (by rw [hkj]; exact told_kid ht hj)
    rw [show ((((j:Int) :: w).drop ((1:Int)).toNat))=w from rfl,e1,zbF]
    by_cases z:p.2=0
    ·have z':(doV M (kid x (j:Int)) w).2=0:=by rw [← e2]; exact z
     have hcl:zbO.f x.sub=some x.sub:=by
      unfold zbO.f; rw [chk,if_pos (by simp; omega)]
     rw [if_neg (by simpa using z),if_neg (fun q=>q z'),hcl,zbF,chk,if_pos (jz zbB zbB),e3 z]
     exact ⟨_,rfl,rfl,fun _=>rfl⟩
    ·have z':(doV M (kid x (j:Int)) w).2 ≠ 0:=by rw [← e2]; exact z
     rw [if_pos (by simpa using z),if_pos z']
     exact ⟨_,rfl,e2,fun q=>absurd q z⟩
end
section
open Gw
theorem nm_all : ∀ {l:List PTerm},(∀ y ∈ l,nmT y)→nmL l
 | [],_=>trivial
 | a :: l,h=>⟨h a zbC,nm_all fun y hy=>h y (by simp [hy])⟩
theorem vNm_size (k:Nat):(vNm k).size < 9223372036854775808:=by
 rw [vNm_eq,ba_size]; have:=decK_len 20 k; simp; omega
theorem nm_var {w:ByteArray} (h:w.size < 9223372036854775808):nmT (varT w):=by
 rw [zap]; exact ⟨h,by show (0:Nat) < _; decide,trivial⟩
theorem nmC_size {x:PTerm} (h:x.name.size < 9223372036854775808) (n:ByteArray) (y:PTerm):(nmC x n y).size < 9223372036854775808:=by
 by_cases q:(x.kind=2∨x.kind=12∨x.kind=9)∧renC x n y (if x.kind=2 then 0 else 1) (x.sub.getD (if x.kind=2 then 0 else 1) PTerm.z)
 ·rw [nmC_pos q]; exact vNm_size _
 ·rw [nmC_neg q]; exact h
theorem otC_size {x:PTerm} (h:x.other.size < 9223372036854775808) (n:ByteArray) (y:PTerm):(otC x n y).size < 9223372036854775808:=by
 by_cases q:x.kind=9∧renC x n y 2 (x.sub.getD 2 PTerm.z)
 ·rw [otC_pos q]; exact vNm_size _
 ·rw [otC_neg q]; exact h
theorem nm_put : ∀ (d:Nat) (x:PTerm),depT x ≤ d→nmT x → ∀ (n:ByteArray) (y:PTerm),nmT y→nmT (putT x n y)
 | 0,x,h,_,_,_,_=>by have:=yW x; omega
 | d + 1,x,h,hn,n,y,hy=>by
  have hd:=yQ x
  have hx:=(zap x).1 hn
  by_cases hk:x.kind=1
  ·rw [put_var n y hk]; split
   ·exact hy
   ·exact hn
  rw [vz n y hk,zap]
  refine ⟨nmC_size hx.1 n y,otC_size hx.2.1 n y,nm_all fun z hz=>?_⟩
  have hz:z ∈ x.sub.mapIdx fun i p=>putC putT x n y i p:=hz
  obtain ⟨j,hj,rfl⟩ := List.getElem_of_mem hz
  have hj':j < x.sub.length:=by simpa using hj
  rw [List.getElem_mapIdx]
  have hp:depT x.sub[j] ≤ d:=by have:=yV _ (List.getElem_mem hj'); omega
  have hnp:nmT x.sub[j]:=nm_mem hx.2.2 _ (List.getElem_mem hj')
  unfold putC
  split
  ·exact hnp
  ·split
   ·exact nm_put d _ (Nat.le_trans (dep_ren _ _ _) hp) (nm_put d _ hp hnp _ _ (nm_var (vNm_size _))) n y hy
   ·exact nm_put d _ hp hnp n y hy
theorem nm_putV {x:PTerm} (hx:nmT x) (n:ByteArray) {y:PTerm} (hy:nmT y):nmT (putV x n y).1:=by
 unfold putV
 split
 ·exact nm_z
 ·split
  ·exact nm_z
  ·split
   ·exact nm_z
   ·split
    ·exact nm_z
    ·exact nm_put _ x (Nat.le_refl _) hx n y hy
theorem nm_into {x a:PTerm} (hx:nmT x) (ha:nmT a) (b:Bool):nmT (intoV x a b).1:=by
 unfold intoV; split
 ·exact nm_putV (vg hx 2) _ ha
 ·exact nm_putV (vg hx 1) _ ha
theorem nm_cont {M:List Nd} {x:PTerm} (hx:nmT x):nmT (yj M x).1:=by
 have k:=fun i=>vg hx i
 have k2:=fun i j=>vg (k i) j
 have k3:=fun i j l=>vg (k2 i j) l
 unfold yj
 dsimp only
 split
 ·exact nm_putV (k2 0 0) _ (k 1)
 ·split
  ·split
   ·exact nm_putV (k3 0 0 0) _ (nm_the (k 1) _)
   ·exact nm_the (nm_putV (k3 0 0 0) _ (nm_the (k 1) _)) _
  ·split
   ·show nmT (if x.kind=6 then kid (kid x 0) 1 else kid (kid x 0) 0)
    split
    ·exact k2 0 1
    ·exact k2 0 0
   ·split
    ·show nmT (if x.kind=6 then theT (kid (kid (kid x 0) 0) 1) _ else theT (kid (kid (kid x 0) 0) 0) _)
     split
     ·exact nm_the (k3 0 0 1) _
     ·exact nm_the (k3 0 0 0) _
    ·split
     ·exact nm_into hx (k2 0 0) _
     ·split
      ·exact nm_into hx (nm_the (k3 0 0 0) _) _
      ·split
       ·exact nm_putV (k 1) _ (k 0)
       ·split
        ·exact k 0
        ·exact nm_z
theorem nm_do {M:List Nd} : ∀ (w:List Int) (x:PTerm),nmT x→nmT (doV M x w).1
 | [],x,hx=>by rw [doV]; exact nm_cont hx
 | k :: w,x,hx=>by
  rw [doV]
  split
  ·exact nm_z
  ·split
   ·exact nm_z
   ·have h:=(zap x).1 hx
    rw [zap]
    refine ⟨h.1,h.2.1,nm_all fun y hy=>?_⟩
    rcases List.mem_or_eq_of_mem_set (show y ∈ x.sub.set k.toNat (doV M (kid x k) w).1 from hy) with q | q
    ·exact nm_mem h.2.2 y q
    ·rw [q]; exact nm_do w _ (vg hx k)
end
section
open Gw
theorem rclone14 : ∀ (K:Nat) (x:PTerm),sizeT x + 2 ≤ K→sizeT x ≤ 1000000000→zcT.f K x=some x
 | 0,x,h,_=>by omega
 | K + 1,x,h,hb=>by
  have hs:=yI x
  have hl:=zbw x.sub
  show zcT.g (zcT.f K) x=_
  unfold zcT.g zbO.f
  rw [chk,if_pos (by simp; omega),zbF,PTerm.eta,show ((x.sub.length:Int) - 0).toNat=x.sub.length by omega]
  have hloop:=forS_inv (b:=fun i s=>zcT.b0 (zcT.f K) i s) (inv:=fun _=>x) x.sub.length 0 (fun j _ hj=>by
   have hj:j < x.sub.length:=by omega
   have hm:sizeT x.sub[j] ≤ sizeL x.sub:=vO (List.getElem_mem hj)
   show zcT.b0 (zcT.f K) (j:Int) x=_
   unfold zcT.b0
   rw [chk,if_pos (jz zbB zbB),zaI hj,rclone14 K _ zbB zbB,zbF,chk,if_pos (jz zbB zbB)]
   show some (⟨x.kind,x.name,x.other,x.form,x.sub.set j x.sub[j]⟩ : PTerm)=_
   rw [List.set_getElem_self,PTerm.eta])
  have hloop:forS (fun i s=>zcT.b0 (zcT.f K) i s) x.sub.length 0 x=some x:=hloop
  rw [hloop,zbF,PTerm.eta]
def uy (M:List Nd) (x:PTerm) (w:List Int):PTerm × Int :=
 if (doV M x w).2 ≠ 0 then (PTerm.z,(doV M x w).2) else if xL (doV M x w).1 ≠ 0 then (PTerm.z,121) else ((doV M x w).1,0)
def DoV (M:List Nd) (x:PTerm) (w:List Int):PTerm × Int:=if je M x ≠ 0 then (PTerm.z,je M x) else uy M x w
theorem done14 {M:List Nd} {K:Nat} {x:PTerm} {w:List Int} (hK:300000 ≤ K) (hn:nmT x) (ha:je M x=0):zcX.f K (some M) x w=some (uy M x w):=by
 obtain ⟨⟨a1,a2,a3⟩,a4⟩ := ahead_ok.1 ha
 obtain ⟨p,e1,e2,e3⟩ := do14 K x w zbB hn a3 a4
 unfold zcX.f
 rw [e1,zbF]
 by_cases c:p.2=0
 ·have c':(doV M x w).2=0:=by rw [← e2]; exact c
  rw [if_pos (by simpa using c),e3 c,zaD zbB (nm_do w x hn),zbF]
  by_cases k:xL (doV M x w).1=0
  ·obtain ⟨k1,_,_⟩ := yz.1 k
   have hv:uy M x w=((doV M x w).1,0):=by unfold uy; rw [if_neg (fun q=>q c'),if_neg (fun q=>q k)]
   rw [hv,if_neg (by simp [k]),if_neg (by simpa using c),rclone14 K _ zbB zbB]; rfl
  ·have hv:uy M x w=(PTerm.z,121):=by unfold uy; rw [if_neg (fun q=>q c'),if_pos k]
   rw [hv,if_pos (by simp [c,k]),if_pos zbA]; rfl
 ·have c':(doV M x w).2 ≠ 0:=by rw [← e2]; exact c
  have hv:uy M x w=(PTerm.z,(doV M x w).2):=by unfold uy; rw [if_pos c']
  rw [hv,if_neg (by simpa using c),zbF,if_neg (by simp [c]),if_pos (by simpa using c),e2]; rfl
theorem Do14 {M:List Nd} {K:Nat} {x:PTerm} {w:List Int} (hK:300000 ≤ K) (hn:nmT x) (hM:M.Nodup):zcY.f K (some M) x w=some (DoV M x w):=by
 unfold zcY.f
 rw [begun14 zbB hn hM,zbF]
 by_cases c:je M x=0
 ·have hv:DoV M x w=uy M x w:=by unfold DoV; rw [if_neg (fun q=>q c)]
  rw [hv,if_neg (by simpa using c),chk,if_pos (by simpa using c),done14 hK hn c]; rfl
 ·have hv:DoV M x w=(PTerm.z,je M x):=by unfold DoV; rw [if_pos c]
  rw [hv,if_pos (by simpa using c)]; rfl
end
section
open Gw
end
section
open Gw
end
section
open Gw
mutual
def gaT (M:List Nd):PTerm→List Int→List (List Int)→List (List Int)
 | .mk k n o f s,way,l=>if 1000 ≤ l.length then l else gaL M 0 s way (if rowV M (.mk k n o f s) ≠ 0 then l ++ [way] else l)
def gaL (M:List Nd):Nat→List PTerm→List Int→List (List Int)→List (List Int)
 | _,[],_,l=>l
 | i,y :: r,way,l=>gaL M (i + 1) r way (gaT M y (way ++ [(i:Int)]) l)
end
theorem gaT_eq (M:List Nd) (x:PTerm) (way:List Int) (l:List (List Int)):gaT M x way l=if 1000 ≤ l.length then l else gaL M 0 x.sub way (if rowV M x ≠ 0 then l ++ [way] else l):=by cases x; simp only [gaT]; rfl
theorem gaT_full {M:List Nd} {x:PTerm} {way:List Int} {l:List (List Int)} (h:1000 ≤ l.length):gaT M x way l=l:=by rw [gaT_eq,if_pos h]
theorem gaL_full {M:List Nd} : ∀ {r:List PTerm} {i:Nat} {way:List Int} {l:List (List Int)},1000 ≤ l.length→gaL M i r way l=l
 | [],i,way,l,h=>by simp only [gaL]
 | y :: r,i,way,l,h=>by simp only [gaL]; rw [gaT_full h]; exact gaL_full h
mutual
theorem gaT_len (M:List Nd) : ∀ (x:PTerm) (way:List Int) (l:List (List Int)),l.length ≤ 1000→(gaT M x way l).length ≤ 1000
 | .mk k n o f s,way,l,h=>by
  simp only [gaT]
  split
  ·exact h
  ·refine gaL_len M s 0 way _ ?_
   split
   ·rw [List.length_append,List.length_singleton]; omega
   ·exact h
theorem gaL_len (M:List Nd) : ∀ (r:List PTerm) (i:Nat) (way:List Int) (l:List (List Int)),l.length ≤ 1000→(gaL M i r way l).length ≤ 1000
 | [],i,way,l,h=>by simpa only [gaL] using h
 | y :: r,i,way,l,h=>by simp only [gaL]; exact gaL_len M r (i + 1) way _ (gaT_len M y _ l h)
end
end
end Go.Proofs.YtmggdbbmmkkplaaGreatDoor
