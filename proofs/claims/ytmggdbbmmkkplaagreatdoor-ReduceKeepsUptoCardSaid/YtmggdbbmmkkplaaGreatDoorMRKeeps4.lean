/- Texts put together. -/
import Derived.Test.YtmggdbbmmkkplaaGreatDoorMRKeeps3
import Derived.Laws.BytesArg
set_option linter.unusedVariables false
set_option linter.unusedSimpArgs false
namespace Go.Proofs.YtmggdbbmmkkplaaGreatDoor
section
open Gw Go.RowKit
set_option maxHeartbeats 4000000
set_option maxRecDepth 20000
variable {A:Nat→Prop} {N:Oth} {w:World}
theorem uG {a0:Tb} {a_0:Option Addr} {g_0_1:Option Addr} {a1:PTerm} {s_1:SlV} (S:St A N w w [] [oMa a_0 g_0_1 true,oT g_0_1 a0,zg s_1 a1.sub]) {r:Int × Bool} (H:zcS.f a0 a1=some r) :
  Calls PP ky #[.pointer a_0,.agg (tmC a1 s_1).toArray] w <| Rt fun v w'=>(v = .tuple #[.agg (RRule.C (ju r.1)).toArray,.bool r.2]∧St A N w w' [] []):=by
 unfold zcS.f at H
 refine zy (n:=28) Tryz.func69 rfl rfl zbC (zb (za ?_))
 refine zE rfl zbA fun b2 w1 hw1=>?_
 replace S:=S.new hw1
 refine zQ uL zbA fun b4 w3 hw3=>?_
 replace S:=S.new hw3
 refine wd (zj rfl) (zd (zb (zb (za (wd (zw rfl) ?_)))))
 obtain ⟨p5,s7,hp6,S⟩ := S.see_oMa 0
 replace S:=S
 refine wd (zW (congrArg Value.pointer hp6)) (wd (zf fl_Machine_rules rfl (o':=1) rfl) (wd (zl on_L_reduce_rule rfl ((S.blkZ 0).cell (Machine.get_rules _))) (wd (xN yh rfl (S.rd 1)) (wd (zi rfl) ?_))))
 replace S:=S.zs [1,2,3,4]
 refine zd ?_
 refine zO ?_
 refine wc_rounds 9 ?_
 refine kr (zb (za (wd (xy rfl rfl) (zd (zb ?_)))))
 refine uV rfl (zx (zb ?_))
 refine zO (zb (za (wd (xi yh rfl rfl (S.rd 0) zbA zbA) (wd (zm xm rfl ((S.rd 0).at (y9 RRule.z (And.intro zbA zbA))) (RRule.len _)) ?_))))
 refine zQ uL zbA fun b11 w10 hw10=>?_
 replace S:=S.new hw10
 refine zT xm rfl rfl (S.blk 0) (RRule.len _) (by rw [RRule.len]; decide) (RRule.one _) (xe (RRule.len _)) fun w12 B hw12 zw12=>?_
 replace S:=S.store 0 B hw12
 refine zd (zb ?_)
 obtain ⟨p13,s15,hp14,S⟩ := S.see_oMa 1
 replace S:=S
 refine yt 7 (Ext w12) hmix zbD zbD (Ext.drawn _) (zD (fun v K=>zf vG rfl (o':=0) rfl) (zD (fun v K=>zl xf rfl (((S.ext K).blk 0).cell (RRule.get_fits _))) (zD (fun v K=>zw rfl) (zD (fun v K=>zW (congrArg Value.pointer hp14)) (zD (fun v K=>zf vB rfl (o':=0) rfl) ?_)))))
 refine zD (fun v K=>zl xp rfl (((S.ext K).blkZ 0).cell (Machine.get_t _))) (zD (fun v K=>zm zR rfl (((S.ext K).blk 2).all _ (Term.len _)) (Term.len _)) ?_)
 refine vY fun w16 K=>?_
 replace S:=S.ext K
 clear K
 obtain ⟨r17,er17,H⟩ := zq H
 obtain ⟨_,_,T,bk⟩ := S.calln 0 ((.z 4 rfl (.z 5 rfl .nil)))
 refine zu (y5 ca_reduce_rules_1 rfl) zbA (reduce_rules_1_st (a1:=a1) T er17) ?_
 rintro _ w18 ⟨rfl,S2⟩
 replace S:=bk _ _ _ _ S2 rfl
 replace S:=S.zs [1,2,3,4,5]
 refine zd ?_
 refine zJ rfl (fun hc20=>?_) (fun hc20=>?_)
 ·replace H:=if_t hc20 H
  refine zb (za (wd (zm xm rfl ((S.blk 0).all _ (RRule.len _)) (RRule.len _)) ?_))
  refine zT xm rfl rfl (S.blk 1) (RRule.len _) (by rw [RRule.len]; decide) (RRule.one _) (xe (RRule.len _)) fun w21 B hw21 zw21=>?_
  replace S:=S.store 1 B hw21
  refine wd (zj rfl) (zd (zr ?_))
  refine ⟨_,(xd (yw xm rfl ((S.blk 0).all _ (RRule.len _)) (RRule.len _)) (ze rfl)),?_⟩
  replace S:=S.arr [] []
  obtain rfl:=zbE H
  exact ⟨rfl,S⟩
 replace H:=if_f hc20 H
 refine zx (za (wd (xt rfl rfl (c:=1) rfl zbA zbA) (wd (zi rfl) (zd ?_))))
 refine ⟨rfl,?_⟩
 refine kr (zb (za (wd (xy rfl rfl) (zd (zb ?_)))))
 refine uV rfl (zx (zb ?_))
 refine zO (zb (za (wd (xi yh rfl rfl (S.rd 1) zbA zbA) (wd (zm xm rfl ((S.rd 1).at (y9 RRule.z (And.intro zbA zbA))) (RRule.len _)) ?_))))
 refine zQ uL zbA fun b25 w24 hw24=>?_
 replace S:=S.new hw24
 refine zT xm rfl rfl (S.blk 0) (RRule.len _) (by rw [RRule.len]; decide) (RRule.one _) (xe (RRule.len _)) fun w26 B hw26 zw26=>?_
 replace S:=S.store 0 B hw26
 refine zd (zb ?_)
 obtain ⟨p27,s29,hp28,S⟩ := S.see_oMa 2
 replace S:=S
 refine yt 7 (Ext w26) hmix zbD zbD (Ext.drawn _) (zD (fun v K=>zf vG rfl (o':=0) rfl) (zD (fun v K=>zl xf rfl (((S.ext K).blk 0).cell (RRule.get_fits _))) (zD (fun v K=>zw rfl) (zD (fun v K=>zW (congrArg Value.pointer hp28)) (zD (fun v K=>zf vB rfl (o':=0) rfl) ?_)))))
 refine zD (fun v K=>zl xp rfl (((S.ext K).blkZ 0).cell (Machine.get_t _))) (zD (fun v K=>zm zR rfl (((S.ext K).blk 3).all _ (Term.len _)) (Term.len _)) ?_)
 refine vY fun w30 K=>?_
 replace S:=S.ext K
 clear K
 obtain ⟨r31,er31,H⟩ := zq H
 obtain ⟨_,_,T,bk⟩ := S.calln 0 ((.z 5 rfl (.z 6 rfl .nil)))
 refine zu (y5 ca_reduce_rules_3 rfl) zbA (reduce_rules_3_st (a1:=a1) T er31) ?_
 rintro _ w32 ⟨rfl,S2⟩
 replace S:=bk _ _ _ _ S2 rfl
 replace S:=S.zs [1,2,3,4,5,6]
 refine zd ?_
 refine zJ rfl (fun hc34=>?_) (fun hc34=>?_)
 ·replace H:=if_t hc34 H
  refine zb (za (wd (zm xm rfl ((S.blk 0).all _ (RRule.len _)) (RRule.len _)) ?_))
  refine zT xm rfl rfl (S.blk 2) (RRule.len _) (by rw [RRule.len]; decide) (RRule.one _) (xe (RRule.len _)) fun w35 B hw35 zw35=>?_
  replace S:=S.store 2 B hw35
  refine wd (zj rfl) (zd (zr ?_))
  refine ⟨_,(xd (yw xm rfl ((S.blk 0).all _ (RRule.len _)) (RRule.len _)) (ze rfl)),?_⟩
  replace S:=S.arr [] []
  obtain rfl:=zbE H
  exact ⟨rfl,S⟩
 replace H:=if_f hc34 H
 refine zx (za (wd (xt rfl rfl (c:=2) rfl zbA zbA) (wd (zi rfl) (zd ?_))))
 refine ⟨rfl,?_⟩
 refine kr (zb (za (wd (xy rfl rfl) (zd (zb ?_)))))
 refine uV rfl (zx (zb ?_))
 refine zO (zb (za (wd (xi yh rfl rfl (S.rd 2) zbA zbA) (wd (zm xm rfl ((S.rd 2).at (y9 RRule.z (And.intro zbA zbA))) (RRule.len _)) ?_))))
 refine zQ uL zbA fun b39 w38 hw38=>?_
 replace S:=S.new hw38
 refine zT xm rfl rfl (S.blk 0) (RRule.len _) (by rw [RRule.len]; decide) (RRule.one _) (xe (RRule.len _)) fun w40 B hw40 zw40=>?_
 replace S:=S.store 0 B hw40
 refine zd (zb ?_)
 obtain ⟨p41,s43,hp42,S⟩ := S.see_oMa 3
 replace S:=S
 refine yt 7 (Ext w40) hmix zbD zbD (Ext.drawn _) (zD (fun v K=>zf vG rfl (o':=0) rfl) (zD (fun v K=>zl xf rfl (((S.ext K).blk 0).cell (RRule.get_fits _))) (zD (fun v K=>zw rfl) (zD (fun v K=>zW (congrArg Value.pointer hp42)) (zD (fun v K=>zf vB rfl (o':=0) rfl) ?_)))))
 refine zD (fun v K=>zl xp rfl (((S.ext K).blkZ 0).cell (Machine.get_t _))) (zD (fun v K=>zm zR rfl (((S.ext K).blk 4).all _ (Term.len _)) (Term.len _)) ?_)
 refine vY fun w44 K=>?_
 replace S:=S.ext K
 clear K
 obtain ⟨r45,er45,H⟩ := zq H
 obtain ⟨_,_,T,bk⟩ := S.calln 0 ((.z 6 rfl (.z 7 rfl .nil)))
 refine zu (y5 ca_reduce_rules_5 rfl) zbA (reduce_rules_5_st (a1:=a1) T er45) ?_
 rintro _ w46 ⟨rfl,S2⟩
 replace S:=bk _ _ _ _ S2 rfl
 replace S:=S.zs [1,2,3,4,5,6,7]
 refine zd ?_
 refine zJ rfl (fun hc48=>?_) (fun hc48=>?_)
 ·replace H:=if_t hc48 H
  refine zb (za (wd (zm xm rfl ((S.blk 0).all _ (RRule.len _)) (RRule.len _)) ?_))
  refine zT xm rfl rfl (S.blk 3) (RRule.len _) (by rw [RRule.len]; decide) (RRule.one _) (xe (RRule.len _)) fun w49 B hw49 zw49=>?_
  replace S:=S.store 3 B hw49
  refine wd (zj rfl) (zd (zr ?_))
  refine ⟨_,(xd (yw xm rfl ((S.blk 0).all _ (RRule.len _)) (RRule.len _)) (ze rfl)),?_⟩
  replace S:=S.arr [] []
  obtain rfl:=zbE H
  exact ⟨rfl,S⟩
 replace H:=if_f hc48 H
 refine zx (za (wd (xt rfl rfl (c:=3) rfl zbA zbA) (wd (zi rfl) (zd ?_))))
 refine ⟨rfl,?_⟩
 refine kr (zb (za (wd (xy rfl rfl) (zd (zb ?_)))))
 refine uV rfl (zx (zb ?_))
 refine zO (zb (za (wd (xi yh rfl rfl (S.rd 3) zbA zbA) (wd (zm xm rfl ((S.rd 3).at (y9 RRule.z (And.intro zbA zbA))) (RRule.len _)) ?_))))
 refine zQ uL zbA fun b53 w52 hw52=>?_
 replace S:=S.new hw52
 refine zT xm rfl rfl (S.blk 0) (RRule.len _) (by rw [RRule.len]; decide) (RRule.one _) (xe (RRule.len _)) fun w54 B hw54 zw54=>?_
 replace S:=S.store 0 B hw54
 refine zd (zb ?_)
 obtain ⟨p55,s57,hp56,S⟩ := S.see_oMa 4
 replace S:=S
 refine yt 7 (Ext w54) hmix zbD zbD (Ext.drawn _) (zD (fun v K=>zf vG rfl (o':=0) rfl) (zD (fun v K=>zl xf rfl (((S.ext K).blk 0).cell (RRule.get_fits _))) (zD (fun v K=>zw rfl) (zD (fun v K=>zW (congrArg Value.pointer hp56)) (zD (fun v K=>zf vB rfl (o':=0) rfl) ?_)))))
 refine zD (fun v K=>zl xp rfl (((S.ext K).blkZ 0).cell (Machine.get_t _))) (zD (fun v K=>zm zR rfl (((S.ext K).blk 5).all _ (Term.len _)) (Term.len _)) ?_)
 refine vY fun w58 K=>?_
 replace S:=S.ext K
 clear K
 obtain ⟨r59,er59,H⟩ := zq H
 obtain ⟨_,_,T,bk⟩ := S.calln 0 ((.z 7 rfl (.z 8 rfl .nil)))
 refine zu (y5 ca_reduce_rules_7 rfl) zbA (reduce_rules_7_st (a1:=a1) T er59) ?_
 rintro _ w60 ⟨rfl,S2⟩
 replace S:=bk _ _ _ _ S2 rfl
 replace S:=S.zs (rg 1 8)
 refine zd ?_
 refine zJ rfl (fun hc62=>?_) (fun hc62=>?_)
 ·replace H:=if_t hc62 H
  refine zb (za (wd (zm xm rfl ((S.blk 0).all _ (RRule.len _)) (RRule.len _)) ?_))
  refine zT xm rfl rfl (S.blk 4) (RRule.len _) (by rw [RRule.len]; decide) (RRule.one _) (xe (RRule.len _)) fun w63 B hw63 zw63=>?_
  replace S:=S.store 4 B hw63
  refine wd (zj rfl) (zd (zr ?_))
  refine ⟨_,(xd (yw xm rfl ((S.blk 0).all _ (RRule.len _)) (RRule.len _)) (ze rfl)),?_⟩
  replace S:=S.arr [] []
  obtain rfl:=zbE H
  exact ⟨rfl,S⟩
 replace H:=if_f hc62 H
 refine zx (za (wd (xt rfl rfl (c:=4) rfl zbA zbA) (wd (zi rfl) (zd ?_))))
 refine ⟨rfl,?_⟩
 refine kr (zb (za (wd (xy rfl rfl) (zd (zb ?_)))))
 refine uV rfl (zx (zb ?_))
 refine zO (zb (za (wd (xi yh rfl rfl (S.rd 4) zbA zbA) (wd (zm xm rfl ((S.rd 4).at (y9 RRule.z (And.intro zbA zbA))) (RRule.len _)) ?_))))
 refine zQ uL zbA fun b67 w66 hw66=>?_
 replace S:=S.new hw66
 refine zT xm rfl rfl (S.blk 0) (RRule.len _) (by rw [RRule.len]; decide) (RRule.one _) (xe (RRule.len _)) fun w68 B hw68 zw68=>?_
 replace S:=S.store 0 B hw68
 refine zd (zb ?_)
 obtain ⟨p69,s71,hp70,S⟩ := S.see_oMa 5
 replace S:=S
 refine yt 7 (Ext w68) hmix zbD zbD (Ext.drawn _) (zD (fun v K=>zf vG rfl (o':=0) rfl) (zD (fun v K=>zl xf rfl (((S.ext K).blk 0).cell (RRule.get_fits _))) (zD (fun v K=>zw rfl) (zD (fun v K=>zW (congrArg Value.pointer hp70)) (zD (fun v K=>zf vB rfl (o':=0) rfl) ?_)))))
 refine zD (fun v K=>zl xp rfl (((S.ext K).blkZ 0).cell (Machine.get_t _))) (zD (fun v K=>zm zR rfl (((S.ext K).blk 6).all _ (Term.len _)) (Term.len _)) ?_)
 refine vY fun w72 K=>?_
 replace S:=S.ext K
 clear K
 obtain ⟨r73,er73,H⟩ := zq H
 obtain ⟨_,_,T,bk⟩ := S.calln 0 ((.z 8 rfl (.z 9 rfl .nil)))
 refine zu (y5 ca_reduce_rules_9 rfl) zbA (reduce_rules_9_st (a1:=a1) T er73) ?_
 rintro _ w74 ⟨rfl,S2⟩
 replace S:=bk _ _ _ _ S2 rfl
 replace S:=S.zs (rg 1 9)
 refine zd ?_
 refine zJ rfl (fun hc76=>?_) (fun hc76=>?_)
 ·replace H:=if_t hc76 H
  refine zb (za (wd (zm xm rfl ((S.blk 0).all _ (RRule.len _)) (RRule.len _)) ?_))
  refine zT xm rfl rfl (S.blk 5) (RRule.len _) (by rw [RRule.len]; decide) (RRule.one _) (xe (RRule.len _)) fun w77 B hw77 zw77=>?_
  replace S:=S.store 5 B hw77
  refine wd (zj rfl) (zd (zr ?_))
  refine ⟨_,(xd (yw xm rfl ((S.blk 0).all _ (RRule.len _)) (RRule.len _)) (ze rfl)),?_⟩
  replace S:=S.arr [] []
  obtain rfl:=zbE H
  exact ⟨rfl,S⟩
 replace H:=if_f hc76 H
 refine zx (za (wd (xt rfl rfl (c:=5) rfl zbA zbA) (wd (zi rfl) (zd ?_))))
 refine ⟨rfl,?_⟩
 refine kr (zb (za (wd (xy rfl rfl) (zd (zb ?_)))))
 refine uV rfl (zx (zb ?_))
 refine zO (zb (za (wd (xi yh rfl rfl (S.rd 5) zbA zbA) (wd (zm xm rfl ((S.rd 5).at (y9 RRule.z (And.intro zbA zbA))) (RRule.len _)) ?_))))
 refine zQ uL zbA fun b81 w80 hw80=>?_
 replace S:=S.new hw80
 refine zT xm rfl rfl (S.blk 0) (RRule.len _) (by rw [RRule.len]; decide) (RRule.one _) (xe (RRule.len _)) fun w82 B hw82 zw82=>?_
 replace S:=S.store 0 B hw82
 refine zd (zb ?_)
 obtain ⟨p83,s85,hp84,S⟩ := S.see_oMa 6
 replace S:=S
 refine yt 7 (Ext w82) hmix zbD zbD (Ext.drawn _) (zD (fun v K=>zf vG rfl (o':=0) rfl) (zD (fun v K=>zl xf rfl (((S.ext K).blk 0).cell (RRule.get_fits _))) (zD (fun v K=>zw rfl) (zD (fun v K=>zW (congrArg Value.pointer hp84)) (zD (fun v K=>zf vB rfl (o':=0) rfl) ?_)))))
 refine zD (fun v K=>zl xp rfl (((S.ext K).blkZ 0).cell (Machine.get_t _))) (zD (fun v K=>zm zR rfl (((S.ext K).blk 7).all _ (Term.len _)) (Term.len _)) ?_)
 refine vY fun w86 K=>?_
 replace S:=S.ext K
 clear K
 obtain ⟨r87,er87,H⟩ := zq H
 obtain ⟨_,_,T,bk⟩ := S.calln 0 ((.z 9 rfl (.z 10 rfl .nil)))
 refine zu (y5 ca_reduce_rules_11 rfl) zbA (reduce_rules_11_st (a1:=a1) T er87) ?_
 rintro _ w88 ⟨rfl,S2⟩
 replace S:=bk _ _ _ _ S2 rfl
 replace S:=S.zs (rg 1 10)
 refine zd ?_
 refine zJ rfl (fun hc90=>?_) (fun hc90=>?_)
 ·replace H:=if_t hc90 H
  refine zb (za (wd (zm xm rfl ((S.blk 0).all _ (RRule.len _)) (RRule.len _)) ?_))
  refine zT xm rfl rfl (S.blk 6) (RRule.len _) (by rw [RRule.len]; decide) (RRule.one _) (xe (RRule.len _)) fun w91 B hw91 zw91=>?_
  replace S:=S.store 6 B hw91
  refine wd (zj rfl) (zd (zr ?_))
  refine ⟨_,(xd (yw xm rfl ((S.blk 0).all _ (RRule.len _)) (RRule.len _)) (ze rfl)),?_⟩
  replace S:=S.arr [] []
  obtain rfl:=zbE H
  exact ⟨rfl,S⟩
 replace H:=if_f hc90 H
 refine zx (za (wd (xt rfl rfl (c:=6) rfl zbA zbA) (wd (zi rfl) (zd ?_))))
 refine ⟨rfl,?_⟩
 refine kr (zb (za (wd (xy rfl rfl) (zd (zb ?_)))))
 refine uV rfl (zx (zb ?_))
 refine zO (zb (za (wd (xi yh rfl rfl (S.rd 6) zbA zbA) (wd (zm xm rfl ((S.rd 6).at (y9 RRule.z (And.intro zbA zbA))) (RRule.len _)) ?_))))
 refine zQ uL zbA fun b95 w94 hw94=>?_
 replace S:=S.new hw94
 refine zT xm rfl rfl (S.blk 0) (RRule.len _) (by rw [RRule.len]; decide) (RRule.one _) (xe (RRule.len _)) fun w96 B hw96 zw96=>?_
 replace S:=S.store 0 B hw96
 refine zd (zb ?_)
 obtain ⟨p97,s99,hp98,S⟩ := S.see_oMa 7
 replace S:=S
 refine yt 7 (Ext w96) hmix zbD zbD (Ext.drawn _) (zD (fun v K=>zf vG rfl (o':=0) rfl) (zD (fun v K=>zl xf rfl (((S.ext K).blk 0).cell (RRule.get_fits _))) (zD (fun v K=>zw rfl) (zD (fun v K=>zW (congrArg Value.pointer hp98)) (zD (fun v K=>zf vB rfl (o':=0) rfl) ?_)))))
 refine zD (fun v K=>zl xp rfl (((S.ext K).blkZ 0).cell (Machine.get_t _))) (zD (fun v K=>zm zR rfl (((S.ext K).blk 8).all _ (Term.len _)) (Term.len _)) ?_)
 refine vY fun w100 K=>?_
 replace S:=S.ext K
 clear K
 obtain ⟨r101,er101,H⟩ := zq H
 obtain ⟨_,_,T,bk⟩ := S.calln 0 ((.z 10 rfl (.z 11 rfl .nil)))
 refine zu (y5 ca_reduce_rules_13 rfl) zbA (reduce_rules_13_st (a1:=a1) T er101) ?_
 rintro _ w102 ⟨rfl,S2⟩
 replace S:=bk _ _ _ _ S2 rfl
 replace S:=S.zs (rg 1 11)
 refine zd ?_
 refine zJ rfl (fun hc104=>?_) (fun hc104=>?_)
 ·replace H:=if_t hc104 H
  refine zb (za (wd (zm xm rfl ((S.blk 0).all _ (RRule.len _)) (RRule.len _)) ?_))
  refine zT xm rfl rfl (S.blk 7) (RRule.len _) (by rw [RRule.len]; decide) (RRule.one _) (xe (RRule.len _)) fun w105 B hw105 zw105=>?_
  replace S:=S.store 7 B hw105
  refine wd (zj rfl) (zd (zr ?_))
  refine ⟨_,(xd (yw xm rfl ((S.blk 0).all _ (RRule.len _)) (RRule.len _)) (ze rfl)),?_⟩
  replace S:=S.arr [] []
  obtain rfl:=zbE H
  exact ⟨rfl,S⟩
 replace H:=if_f hc104 H
 refine zx (za (wd (xt rfl rfl (c:=7) rfl zbA zbA) (wd (zi rfl) (zd ?_))))
 refine ⟨rfl,?_⟩
 refine kr (zb (za (wd (xy rfl rfl) (zd (zb ?_)))))
 refine uV rfl (zx (zb ?_))
 refine zO (zb (za (wd (xi yh rfl rfl (S.rd 7) zbA zbA) (wd (zm xm rfl ((S.rd 7).at (y9 RRule.z (And.intro zbA zbA))) (RRule.len _)) ?_))))
 refine zQ uL zbA fun b109 w108 hw108=>?_
 replace S:=S.new hw108
 refine zT xm rfl rfl (S.blk 0) (RRule.len _) (by rw [RRule.len]; decide) (RRule.one _) (xe (RRule.len _)) fun w110 B hw110 zw110=>?_
 replace S:=S.store 0 B hw110
 refine zd (zb ?_)
 obtain ⟨p111,s113,hp112,S⟩ := S.see_oMa 8
 replace S:=S
 refine yt 7 (Ext w110) hmix zbD zbD (Ext.drawn _) (zD (fun v K=>zf vG rfl (o':=0) rfl) (zD (fun v K=>zl xf rfl (((S.ext K).blk 0).cell (RRule.get_fits _))) (zD (fun v K=>zw rfl) (zD (fun v K=>zW (congrArg Value.pointer hp112)) (zD (fun v K=>zf vB rfl (o':=0) rfl) ?_)))))
 refine zD (fun v K=>zl xp rfl (((S.ext K).blkZ 0).cell (Machine.get_t _))) (zD (fun v K=>zm zR rfl (((S.ext K).blk 9).all _ (Term.len _)) (Term.len _)) ?_)
 refine vY fun w114 K=>?_
 replace S:=S.ext K
 clear K
 obtain ⟨r115,er115,H⟩ := zq H
 obtain ⟨_,_,T,bk⟩ := S.calln 0 ((.z 11 rfl (.z 12 rfl .nil)))
 refine zu (y5 ca_reduce_rules_15 rfl) zbA (reduce_rules_15_st (a1:=a1) T er115) ?_
 rintro _ w116 ⟨rfl,S2⟩
 replace S:=bk _ _ _ _ S2 rfl
 replace S:=S.zs (rg 1 12)
 refine zd ?_
 refine zJ rfl (fun hc118=>?_) (fun hc118=>?_)
 ·replace H:=if_t hc118 H
  refine zb (za (wd (zm xm rfl ((S.blk 0).all _ (RRule.len _)) (RRule.len _)) ?_))
  refine zT xm rfl rfl (S.blk 8) (RRule.len _) (by rw [RRule.len]; decide) (RRule.one _) (xe (RRule.len _)) fun w119 B hw119 zw119=>?_
  replace S:=S.store 8 B hw119
  refine wd (zj rfl) (zd (zr ?_))
  refine ⟨_,(xd (yw xm rfl ((S.blk 0).all _ (RRule.len _)) (RRule.len _)) (ze rfl)),?_⟩
  replace S:=S.arr [] []
  obtain rfl:=zbE H
  exact ⟨rfl,S⟩
 replace H:=if_f hc118 H
 refine zx (za (wd (xt rfl rfl (c:=8) rfl zbA zbA) (wd (zi rfl) (zd ?_))))
 refine ⟨rfl,?_⟩
 refine kr (zb (za (wd (xy rfl rfl) (zd (zb ?_)))))
 refine ku rfl ?_
 refine x0 (zb (za (wd (vr j7 Bld.nil) ?_)))
 refine zT xm rfl rfl (S.blk 8) (RRule.len _) (by rw [RRule.len]; decide) (RRule.one _) (xe (RRule.len _)) fun w121 B hw121 zw121=>?_
 replace S:=S.store 8 B hw121
 refine wd (zj rfl) (zd (zr ?_))
 refine ⟨_,(xd (yw xm rfl ((S.blk 0).all _ (RRule.len _)) (RRule.len _)) (ze rfl)),?_⟩
 replace S:=S.arr [] []
 obtain rfl:=zbE H
 exact ⟨rfl,S⟩
theorem reduce_clone_gst {zdY:PTerm→Option PTerm} (zdI : ∀ {A:Nat→Prop} {N:Oth} {w:World} {a0:PTerm} {s_0:SlV} (S:St A N w w [] [zg s_0 a0.sub]) {r:PTerm} (H:zdY a0=some r),Calls PP ja #[.agg (tmC a0 s_0).toArray] w <| Rt fun v w'=>(∃ so0:SlV,v = .agg (tmC r so0).toArray∧St A N w w' [] [zg so0 r.sub])) {A:Nat→Prop} {N:Oth} {w:World} {a0:PTerm} {s_0:SlV} (S:St A N w w [] [zg s_0 a0.sub]) {r:PTerm} (H:zcT.g zdY a0=some r) :
  Calls PP ja #[.agg (tmC a0 s_0).toArray] w <| Rt fun v w'=>(∃ so0:SlV,v = .agg (tmC r so0).toArray∧St A N w w' [] [zg so0 r.sub]):=by
 unfold zcT.g at H
 refine zy (n:=26) Tryz.func52 rfl rfl zbC (zb (za ?_))
 refine zE rfl zbA fun b2 w1 hw1=>?_
 replace S:=S.new hw1
 refine zQ xC zbA fun b4 w3 hw3=>?_
 replace S:=S.new hw3
 refine zd (zb (za (wd (zf zG rfl (o':=4) rfl) (wd (zl zB rfl ((S.blk 1).cell (Term.get_sub _))) ?_))))
 obtain ⟨r6,er6,H⟩ := zq H
 obtain ⟨_,_,T,bk⟩ := S.sub [0] [] [oB b4 zo (Term.C tmZ),oB b2 zo (tmC a0 s_0)]
 refine zu (zt yE) zbA (yF T er6) ?_
 rintro _ w5 ⟨s8,m9,rfl,S2⟩
 replace S:=bk _ _ _ _ _ S2 rfl rfl
 refine wd (zf zG rfl (o':=4) rfl) ?_
 refine yJ zB rfl rfl (S.blk 2) (by rw [Term.len]; decide) (SlV.one _ _ rfl) (Term.set_sub _ _) fun w10 B hw10 zw10=>?_
 replace S:=S.store 2 B hw10
 refine zd (zb (zb (za (wd (zf zG rfl (o':=4) rfl) (wd (zl zB rfl ((S.blk 0).cell (Term.get_sub _))) (wd (Does.val (xN zz rfl (S.rdO 1)) (by rw [(S.lenTm 0)])) (wd (zi rfl) (zd ?_))))))))
 replace S:=(S.nil zo 5 Term.C).bigTm
 have hb11:=(show r6.length ≤ 140737488355328 from (S.lenTm 1) ▸ S.lenO 2)
 obtain ⟨o11,e11,Ho11⟩ := zq H
 clear H
 refine xV ([3] ++ rg 11 14) (fun fr W => ∃ s12:SlV,∃ m13:List Term,St A N w W [oS zo 5 Term.C SlV.nil ([]:List Term),oB b2 zo (tmC o11 s12),oS zo 5 Term.C s12 m13,oB b4 zo (Term.C tmZ)] [bigA xx ([]:List Term) ([]:List PTerm),bigA xx m13 o11.sub,zg s_0 a0.sub]) ?_ ?_
 ·refine zO ?_
  refine xR (α:=Nat × Int × PTerm) ([3] ++ rg 11 14) (fun x fr W=>(x.1:Int)=(r6.length:Int) - x.2.1∧0 ≤ x.2.1∧forS (fun i s=>zcT.b0 zdY i s) x.1 x.2.1 x.2.2=some o11 ∧ ∃ s14:SlV,∃ m15:List Term,fr 11 = .int .i64 x.2.1∧St A N w W [oS zo 5 Term.C SlV.nil ([]:List Term),oB b2 zo (tmC (x.2.2) s14),oS zo 5 Term.C s14 m15,oB b4 zo (Term.C tmZ)] [bigA xx ([]:List Term) ([]:List PTerm),bigA xx m15 (x.2.2).sub,zg s_0 a0.sub]) (fun x=>x.1) (((r6.length:Int) - 0).toNat,0,(⟨a0.kind,a0.name,a0.other,a0.form,r6⟩ : PTerm)) ⟨(by dsimp only; have hle:=Int.natCast_nonneg (r6.length); omega),(Int.le_refl _),(by dsimp only; exact e11),s8,m9,rfl,S⟩ ?_
  rintro ⟨m11,i11,x11_0⟩ g11 u11 ⟨hm11,hl11,e11,s16,m17,q11_i,S⟩
  try dsimp only at hm11
  try dsimp only at hl11
  try dsimp only at e11
  try dsimp only at S
  try dsimp only at q11_i
  refine zb (za (wd (xy q11_i rfl) (zd (zb ?_))))
  refine zJ rfl (fun hc18=>?_) (fun hc18=>?_)
  rotate_left
  ·refine x0 ?_
   have hge:(r6.length:Int) ≤ i11:=Int.not_lt.1 (of_decide_eq_false hc18)
   obtain rfl:m11=0:=by omega
   replace e11:=forS_0 e11
   obtain rfl:=e11
   exact ⟨rfl,df,s16,m17,S⟩
  refine zx ?_
  have hlt11:i11 < (r6.length:Int):=of_decide_eq_true hc18
  obtain ⟨m11,rfl⟩ : ∃ m,m11=m + 1:=⟨m11 - 1,by omega⟩
  obtain ⟨q11,H,e11⟩ := forS_s e11
  unfold zcT.b0 at H
  try dsimp only at H
  refine zb ?_
  refine zO (zb (za (wd (zi q11_i) (wd (zh rfl) (zd ?_)))))
  obtain ⟨hi20,H⟩ := xb H
  obtain ⟨r23,er23,H⟩ := zq H
  refine vh 9 ⟨fun _ _=>True,fun _ _ _=>True,fun i v _=>match i with
   | 0=>v=Value.pointer (some ⟨b2,4,none⟩)
   | 1=>v=s16.v
   | 2=>v=Value.int .i64 i11
   | 3=>v=Value.pointer (some ⟨b2,4,none⟩)
   | 4=>v=s16.v
   | 5=>v=Value.int .i64 i11
   | 6=>v=Value.pointer (some ⟨s16.blk,s16.off + Int.toNat i11 * 5,none⟩)
   | _=>True⟩ (fun L g v => ∃ Z27:List OA,(∀ z ∈ [bigA xx ([]:List Term) ([]:List PTerm),bigA xx m17 x11_0.sub,zg s_0 a0.sub],z ∈ Z27)∧Made L g Z27 7 21 (fun (c:SlV)=>Value.agg (tmC (kd x11_0 i11) c).toArray) (fun (c:SlV)=>[zg c ((kd x11_0 i11).sub)])∧Made L g Z27 8 22 (fun (c:SlV)=>Value.agg (tmC r23 c).toArray) (fun (c:SlV)=>[zg c r23.sub])∧St A N w v [oS zo 5 Term.C SlV.nil ([]:List Term),oB b2 zo (tmC x11_0 s16),oS zo 5 Term.C s16 m17,oB b4 zo (Term.C tmZ)] Z27) hmix zbD (fun _ _ _ _ _ _ _ hv=>hv) (fun g=>⟨_,fun _ h=>h,Made.no,Made.no,S.ext (Ext.drawn _)⟩) ⟨?_,?_,?_,?_,?_,?_,?_,?_,?_,trivial⟩ ?_
  ·rintro L g v hL hcl hclo ⟨Z27,hZ,hm7,hm8,S⟩ 
   refine wd (zf zG rfl (o':=4) rfl) ?_
   exact w4 rfl ⟨_,hZ,hm7.keep rfl rfl tl0,hm8.keep rfl rfl tl0,S⟩
  ·rintro L g v hL hcl hclo ⟨Z27,hZ,hm7,hm8,S⟩ hv0
   refine wd (zl zB hv0 ((S.blk 1).cell (Term.get_sub _))) ?_
   exact w4 rfl ⟨_,hZ,hm7.keep rfl rfl tl0,hm8.keep rfl rfl tl0,S⟩
  ·rintro L g v hL hcl hclo ⟨Z27,hZ,hm7,hm8,S⟩ 
   refine wd (zi rfl) ?_
   exact w4 rfl ⟨_,hZ,hm7.keep rfl rfl tl0,hm8.keep rfl rfl tl0,S⟩
  ·rintro L g v hL hcl hclo ⟨Z27,hZ,hm7,hm8,S⟩ 
   refine wd (zf zG rfl (o':=4) rfl) ?_
   exact w4 rfl ⟨_,hZ,hm7.keep rfl rfl tl0,hm8.keep rfl rfl tl0,S⟩
  ·rintro L g v hL hcl hclo ⟨Z27,hZ,hm7,hm8,S⟩ hv3
   refine wd (zl zB hv3 ((S.blk 1).cell (Term.get_sub _))) ?_
   exact w4 rfl ⟨_,hZ,hm7.keep rfl rfl tl0,hm8.keep rfl rfl tl0,S⟩
  ·rintro L g v hL hcl hclo ⟨Z27,hZ,hm7,hm8,S⟩ 
   refine wd (zi rfl) ?_
   exact w4 rfl ⟨_,hZ,hm7.keep rfl rfl tl0,hm8.keep rfl rfl tl0,S⟩
  ·rintro L g v hL hcl hclo ⟨Z27,hZ,hm7,hm8,S⟩ hv4 hv5
   replace S:=(S.zneed hZ)
   refine wd (xi zz hv4 hv5 (S.rdO 2) (zM hi20).1 (by rw [(S.lenTm 1)]; exact (zM hi20).2)) ?_
   exact w4 rfl ⟨_,(fun z h=>tl3 z (hZ z h)),hm7.keep rfl rfl tl3,hm8.keep rfl rfl tl3,S⟩
  ·rintro L g v hL hcl hclo ⟨Z27,hZ,hm7,hm8,S⟩ hv6
   replace S:=(S.zneed hZ)
   obtain ⟨s32,hc33,S⟩ := S.viewH 2 1 (zM hi20)
   replace S:=S
   refine wd (zm zR hv6 hc33 (Term.len _)) ?_
   exact w4 trivial ⟨_,(fun z h=>tl4 z (hZ z h)),Made.one (val:=(fun (c:SlV)=>Value.agg (tmC (kd x11_0 i11) c).toArray)) (ps:=(fun (c:SlV)=>[zg c ((kd x11_0 i11).sub)])) s32 (yf List.mem_cons_self yC),hm8.keep rfl rfl tl4,S⟩
  ·rintro L g v hL hcl hclo ⟨Z27,hZ,hm7,hm8,S⟩ _
   obtain ⟨s21,he7,hp7⟩ := hm7 (hcl 7 zbD)
   replace S:=(S.zneed (xG (l1:=[zg s21 ((kd x11_0 i11).sub)]) hp7 hZ))
   obtain ⟨_,_,T,bk⟩ := S.sub [0] [] [oS zo 5 Term.C SlV.nil ([]:List Term),oB b2 zo (tmC x11_0 s16),oS zo 5 Term.C s16 m17,oB b4 zo (Term.C tmZ)]
   refine zu (zF jG (zK he7 rfl)) zbA (zdI (a0:=(kd x11_0 i11)) T er23) ?_
   rintro _ w35 ⟨s37,rfl,S2⟩
   replace S:=bk _ _ _ _ _ S2 rfl rfl
   exact w4 trivial ⟨_,(fun z h=>tl5 z (hZ z h)),hm7.keep rfl rfl tl5,Made.one (val:=(fun (c:SlV)=>Value.agg (tmC r23 c).toArray)) (ps:=(fun (c:SlV)=>[zg c r23.sub])) s37 (yf List.mem_cons_self yC),S⟩
  rintro L g w38 hLm ⟨Z27,hZ,hm7,hm8,S⟩ hv39_0 hv39_1 hv39_2 hv39_3 hv39_4 hv39_5 hv39_6 _ _
  have hLt : ∀ j,j < 9→L j=true:=fun j hj=>by rw [hLm]; exact decide_eq_true hj
  obtain ⟨s21,hv39_7,hp7⟩ := hm7 (hLt 7 zbA)
  obtain ⟨s26,hv39_8,hp8⟩ := hm8 (hLt 8 zbA)
  replace S:=S.pickZ (xG (l1:=[zg s21 ((kd x11_0 i11).sub)]) hp7 (xG (l1:=[zg s26 r23.sub]) hp8 hZ))
  clear hp7 hp8 hZ hm7 hm8
  obtain ⟨hi40,H⟩ := xb H
  refine wd (xi zz hv39_1 hv39_2 (S.rdO 2) (zM hi40).1 (by rw [(S.lenTm 3)]; exact (zM hi40).2)) ?_
  have hlw41:=S.lenO 2
  have hqw41:=(S.lenTm 3)
  refine zaC (C:=Term.C) (a:=(tmT r23 s26)) zR rfl hv39_8 (S.sl 2) ⟨(zM hi40).1,by rw [hqw41]; exact (zM hi40).2⟩ (Term.len _) (Term.one _) fun w41 O hw41=>?_
  replace S:=S.push 2 O (by rw [List.length_set]; exact hlw41) hw41 (fun i hi => .inl hi)
  clear O hlw41 hqw41
  replace S:=S.setTm (x:=r23) 3 1 (Int.toNat i11)
  refine zd (za (wd (xt q11_i rfl (c:=i11 + 1) rfl zbB zbB) (wd (zi rfl) (zd ?_))))
  replace S:=S.arr [1,2,0,3] [3,0,5]
  obtain rfl:=zbE H
  exact ⟨rfl,df,(m11,i11 + 1,(⟨x11_0.kind,x11_0.name,x11_0.other,x11_0.form,x11_0.sub.set (Int.toNat i11) r23⟩ : PTerm)),⟨(by dsimp only; omega),(by dsimp only; omega),e11,s16,m17.set (Int.toNat i11) (tmT r23 s26),rfl,S⟩,by dsimp only; omega⟩
 rintro g42 u43 ⟨s12,m13,S⟩
 have H:=Ho11
 refine zb (za ?_)
 replace S:=S.frzTm 2 1
 refine wd (ldT rfl (S.blk 1)) ?_
 refine wsT rfl rfl (S.blk 2) fun w44 B hw44 zw44=>?_
 replace S:=S.store 2 B hw44
 refine zd (zr ?_)
 refine ⟨_,(zS (rtT rfl (S.blk 0))),?_⟩
 replace S:=S.arr [] [0]
 obtain rfl:=zbE H
 exact ⟨s12,rfl,S⟩
theorem zar {a0:PTerm} {s_0:SlV} (S:St A N w w [] [zg s_0 a0.sub]) {k:Nat} {r:PTerm} (H:zcT.f k a0=some r) :
  Calls PP ja #[.agg (tmC a0 s_0).toArray] w <| Rt fun v w'=>(∃ so0:SlV,v = .agg (tmC r so0).toArray∧St A N w w' [] [zg so0 r.sub]):=by
 have main : ∀ (k:Nat) {A:Nat→Prop} {N:Oth} {w:World} {a0:PTerm} {s_0:SlV} (S:St A N w w [] [zg s_0 a0.sub]) {r:PTerm} (H:zcT.f k a0=some r),Calls PP ja #[.agg (tmC a0 s_0).toArray] w <| Rt fun v w'=>(∃ so0:SlV,v = .agg (tmC r so0).toArray∧St A N w w' [] [zg so0 r.sub]):=by
  intro k
  induction k with
  | zero=>intro A N w a0 s_0 S r H; cases H
  | succ k ih=>intro A N w a0 s_0 S r H; exact reduce_clone_gst ih S H
 exact main k S H
theorem reduce_strip_gst {zed:PTerm→Option PTerm} (zdN : ∀ {A:Nat→Prop} {N:Oth} {w:World} {a0:PTerm} {s_0:SlV} (S:St A N w w [] [zg s_0 a0.sub]) {r:PTerm} (H:zed a0=some r),Calls PP jb #[.agg (tmC a0 s_0).toArray] w <| Rt fun v w'=>(∃ so0:SlV,v = .agg (tmC r so0).toArray∧St A N w w' [] [zg so0 r.sub])) {A:Nat→Prop} {N:Oth} {w:World} {a0:PTerm} {s_0:SlV} (S:St A N w w [] [zg s_0 a0.sub]) {r:PTerm} (H:zcU.g zed a0=some r) :
  Calls PP jb #[.agg (tmC a0 s_0).toArray] w <| Rt fun v w'=>(∃ so0:SlV,v = .agg (tmC r so0).toArray∧St A N w w' [] [zg so0 r.sub]):=by
 unfold zcU.g at H
 refine zy (n:=34) Tryz.func46 rfl rfl zbC (zb (za ?_))
 refine zE rfl zbA fun b2 w1 hw1=>?_
 replace S:=S.new hw1
 refine zQ xC zbA fun b4 w3 hw3=>?_
 replace S:=S.new hw3
 refine zd (zb (zb (za (wd (zf xj rfl (o':=0) rfl) (wd (zl zY rfl ((S.blk 1).cell (Term.get_kind _))) (wd (zV rfl rfl) (zd ?_)))))))
 refine zJ rfl (fun hc5=>?_) (fun hc5=>?_)
 ·replace H:=if_t hc5 H
  refine zb (za (wd (zf zG rfl (o':=4) rfl) (wd (zl zB rfl ((S.blk 1).cell (Term.get_sub _))) ?_)))
  obtain ⟨hi6,H⟩ := xb H
  refine wd (does_indexF zz rfl rfl (S.onZ 0) (zM hi6).1 (zM hi6).2) ?_
  obtain ⟨s7,hc8,S⟩ := S.viewTerm 0 (zM hi6)
  replace S:=S
  refine wd (ldC rfl hc8) ?_
  obtain ⟨r9,er9,H⟩ := zq H
  obtain ⟨_,_,T,bk⟩ := S.sub [0] [] [oB b4 zo (Term.C tmZ),oB b2 zo (tmC a0 s_0)]
  refine zu (zt zan) zbA (zdN (a0:=(kd a0 0)) T er9) ?_
  rintro _ w10 ⟨s12,rfl,S2⟩
  replace S:=bk _ _ _ _ _ S2 rfl rfl
  refine wsT rfl rfl (S.blk 0) fun w13 B hw13 zw13=>?_
  replace S:=S.store 0 B hw13
  refine zd (zr ?_)
  refine ⟨_,(zS (rtT rfl (S.blk 0))),?_⟩
  replace S:=S.arr [] [0]
  obtain rfl:=zbE H
  exact ⟨s12,rfl,S⟩
 replace H:=if_f hc5 H
 refine zx (zb (za (wd (zf zG rfl (o':=4) rfl) (wd (zl zB rfl ((S.blk 1).cell (Term.get_sub _))) ?_))))
 obtain ⟨r15,er15,H⟩ := zq H
 obtain ⟨_,_,T,bk⟩ := S.sub [0] [] [oB b4 zo (Term.C tmZ),oB b2 zo (tmC a0 s_0)]
 refine zu (zt yE) zbA (yF T er15) ?_
 rintro _ w14 ⟨s17,m18,rfl,S2⟩
 replace S:=bk _ _ _ _ _ S2 rfl rfl
 refine wd (zf zG rfl (o':=4) rfl) ?_
 refine yJ zB rfl rfl (S.blk 2) (by rw [Term.len]; decide) (SlV.one _ _ rfl) (Term.set_sub _ _) fun w19 B hw19 zw19=>?_
 replace S:=S.store 2 B hw19
 refine zd (zb (zb (za (wd (zf zG rfl (o':=4) rfl) (wd (zl zB rfl ((S.blk 0).cell (Term.get_sub _))) (wd (Does.val (xN zz rfl (S.rdO 1)) (by rw [(S.lenTm 0)])) (wd (zi rfl) (zd ?_))))))))
 replace S:=(S.nil zo 5 Term.C).bigTm
 have hb20:=(show r15.length ≤ 140737488355328 from (S.lenTm 1) ▸ S.lenO 2)
 obtain ⟨o20,e20,Ho20⟩ := zq H
 clear H
 refine xV ([3] ++ rg 19 14) (fun fr W => ∃ s21:SlV,∃ m22:List Term,St A N w W [oS zo 5 Term.C SlV.nil ([]:List Term),oB b2 zo (tmC o20 s21),oS zo 5 Term.C s21 m22,oB b4 zo (Term.C tmZ)] [bigA xx ([]:List Term) ([]:List PTerm),bigA xx m22 o20.sub,zg s_0 a0.sub]) ?_ ?_
 ·refine zO ?_
  refine xR (α:=Nat × Int × PTerm) ([3] ++ rg 19 14) (fun x fr W=>(x.1:Int)=(r15.length:Int) - x.2.1∧0 ≤ x.2.1∧forS (fun i s=>zcU.b0 zed i s) x.1 x.2.1 x.2.2=some o20 ∧ ∃ s23:SlV,∃ m24:List Term,fr 19 = .int .i64 x.2.1∧St A N w W [oS zo 5 Term.C SlV.nil ([]:List Term),oB b2 zo (tmC (x.2.2) s23),oS zo 5 Term.C s23 m24,oB b4 zo (Term.C tmZ)] [bigA xx ([]:List Term) ([]:List PTerm),bigA xx m24 (x.2.2).sub,zg s_0 a0.sub]) (fun x=>x.1) (((r15.length:Int) - 0).toNat,0,(⟨a0.kind,a0.name,a0.other,a0.form,r15⟩ : PTerm)) ⟨(by dsimp only; have hle:=Int.natCast_nonneg (r15.length); omega),(Int.le_refl _),(by dsimp only; exact e20),s17,m18,rfl,S⟩ ?_
  rintro ⟨m20,i20,x20_0⟩ g20 u20 ⟨hm20,hl20,e20,s25,m26,q20_i,S⟩
  try dsimp only at hm20
  try dsimp only at hl20
  try dsimp only at e20
  try dsimp only at S
  try dsimp only at q20_i
  refine zb (za (wd (xy q20_i rfl) (zd (zb ?_))))
  refine zJ rfl (fun hc27=>?_) (fun hc27=>?_)
  rotate_left
  ·refine x0 ?_
   have hge:(r15.length:Int) ≤ i20:=Int.not_lt.1 (of_decide_eq_false hc27)
   obtain rfl:m20=0:=by omega
   replace e20:=forS_0 e20
   obtain rfl:=e20
   exact ⟨rfl,df,s25,m26,S⟩
  refine zx ?_
  have hlt20:i20 < (r15.length:Int):=of_decide_eq_true hc27
  obtain ⟨m20,rfl⟩ : ∃ m,m20=m + 1:=⟨m20 - 1,by omega⟩
  obtain ⟨q20,H,e20⟩ := forS_s e20
  unfold zcU.b0 at H
  try dsimp only at H
  refine zb ?_
  refine zO (zb (za (wd (zi q20_i) (wd (zh rfl) (zd ?_)))))
  obtain ⟨hi29,H⟩ := xb H
  obtain ⟨r32,er32,H⟩ := zq H
  refine vh 9 ⟨fun _ _=>True,fun _ _ _=>True,fun i v _=>match i with
   | 0=>v=Value.pointer (some ⟨b2,4,none⟩)
   | 1=>v=s25.v
   | 2=>v=Value.int .i64 i20
   | 3=>v=Value.pointer (some ⟨b2,4,none⟩)
   | 4=>v=s25.v
   | 5=>v=Value.int .i64 i20
   | 6=>v=Value.pointer (some ⟨s25.blk,s25.off + Int.toNat i20 * 5,none⟩)
   | _=>True⟩ (fun L g v => ∃ Z36:List OA,(∀ z ∈ [bigA xx ([]:List Term) ([]:List PTerm),bigA xx m26 x20_0.sub,zg s_0 a0.sub],z ∈ Z36)∧Made L g Z36 7 29 (fun (c:SlV)=>Value.agg (tmC (kd x20_0 i20) c).toArray) (fun (c:SlV)=>[zg c ((kd x20_0 i20).sub)])∧Made L g Z36 8 30 (fun (c:SlV)=>Value.agg (tmC r32 c).toArray) (fun (c:SlV)=>[zg c r32.sub])∧St A N w v [oS zo 5 Term.C SlV.nil ([]:List Term),oB b2 zo (tmC x20_0 s25),oS zo 5 Term.C s25 m26,oB b4 zo (Term.C tmZ)] Z36) hmix zbD (fun _ _ _ _ _ _ _ hv=>hv) (fun g=>⟨_,fun _ h=>h,Made.no,Made.no,S.ext (Ext.drawn _)⟩) ⟨?_,?_,?_,?_,?_,?_,?_,?_,?_,trivial⟩ ?_
  ·rintro L g v hL hcl hclo ⟨Z36,hZ,hm7,hm8,S⟩ 
   refine wd (zf zG rfl (o':=4) rfl) ?_
   exact w4 rfl ⟨_,hZ,hm7.keep rfl rfl tl0,hm8.keep rfl rfl tl0,S⟩
  ·rintro L g v hL hcl hclo ⟨Z36,hZ,hm7,hm8,S⟩ hv0
   refine wd (zl zB hv0 ((S.blk 1).cell (Term.get_sub _))) ?_
   exact w4 rfl ⟨_,hZ,hm7.keep rfl rfl tl0,hm8.keep rfl rfl tl0,S⟩
  ·rintro L g v hL hcl hclo ⟨Z36,hZ,hm7,hm8,S⟩ 
   refine wd (zi rfl) ?_
   exact w4 rfl ⟨_,hZ,hm7.keep rfl rfl tl0,hm8.keep rfl rfl tl0,S⟩
  ·rintro L g v hL hcl hclo ⟨Z36,hZ,hm7,hm8,S⟩ 
   refine wd (zf zG rfl (o':=4) rfl) ?_
   exact w4 rfl ⟨_,hZ,hm7.keep rfl rfl tl0,hm8.keep rfl rfl tl0,S⟩
  ·rintro L g v hL hcl hclo ⟨Z36,hZ,hm7,hm8,S⟩ hv3
   refine wd (zl zB hv3 ((S.blk 1).cell (Term.get_sub _))) ?_
   exact w4 rfl ⟨_,hZ,hm7.keep rfl rfl tl0,hm8.keep rfl rfl tl0,S⟩
  ·rintro L g v hL hcl hclo ⟨Z36,hZ,hm7,hm8,S⟩ 
   refine wd (zi rfl) ?_
   exact w4 rfl ⟨_,hZ,hm7.keep rfl rfl tl0,hm8.keep rfl rfl tl0,S⟩
  ·rintro L g v hL hcl hclo ⟨Z36,hZ,hm7,hm8,S⟩ hv4 hv5
   replace S:=(S.zneed hZ)
   refine wd (xi zz hv4 hv5 (S.rdO 2) (zM hi29).1 (by rw [(S.lenTm 1)]; exact (zM hi29).2)) ?_
   exact w4 rfl ⟨_,(fun z h=>tl3 z (hZ z h)),hm7.keep rfl rfl tl3,hm8.keep rfl rfl tl3,S⟩
  ·rintro L g v hL hcl hclo ⟨Z36,hZ,hm7,hm8,S⟩ hv6
   replace S:=(S.zneed hZ)
   obtain ⟨s41,hc42,S⟩ := S.viewH 2 1 (zM hi29)
   replace S:=S
   refine wd (zm zR hv6 hc42 (Term.len _)) ?_
   exact w4 trivial ⟨_,(fun z h=>tl4 z (hZ z h)),Made.one (val:=(fun (c:SlV)=>Value.agg (tmC (kd x20_0 i20) c).toArray)) (ps:=(fun (c:SlV)=>[zg c ((kd x20_0 i20).sub)])) s41 (yf List.mem_cons_self yC),hm8.keep rfl rfl tl4,S⟩
  ·rintro L g v hL hcl hclo ⟨Z36,hZ,hm7,hm8,S⟩ _
   obtain ⟨s30,he7,hp7⟩ := hm7 (hcl 7 zbD)
   replace S:=(S.zneed (xG (l1:=[zg s30 ((kd x20_0 i20).sub)]) hp7 hZ))
   obtain ⟨_,_,T,bk⟩ := S.sub [0] [] [oS zo 5 Term.C SlV.nil ([]:List Term),oB b2 zo (tmC x20_0 s25),oS zo 5 Term.C s25 m26,oB b4 zo (Term.C tmZ)]
   refine zu (zF zan (zK he7 rfl)) zbA (zdN (a0:=(kd x20_0 i20)) T er32) ?_
   rintro _ w44 ⟨s46,rfl,S2⟩
   replace S:=bk _ _ _ _ _ S2 rfl rfl
   exact w4 trivial ⟨_,(fun z h=>tl5 z (hZ z h)),hm7.keep rfl rfl tl5,Made.one (val:=(fun (c:SlV)=>Value.agg (tmC r32 c).toArray)) (ps:=(fun (c:SlV)=>[zg c r32.sub])) s46 (yf List.mem_cons_self yC),S⟩
  rintro L g w47 hLm ⟨Z36,hZ,hm7,hm8,S⟩ hv48_0 hv48_1 hv48_2 hv48_3 hv48_4 hv48_5 hv48_6 _ _
  have hLt : ∀ j,j < 9→L j=true:=fun j hj=>by rw [hLm]; exact decide_eq_true hj
  obtain ⟨s30,hv48_7,hp7⟩ := hm7 (hLt 7 zbA)
  obtain ⟨s35,hv48_8,hp8⟩ := hm8 (hLt 8 zbA)
  replace S:=S.pickZ (xG (l1:=[zg s30 ((kd x20_0 i20).sub)]) hp7 (xG (l1:=[zg s35 r32.sub]) hp8 hZ))
  clear hp7 hp8 hZ hm7 hm8
  obtain ⟨hi49,H⟩ := xb H
  refine wd (xi zz hv48_1 hv48_2 (S.rdO 2) (zM hi49).1 (by rw [(S.lenTm 3)]; exact (zM hi49).2)) ?_
  have hlw50:=S.lenO 2
  have hqw50:=(S.lenTm 3)
  refine zaC (C:=Term.C) (a:=(tmT r32 s35)) zR rfl hv48_8 (S.sl 2) ⟨(zM hi49).1,by rw [hqw50]; exact (zM hi49).2⟩ (Term.len _) (Term.one _) fun w50 O hw50=>?_
  replace S:=S.push 2 O (by rw [List.length_set]; exact hlw50) hw50 (fun i hi => .inl hi)
  clear O hlw50 hqw50
  replace S:=S.setTm (x:=r32) 3 1 (Int.toNat i20)
  refine zd (za (wd (xt q20_i rfl (c:=i20 + 1) rfl zbB zbB) (wd (zi rfl) (zd ?_))))
  replace S:=S.arr [1,2,0,3] [3,0,5]
  obtain rfl:=zbE H
  exact ⟨rfl,df,(m20,i20 + 1,(⟨x20_0.kind,x20_0.name,x20_0.other,x20_0.form,x20_0.sub.set (Int.toNat i20) r32⟩ : PTerm)),⟨(by dsimp only; omega),(by dsimp only; omega),e20,s25,m26.set (Int.toNat i20) (tmT r32 s35),rfl,S⟩,by dsimp only; omega⟩
 rintro g51 u52 ⟨s21,m22,S⟩
 have H:=Ho20
 refine zb (za ?_)
 replace S:=S.frzTm 2 1
 refine wd (ldT rfl (S.blk 1)) ?_
 refine wsT rfl rfl (S.blk 2) fun w53 B hw53 zw53=>?_
 replace S:=S.store 2 B hw53
 refine zd (zr ?_)
 refine ⟨_,(zS (rtT rfl (S.blk 0))),?_⟩
 replace S:=S.arr [] [0]
 obtain rfl:=zbE H
 exact ⟨s21,rfl,S⟩
theorem reduce_strip_st {a0:PTerm} {s_0:SlV} (S:St A N w w [] [zg s_0 a0.sub]) {k:Nat} {r:PTerm} (H:zcU.f k a0=some r) :
  Calls PP jb #[.agg (tmC a0 s_0).toArray] w <| Rt fun v w'=>(∃ so0:SlV,v = .agg (tmC r so0).toArray∧St A N w w' [] [zg so0 r.sub]):=by
 have main : ∀ (k:Nat) {A:Nat→Prop} {N:Oth} {w:World} {a0:PTerm} {s_0:SlV} (S:St A N w w [] [zg s_0 a0.sub]) {r:PTerm} (H:zcU.f k a0=some r),Calls PP jb #[.agg (tmC a0 s_0).toArray] w <| Rt fun v w'=>(∃ so0:SlV,v = .agg (tmC r so0).toArray∧St A N w w' [] [zg so0 r.sub]):=by
  intro k
  induction k with
  | zero=>intro A N w a0 s_0 S r H; cases H
  | succ k ih=>intro A N w a0 s_0 S r H; exact reduce_strip_gst ih S H
 exact main k S H
theorem reduce_Strip_st {a0:PTerm} {s_0:SlV} (S:St A N w w [] [zg s_0 a0.sub]) {k:Nat} {r:PTerm × Int} (H:zcV.f k a0=some r) :
  Calls PP F_reduce_Strip #[.agg (tmC a0 s_0).toArray] w <| Rt fun v w'=>(∃ so0:SlV,v = .tuple #[.agg (tmC r.1 so0).toArray,.int .i64 r.2]∧St A N w w' [] [zg so0 r.1.sub]):=by
 unfold zcV.f at H
 refine zy (n:=13) Tryz.func18 rfl rfl zbC (zb (za ?_))
 refine zE rfl zbA fun b2 w1 hw1=>?_
 replace S:=S.new hw1
 refine zQ xC zbA fun b4 w3 hw3=>?_
 replace S:=S.new hw3
 refine wd (zh rfl) (zd (zb (zb (za (wd (ldT rfl (S.blk 1)) ?_)))))
 obtain ⟨r5,er5,H⟩ := zq H
 obtain ⟨_,_,T,bk⟩ := S.calln 0 ((.z 0 rfl .nil))
 refine zu (zt uM) zbA (uO (a0:=a0) T er5) ?_
 rintro _ w6 ⟨rfl,S2⟩
 replace S:=bk _ _ _ _ S2 rfl
 refine wd (zh rfl) (zd (zb (za (wd (zi rfl) (wd (xr rfl rfl) (zd ?_))))))
 refine zJ rfl (fun hc8=>?_) (fun hc8=>?_)
 ·replace H:=if_t hc8 H
  refine zb (za (wd (Does.to (v' := .agg (Term.C tmZ).toArray) (z1 (vs:=[]) yP rfl Bld.nil) rfl) (wd (zi rfl) ?_)))
  refine wsT rfl rfl (S.blk 0) fun w9 B hw9 zw9=>?_
  replace S:=S.store 0 B hw9
  refine wd (zh rfl) (zd (zr ?_))
  replace S:=S.nilTm
  refine ⟨_,(xd (rtT rfl (S.blk 0)) (ze rfl)),?_⟩
  replace S:=S.arr [] [0]
  obtain rfl:=zbE H
  exact ⟨SlV.nil,rfl,S⟩
 replace H:=if_f hc8 H
 refine zx (zb (za (wd (ldT rfl (S.blk 1)) ?_)))
 obtain ⟨r10,er10,H⟩ := zq H
 obtain ⟨_,_,T,bk⟩ := S.sub [0] [] [oB b4 zo (Term.C tmZ),oB b2 zo (tmC a0 s_0)]
 refine zu (zt zan) zbA (reduce_strip_st (a0:=a0) T er10) ?_
 rintro _ w11 ⟨s13,rfl,S2⟩
 replace S:=bk _ _ _ _ _ S2 rfl rfl
 refine wsT rfl rfl (S.blk 0) fun w14 B hw14 zw14=>?_
 replace S:=S.store 0 B hw14
 refine wd (zh rfl) (zd (zr ?_))
 refine ⟨_,(xd (rtT rfl (S.blk 0)) (ze rfl)),?_⟩
 replace S:=S.arr [] [0]
 obtain rfl:=zbE H
 exact ⟨s13,rfl,S⟩
theorem reduce_machine_do_gst {zea:Tb→PTerm→List Int→Option (PTerm × Int)} (zdK : ∀ {A:Nat→Prop} {N:Oth} {w:World} {a0:Tb} {a_0:Option Addr} {g_0_1:Option Addr} {a1:PTerm} {s_1:SlV} {a2:List Int} {s_2:SlV} (S:St A N w w [] [oMa a_0 g_0_1 true,oT g_0_1 a0,zg s_1 a1.sub,fS 1 IC s_2 a2,oPw]) {r:PTerm × Int} (H:zea a0 a1 a2=some r),Calls PP vx #[.pointer a_0,.agg (tmC a1 s_1).toArray,s_2.v] w <| Rt fun v w'=>(∃ so0:SlV,v = .tuple #[.agg (tmC r.1 so0).toArray,.int .i64 r.2]∧St A N w w' [] [zg so0 r.1.sub])) {A:Nat→Prop} {N:Oth} {w:World} {a0:Tb} {a_0:Option Addr} {g_0_1:Option Addr} {a1:PTerm} {s_1:SlV} {a2:List Int} {s_2:SlV} (S:St A N w w [] [oMa a_0 g_0_1 true,oT g_0_1 a0,zg s_1 a1.sub,fS 1 IC s_2 a2,oPw]) {k:Nat} {r:PTerm × Int} (H:zcW.g zea k a0 a1 a2=some r) :
  Calls PP vx #[.pointer a_0,.agg (tmC a1 s_1).toArray,s_2.v] w <| Rt fun v w'=>(∃ so0:SlV,v = .tuple #[.agg (tmC r.1 so0).toArray,.int .i64 r.2]∧St A N w w' [] [zg so0 r.1.sub]):=by
 unfold zcW.g at H
 refine zy (n:=74) Tryz.func70 rfl rfl zbC (zb (za ?_))
 refine zE rfl zbA fun b2 w1 hw1=>?_
 replace S:=S.new hw1
 refine zQ xC zbA fun b4 w3 hw3=>?_
 replace S:=S.new hw3
 refine wd (zh rfl) (zd (zb (zb (za (wd (zP rfl) (wd (xN xI rfl (S.rd 3)) (wd (zV rfl rfl) (zd ?_))))))))
 refine zJ rfl (fun hc5=>?_) (fun hc5=>?_)
 ·replace H:=if_t hc5 H
  refine zb (za (wd (zw rfl) (wd (ldT rfl (S.blk 1)) ?_)))
  obtain ⟨r6,er6,H⟩ := zq H
  obtain ⟨_,_,T,bk⟩ := S.calln 0 ((.z 0 rfl (.z 1 rfl (.z 2 rfl .nil))))
  refine zu (zt uC) zbA (uG (a1:=a1) T er6) ?_
  rintro _ w7 ⟨rfl,S2⟩
  replace S:=bk _ _ _ _ S2 rfl
  refine wd (zU rfl) (wd (zn rfl rfl) (wd (zn rfl rfl) ?_))
  refine zQ uL zbA fun b10 w9 hw9=>?_
  replace S:=S.new hw9
  refine zT xm rfl rfl (S.blk 0) (RRule.len _) (by rw [RRule.len]; decide) (RRule.one _) (xe (RRule.len _)) fun w11 B hw11 zw11=>?_
  replace S:=S.store 0 B hw11
  refine wd (zj rfl) (zd (zb (zb (za (wd (zA rfl) (wd (xg rfl) (zd ?_)))))))
  refine zJ rfl (fun hc12=>?_) (fun hc12=>?_)
  ·replace H:=if_t hc12 H
   refine zb (za (wd (Does.to (v' := .agg (Term.C tmZ).toArray) (z1 (vs:=[]) yP rfl Bld.nil) rfl) ?_))
   refine wsT rfl rfl (S.blk 1) fun w13 B hw13 zw13=>?_
   replace S:=S.store 1 B hw13
   refine wd (zh rfl) (zd (zr ?_))
   replace S:=S.nilTm
   refine ⟨_,(xd (rtT rfl (S.blk 0)) (ze rfl)),?_⟩
   replace S:=S.arr [] [0]
   obtain rfl:=zbE H
   exact ⟨SlV.nil,rfl,S⟩
  replace H:=if_f hc12 H
  refine zx (zb ?_)
  obtain ⟨p14,s16,hp15,S⟩ := S.see_oMa 0
  replace S:=S
  refine wc_ws hmix fun w18 K=>?_
  replace S:=S.ext K
  clear K
  refine vp 0 7 [] zbD zbA zbD
   (V:=fun i v u=>match i with
   | _=>True) ?_ ?_
  ·intro i v u u' hi hx hv
   match i,hv with
   | _,_=>exact trivial
  refine zC (fun v K=>zf fl_RRule_does rfl (o':=1) rfl) rfl (zC (fun v K=>zl vN rfl (((S.ext K).blk 0).cell (RRule.get_does _))) rfl (zC (fun v K=>zw rfl) rfl (zC (fun v K=>zW (congrArg Value.pointer hp15)) rfl (zC (fun v K=>zf vB rfl (o':=0) rfl) rfl (zC (fun v K=>zl xp rfl (((S.ext K).blkZ 0).cell (Machine.get_t _))) rfl ?_)))))
  refine zC (fun v K=>zm zR rfl (((S.ext K).blk 2).all _ (Term.len _)) (Term.len _)) rfl ?_
  refine y8 fun g w19 K hV=>?_
  replace S:=S.ext K
  clear K hV
  refine jE 7 8 zbD zbA ?_
  obtain ⟨r21,er21,H⟩ := zq H
  obtain ⟨_,_,T,bk⟩ := S.sub [3,4,6] [] [oB b10 jF (RRule.C (ju r6.1)),oB b4 zo (Term.C tmZ),oB b2 zo (tmC a1 s_1)]
  refine zu (does_callvg (ca_rule_does r6.1) ((rfl:_=(ju r6.1).does.v).trans (rule_does_v er21)) (zK rfl (zK rfl rfl))) zbA (rule_does_st (a1:=a1) T er21) ?_
  rintro _ w22 ⟨s24,rfl,S2⟩
  replace S:=bk _ _ _ _ _ S2 rfl rfl
  refine zd ⟨rfl,?_⟩
  refine vp 8 10 [] zbD zbA zbD
   (V:=fun i v u=>match i with
   | _=>True) ?_ ?_
  ·intro i v u u' hi hx hv
   match i,hv with
   | _,_=>exact trivial
  refine zC (fun v K=>zn rfl rfl) rfl (zC (fun v K=>zn rfl rfl) rfl ?_)
  refine y8 fun g w25 K hV=>?_
  replace S:=S.ext K
  clear K hV
  refine kT 10 zbD zbA ?_
  refine wsT rfl rfl (S.blk 1) fun w27 B hw27 zw27=>?_
  replace S:=S.store 1 B hw27
  refine wd (zh rfl) ?_
  replace S:=S.zs [0,2,3,4,5,6,7]
  refine zd (zr ?_)
  refine ⟨_,(xd (rtT rfl (S.blk 0)) (ze rfl)),?_⟩
  replace S:=S.arr [] [0]
  obtain rfl:=zbE H
  exact ⟨s24,rfl,S⟩
 replace H:=if_f hc5 H
 refine zx (zb (za (wd (zP rfl) ?_)))
 obtain ⟨hi28,H⟩ := xb H
 refine wd (xi xI rfl rfl (S.rd 3) (zM hi28).1 (zM hi28).2) (wd (zl xv rfl ((S.rd 3).one (y9 (0:Int) (zM hi28)) rfl)) (wd (zh rfl) (zd (zb (zb (za (wd (zi rfl) ?_)))))))
 refine wd (xy rfl rfl) (wd (zA rfl) ?_)
 refine wg (fun hg=>zi rfl) ?_
 refine wg (fun hg=>zf zG rfl (o':=4) rfl) ?_
 refine wg (fun hg=>zl zB (zp hg) ((S.blk 1).cell (Term.get_sub _))) ?_
 refine wg (fun hg=>does_lenF zz (zp hg) (S.onZ 2)) ?_
 refine wg (fun hg=>jo (zp hg) (zp hg)) (wd (xJ rfl (fun hp=>(zp (xz hp)))) (zd ?_))
 refine zJ rfl (fun hc29=>?_) (fun hc29=>?_)
 ·replace H:=if_t hc29 H
  refine zb (za (wd (Does.to (v' := .agg (Term.C tmZ).toArray) (z1 (vs:=[]) yP rfl Bld.nil) rfl) ?_))
  refine wsT rfl rfl (S.blk 0) fun w30 B hw30 zw30=>?_
  replace S:=S.store 0 B hw30
  refine wd (zh rfl) (zd (zr ?_))
  replace S:=S.nilTm
  refine ⟨_,(xd (rtT rfl (S.blk 0)) (ze rfl)),?_⟩
  replace S:=S.arr [] [0]
  obtain rfl:=zbE H
  exact ⟨SlV.nil,rfl,S⟩
 replace H:=if_f hc29 H
 refine zx (zb ?_)
 obtain ⟨hi35,H⟩ := xb H
 obtain ⟨hs37,H⟩ := xb H
 obtain ⟨r38,er38,H⟩ := zq H
 obtain ⟨s36,S⟩ := S.viewTermC 2 (zM hi35)
 replace S:=S.zs [2,3,4,5,6,0,1]
 refine vh 14 ⟨fun _ _=>True,fun _ _ _=>True,fun i v _=>match i with
  | 0=>v=Value.pointer a_0
  | 1=>v=Value.pointer (some ⟨b2,4,none⟩)
  | 2=>v=s_1.v
  | 3=>v=Value.int .i64 (at_ (0:Int) a2 0)
  | 4=>v=Value.pointer (some ⟨s_1.blk,s_1.off + Int.toNat (at_ (0:Int) a2 0) * 5,none⟩)
  | 5=>v=Value.agg (tmC (kd a1 (at_ (0:Int) a2 0)) s36).toArray
  | 6=>v=s_2.v
  | 11=>v=Value.int .i64 r38.2
  | _=>True⟩ (fun L g v => ∃ b43:Nat,∃ s45:SlV,∃ O47:List OA,∃ Z46:List OA,(∀ z ∈ [oMa a_0 g_0_1 true,oT g_0_1 a0,zg s_1 a1.sub,fS 1 IC s_2 a2,oPw,oCl s_1.blk (s_1.off + Int.toNat (at_ (0:Int) a2 0) * 5) (tmC (kd a1 (at_ (0:Int) a2 0)) s36),zg s36 ((kd a1 (at_ (0:Int) a2 0)).sub)],z ∈ Z46)∧Made L g Z46 7 56 (fun (c:Unit)=>(⟨if s_2.c=((1:Int)).toNat then s_2.p else s_2.p.map (·.add (((1:Int)).toNat * 1)),s_2.n - ((1:Int)).toNat,s_2.c - ((1:Int)).toNat⟩ : SlV).v) (fun (c:Unit)=>[fS 1 IC (⟨if s_2.c=((1:Int)).toNat then s_2.p else s_2.p.map (·.add (((1:Int)).toNat * 1)),s_2.n - ((1:Int)).toNat,s_2.c - ((1:Int)).toNat⟩ : SlV) (a2.drop ((1:Int)).toNat)])∧Made L g Z46 8 57 (fun (c:SlV)=>Value.tuple #[.agg (tmC r38.1 c).toArray,.int .i64 r38.2]) (fun (c:SlV)=>[zg c r38.1.sub])∧Made L g Z46 9 48 (fun (c:SlV)=>Value.tuple #[.agg (tmC r38.1 c).toArray,.int .i64 r38.2]) (fun (c:SlV)=>[zg c r38.1.sub])∧Made L g Z46 10 58 (fun (c:SlV)=>Value.agg (tmC r38.1 c).toArray) (fun (c:SlV)=>[zg c r38.1.sub])∧(L 12=true→g 11=Value.pointer (some ⟨b43,0,none⟩))∧(L 13=true → ∀ z ∈ [zg s45 r38.1.sub],z ∈ Z46)∧O47=((bif L 13 then [oB b43 zo (tmC r38.1 s45)] else (bif L 12 then [oB b43 zo (Term.C tmZ)] else [])) ++ [oB b4 zo (Term.C tmZ),oB b2 zo (tmC a1 s_1)])∧St A N w v O47 Z46) hmix zbD (fun _ _ _ _ _ _ _ hv=>hv) (fun g=>⟨0,SlV.nil,_,_,fun _ h=>h,Made.no,Made.no,Made.no,Made.no,(fun h=>by cases h),(fun h=>by cases h),rfl,S.ext (Ext.drawn _)⟩) ⟨?_,?_,?_,?_,?_,?_,?_,?_,?_,?_,?_,?_,?_,?_,trivial⟩ ?_
 ·rintro L g v hL hcl hclo ⟨b43,s45,O47,Z46,hZ,hm7,hm8,hm9,hm10,hk12,hq13,hO,S⟩ 
  have hl13:=clF hL (hclo 13 0 · zbD)
  have SR:St A N w v [oB b4 zo (Term.C tmZ),oB b2 zo (tmC a1 s_1)] (oMa a_0 g_0_1 true :: oT g_0_1 a0 :: zg s_1 a1.sub :: fS 1 IC s_2 a2 :: oPw :: oCl s_1.blk (s_1.off + Int.toNat (at_ (0:Int) a2 0) * 5) (tmC (kd a1 (at_ (0:Int) a2 0)) s36) :: zg s36 ((kd a1 (at_ (0:Int) a2 0)).sub) :: Z46):=by
   have S2:=S.zneed hZ
   rw [hO] at S2
   simp only [hl13,cd2,la2] at S2
   exact S2.drops
  refine wd (zw rfl) ?_
  exact w4 rfl ⟨b43,s45,O47,Z46,hZ,hm7.keep rfl rfl tl0,hm8.keep rfl rfl tl0,hm9.keep rfl rfl tl0,hm10.keep rfl rfl tl0,(kpU hk12),(kpZ tl0 hq13),by rw [hO]; simp only [pN L 0 12,pN L 0 13],S⟩
 ·rintro L g v hL hcl hclo ⟨b43,s45,O47,Z46,hZ,hm7,hm8,hm9,hm10,hk12,hq13,hO,S⟩ 
  have hl13:=clF hL (hclo 13 1 · zbD)
  have SR:St A N w v [oB b4 zo (Term.C tmZ),oB b2 zo (tmC a1 s_1)] (oMa a_0 g_0_1 true :: oT g_0_1 a0 :: zg s_1 a1.sub :: fS 1 IC s_2 a2 :: oPw :: oCl s_1.blk (s_1.off + Int.toNat (at_ (0:Int) a2 0) * 5) (tmC (kd a1 (at_ (0:Int) a2 0)) s36) :: zg s36 ((kd a1 (at_ (0:Int) a2 0)).sub) :: Z46):=by
   have S2:=S.zneed hZ
   rw [hO] at S2
   simp only [hl13,cd2,la2] at S2
   exact S2.drops
  refine wd (zf zG rfl (o':=4) rfl) ?_
  exact w4 rfl ⟨b43,s45,O47,Z46,hZ,hm7.keep rfl rfl tl0,hm8.keep rfl rfl tl0,hm9.keep rfl rfl tl0,hm10.keep rfl rfl tl0,(kpU hk12),(kpZ tl0 hq13),by rw [hO]; simp only [pN L 1 12,pN L 1 13],S⟩
 ·rintro L g v hL hcl hclo ⟨b43,s45,O47,Z46,hZ,hm7,hm8,hm9,hm10,hk12,hq13,hO,S⟩ hv1
  have hl13:=clF hL (hclo 13 2 · zbD)
  have SR:St A N w v [oB b4 zo (Term.C tmZ),oB b2 zo (tmC a1 s_1)] (oMa a_0 g_0_1 true :: oT g_0_1 a0 :: zg s_1 a1.sub :: fS 1 IC s_2 a2 :: oPw :: oCl s_1.blk (s_1.off + Int.toNat (at_ (0:Int) a2 0) * 5) (tmC (kd a1 (at_ (0:Int) a2 0)) s36) :: zg s36 ((kd a1 (at_ (0:Int) a2 0)).sub) :: Z46):=by
   have S2:=S.zneed hZ
   rw [hO] at S2
   simp only [hl13,cd2,la2] at S2
   exact S2.drops
  refine wd (zl zB hv1 ((SR.blk 1).cell (Term.get_sub _))) ?_
  exact w4 rfl ⟨b43,s45,O47,Z46,hZ,hm7.keep rfl rfl tl0,hm8.keep rfl rfl tl0,hm9.keep rfl rfl tl0,hm10.keep rfl rfl tl0,(kpU hk12),(kpZ tl0 hq13),by rw [hO]; simp only [pN L 2 12,pN L 2 13],S⟩
 ·rintro L g v hL hcl hclo ⟨b43,s45,O47,Z46,hZ,hm7,hm8,hm9,hm10,hk12,hq13,hO,S⟩ 
  have hl13:=clF hL (hclo 13 3 · zbD)
  have SR:St A N w v [oB b4 zo (Term.C tmZ),oB b2 zo (tmC a1 s_1)] (oMa a_0 g_0_1 true :: oT g_0_1 a0 :: zg s_1 a1.sub :: fS 1 IC s_2 a2 :: oPw :: oCl s_1.blk (s_1.off + Int.toNat (at_ (0:Int) a2 0) * 5) (tmC (kd a1 (at_ (0:Int) a2 0)) s36) :: zg s36 ((kd a1 (at_ (0:Int) a2 0)).sub) :: Z46):=by
   have S2:=S.zneed hZ
   rw [hO] at S2
   simp only [hl13,cd2,la2] at S2
   exact S2.drops
  refine wd (zi rfl) ?_
  exact w4 rfl ⟨b43,s45,O47,Z46,hZ,hm7.keep rfl rfl tl0,hm8.keep rfl rfl tl0,hm9.keep rfl rfl tl0,hm10.keep rfl rfl tl0,(kpU hk12),(kpZ tl0 hq13),by rw [hO]; simp only [pN L 3 12,pN L 3 13],S⟩
 ·rintro L g v hL hcl hclo ⟨b43,s45,O47,Z46,hZ,hm7,hm8,hm9,hm10,hk12,hq13,hO,S⟩ hv2 hv3
  have hl13:=clF hL (hclo 13 4 · zbD)
  have SR:St A N w v [oB b4 zo (Term.C tmZ),oB b2 zo (tmC a1 s_1)] (oMa a_0 g_0_1 true :: oT g_0_1 a0 :: zg s_1 a1.sub :: fS 1 IC s_2 a2 :: oPw :: oCl s_1.blk (s_1.off + Int.toNat (at_ (0:Int) a2 0) * 5) (tmC (kd a1 (at_ (0:Int) a2 0)) s36) :: zg s36 ((kd a1 (at_ (0:Int) a2 0)).sub) :: Z46):=by
   have S2:=S.zneed hZ
   rw [hO] at S2
   simp only [hl13,cd2,la2] at S2
   exact S2.drops
  refine wd (does_indexF zz hv2 hv3 (SR.onZ 2) (zM hi35).1 (zM hi35).2) ?_
  exact w4 rfl ⟨b43,s45,O47,Z46,hZ,hm7.keep rfl rfl tl0,hm8.keep rfl rfl tl0,hm9.keep rfl rfl tl0,hm10.keep rfl rfl tl0,(kpU hk12),(kpZ tl0 hq13),by rw [hO]; simp only [pN L 4 12,pN L 4 13],S⟩
 ·rintro L g v hL hcl hclo ⟨b43,s45,O47,Z46,hZ,hm7,hm8,hm9,hm10,hk12,hq13,hO,S⟩ hv4
  have hl13:=clF hL (hclo 13 5 · zbD)
  have SR:St A N w v [oB b4 zo (Term.C tmZ),oB b2 zo (tmC a1 s_1)] (oMa a_0 g_0_1 true :: oT g_0_1 a0 :: zg s_1 a1.sub :: fS 1 IC s_2 a2 :: oPw :: oCl s_1.blk (s_1.off + Int.toNat (at_ (0:Int) a2 0) * 5) (tmC (kd a1 (at_ (0:Int) a2 0)) s36) :: zg s36 ((kd a1 (at_ (0:Int) a2 0)).sub) :: Z46):=by
   have S2:=S.zneed hZ
   rw [hO] at S2
   simp only [hl13,cd2,la2] at S2
   exact S2.drops
  refine wd (zm zR hv4 (SR.cl 5) (Term.len _)) ?_
  exact w4 rfl ⟨b43,s45,O47,Z46,hZ,hm7.keep rfl rfl tl0,hm8.keep rfl rfl tl0,hm9.keep rfl rfl tl0,hm10.keep rfl rfl tl0,(kpU hk12),(kpZ tl0 hq13),by rw [hO]; simp only [pN L 5 12,pN L 5 13],S⟩
 ·rintro L g v hL hcl hclo ⟨b43,s45,O47,Z46,hZ,hm7,hm8,hm9,hm10,hk12,hq13,hO,S⟩ 
  have hl13:=clF hL (hclo 13 6 · zbD)
  have SR:St A N w v [oB b4 zo (Term.C tmZ),oB b2 zo (tmC a1 s_1)] (oMa a_0 g_0_1 true :: oT g_0_1 a0 :: zg s_1 a1.sub :: fS 1 IC s_2 a2 :: oPw :: oCl s_1.blk (s_1.off + Int.toNat (at_ (0:Int) a2 0) * 5) (tmC (kd a1 (at_ (0:Int) a2 0)) s36) :: zg s36 ((kd a1 (at_ (0:Int) a2 0)).sub) :: Z46):=by
   have S2:=S.zneed hZ
   rw [hO] at S2
   simp only [hl13,cd2,la2] at S2
   exact S2.drops
  refine wd (zP rfl) ?_
  exact w4 rfl ⟨b43,s45,O47,Z46,hZ,hm7.keep rfl rfl tl0,hm8.keep rfl rfl tl0,hm9.keep rfl rfl tl0,hm10.keep rfl rfl tl0,(kpU hk12),(kpZ tl0 hq13),by rw [hO]; simp only [pN L 6 12,pN L 6 13],S⟩
 ·rintro L g v hL hcl hclo ⟨b43,s45,O47,Z46,hZ,hm7,hm8,hm9,hm10,hk12,hq13,hO,S⟩ hv6
  have hl13:=clF hL (hclo 13 7 · zbD)
  replace S:=(S.zneed hZ)
  refine wd (does_suf xI hv6 rfl (S.rd 3) (of_decide_eq_true hs37)) ?_
  replace S:=S.sufZ 3 (of_decide_eq_true hs37)
  exact w4 trivial ⟨b43,s45,O47,_,(fun z h=>tl8 z (hZ z h)),Made.one (val:=(fun (c:Unit)=>(⟨if s_2.c=((1:Int)).toNat then s_2.p else s_2.p.map (·.add (((1:Int)).toNat * 1)),s_2.n - ((1:Int)).toNat,s_2.c - ((1:Int)).toNat⟩ : SlV).v)) (ps:=(fun (c:Unit)=>[fS 1 IC (⟨if s_2.c=((1:Int)).toNat then s_2.p else s_2.p.map (·.add (((1:Int)).toNat * 1)),s_2.n - ((1:Int)).toNat,s_2.c - ((1:Int)).toNat⟩ : SlV) (a2.drop ((1:Int)).toNat)])) () (yf List.mem_cons_self yC),hm8.keep rfl rfl tl8,hm9.keep rfl rfl tl8,hm10.keep rfl rfl tl8,(kpU hk12),(kpZ tl8 hq13),by rw [hO]; simp only [pN L 7 12,pN L 7 13],S⟩
 ·rintro L g v hL hcl hclo ⟨b43,s45,O47,Z46,hZ,hm7,hm8,hm9,hm10,hk12,hq13,hO,S⟩ hv0 hv5 _
  obtain ⟨_,he7,hp7⟩ := hm7 (hcl 7 zbD)
  have hl13:=clF hL (hclo 13 8 · zbD)
  replace S:=(S.zneed (xG (l1:=[fS 1 IC (⟨if s_2.c=((1:Int)).toNat then s_2.p else s_2.p.map (·.add (((1:Int)).toNat * 1)),s_2.n - ((1:Int)).toNat,s_2.c - ((1:Int)).toNat⟩ : SlV) (a2.drop ((1:Int)).toNat)]) hp7 hZ))
  obtain ⟨_,_,T,bk⟩ := S.sub [1,2,7,0,5] [] (O47)
  refine zu (zF zaa (zK hv0 (zK hv5 (zK he7 rfl)))) zbA (zdK (a1:=(kd a1 (at_ (0:Int) a2 0))) T er38) ?_
  rintro _ w51 ⟨s53,rfl,S2⟩
  replace S:=bk _ _ _ _ _ S2 rfl rfl
  exact w4 trivial ⟨b43,s45,O47,_,(fun z h=>tl9 z (hZ z h)),hm7.keep rfl rfl tl9,Made.one (val:=(fun (c:SlV)=>Value.tuple #[.agg (tmC r38.1 c).toArray,.int .i64 r38.2])) (ps:=(fun (c:SlV)=>[zg c r38.1.sub])) s53 (yf List.mem_cons_self yC),hm9.keep rfl rfl tl9,hm10.keep rfl rfl tl9,(kpU hk12),(kpZ tl9 hq13),by rw [hO]; simp only [pN L 8 12,pN L 8 13],S⟩
 ·rintro L g v hL hcl hclo ⟨b43,s45,O47,Z46,hZ,hm7,hm8,hm9,hm10,hk12,hq13,hO,S⟩ _
  obtain ⟨s41,he8,hp8⟩ := hm8 (hcl 8 zbD)
  have hl13:=clF hL (hclo 13 9 · zbD)
  replace S:=(S.zneed (xG (l1:=[zg s41 r38.1.sub]) hp8 hZ))
  refine wd (zU he8) ?_
  exact w4 trivial ⟨b43,s45,O47,_,(fun z h=>tl8 z (hZ z h)),hm7.keep rfl rfl tl8,hm8.keep rfl rfl tl8,Made.one (val:=(fun (c:SlV)=>Value.tuple #[.agg (tmC r38.1 c).toArray,.int .i64 r38.2])) (ps:=(fun (c:SlV)=>[zg c r38.1.sub])) s41 (yf List.mem_cons_self yC),hm10.keep rfl rfl tl8,(kpU hk12),(kpZ tl8 hq13),by rw [hO]; simp only [pN L 9 12,pN L 9 13],S⟩
 ·rintro L g v hL hcl hclo ⟨b43,s45,O47,Z46,hZ,hm7,hm8,hm9,hm10,hk12,hq13,hO,S⟩ _
  obtain ⟨s41,he9,hp9⟩ := hm9 (hcl 9 zbD)
  have hl13:=clF hL (hclo 13 10 · zbD)
  replace S:=(S.zneed (xG (l1:=[zg s41 r38.1.sub]) hp9 hZ))
  refine wd (zn he9 rfl) ?_
  exact w4 trivial ⟨b43,s45,O47,_,(fun z h=>tl8 z (hZ z h)),hm7.keep rfl rfl tl8,hm8.keep rfl rfl tl8,hm9.keep rfl rfl tl8,Made.one (val:=(fun (c:SlV)=>Value.agg (tmC r38.1 c).toArray)) (ps:=(fun (c:SlV)=>[zg c r38.1.sub])) s41 (yf List.mem_cons_self yC),(kpU hk12),(kpZ tl8 hq13),by rw [hO]; simp only [pN L 10 12,pN L 10 13],S⟩
 ·rintro L g v hL hcl hclo ⟨b43,s45,O47,Z46,hZ,hm7,hm8,hm9,hm10,hk12,hq13,hO,S⟩ _
  obtain ⟨s41,he9,hp9⟩ := hm9 (hcl 9 zbD)
  have SR:St A N w v [oB b4 zo (Term.C tmZ),oB b2 zo (tmC a1 s_1)] (zg s41 r38.1.sub :: oMa a_0 g_0_1 true :: oT g_0_1 a0 :: zg s_1 a1.sub :: fS 1 IC s_2 a2 :: oPw :: oCl s_1.blk (s_1.off + Int.toNat (at_ (0:Int) a2 0) * 5) (tmC (kd a1 (at_ (0:Int) a2 0)) s36) :: zg s36 ((kd a1 (at_ (0:Int) a2 0)).sub) :: Z46):=by
   have S2:=S.zneed (xG (l1:=[zg s41 r38.1.sub]) hp9 hZ)
   rw [hO] at S2
   exact S2.drops
  refine wd (zn he9 rfl) ?_
  exact w4 rfl ⟨b43,s45,O47,Z46,hZ,hm7.keep rfl rfl tl0,hm8.keep rfl rfl tl0,hm9.keep rfl rfl tl0,hm10.keep rfl rfl tl0,(kpU hk12),(kpZ tl0 hq13),by rw [hO]; simp only [pN L 11 12,pN L 11 13],S⟩
 ·rintro L g v hL hcl hclo ⟨b43,s45,O47,Z46,hZ,hm7,hm8,hm9,hm10,hk12,hq13,hO,S⟩ 
  have hl12:L 12=false:=hL
  have hl13:=clF hL (hclo 13 12 · zbD)
  have hOP : ∃ P Y,P=[]∧Y=[oB b4 zo (Term.C tmZ),oB b2 zo (tmC a1 s_1)]∧O47=P ++ ([] ++ Y):=⟨_,_,rfl,rfl,by rw [hO]; simp only [hl12,hl13,cd2,la2]⟩
  obtain ⟨P,Y,hP,hY,hPY⟩ := hOP
  rw [hPY] at S
  replace S:=S
  refine zQ xC zbA fun b55 w54 hw54=>?_
  replace S:=S.new hw54
  refine w4 trivial ⟨b55,s45,P ++ ([oB b55 zo (Term.C tmZ)] ++ Y),_,hZ,hm7.keep rfl rfl tl0,hm8.keep rfl rfl tl0,hm9.keep rfl rfl tl0,hm10.keep rfl rfl tl0,(fun _=>upd_same _ _ _),(kpZ tl0 hq13),?_,S.ins (P:=[oB b55 zo (Term.C tmZ)])⟩
  rw [hP,hY]; simp only [pN L 12 13,x9 (L:=L) (i:=12),hl13,cd2,la2]
 ·rintro L g v hL hcl hclo ⟨b43,s45,O47,Z46,hZ,hm7,hm8,hm9,hm10,hk12,hq13,hO,S⟩ _ _
  obtain ⟨s41,he10,hp10⟩ := hm10 (hcl 10 zbD)
  have hl12:L 12=true:=hcl 12 zbD
  have hl13:L 13=false:=hL
  have hOP : ∃ P Y,P=[]∧Y=[oB b4 zo (Term.C tmZ),oB b2 zo (tmC a1 s_1)]∧O47=P ++ ([oB b43 zo (Term.C tmZ)] ++ Y):=⟨_,_,rfl,rfl,by rw [hO]; simp only [hl12,hl13,cd2,la2]⟩
  obtain ⟨P,Y,hP,hY,hPY⟩ := hOP
  rw [hPY] at S
  replace S:=(S.ins.zneed (xG (l1:=[zg s41 r38.1.sub]) hp10 hZ))
  refine wsT (hk12 (hcl 12 zbD)) he10 (S.blk 0) fun w56 B hw56 zw56=>?_
  replace S:=S.store 0 B hw56
  refine zd (ob40 trivial (fun _=>trivial) ⟨b43,s41,P ++ ([oB b43 zo (tmC r38.1 s41)] ++ Y),_,(fun z h=>tl8 z (hZ z h)),hm7.keep0 rfl tl8,hm8.keep0 rfl tl8,hm9.keep0 rfl tl8,hm10.keep0 rfl tl8,(kpP hk12),(fun _ z q=>tl8 z (hp10 z q)),?_,S.ins (P:=[oB b43 zo (tmC r38.1 s41)])⟩)
  rw [hP,hY]; simp only [pN L 13 12,x9 (L:=L) (i:=13),hl12,cd2,la2]
 rintro L g w57 hLm ⟨b43,s45,O47,Z46,hZ,hm7,hm8,hm9,hm10,hk12,hq13,hO,S⟩ hv58_0 hv58_1 hv58_2 hv58_3 hv58_4 hv58_5 hv58_6 _ _ _ _ hv58_11 _ _
 have hLt : ∀ j,j < 14→L j=true:=fun j hj=>by rw [hLm]; exact decide_eq_true hj
 obtain ⟨_,hv58_7,hp7⟩ := hm7 (hLt 7 zbA)
 obtain ⟨s41,hv58_10,hp10⟩ := hm10 (hLt 10 zbA)
 have hv58_12:=hk12 (hLt 12 zbA)
 simp only [hLt 12 zbA,hLt 13 zbA,cond_true,List.nil_append,List.cons_append] at hO
 rw [hO] at S
 replace hq13:=hq13 (hLt 13 zbA)
 replace S:=S.pickZ (xG (l1:=[fS 1 IC (⟨if s_2.c=((1:Int)).toNat then s_2.p else s_2.p.map (·.add (((1:Int)).toNat * 1)),s_2.n - ((1:Int)).toNat,s_2.c - ((1:Int)).toNat⟩ : SlV) (a2.drop ((1:Int)).toNat)]) hp7 (xG (l1:=[zg s41 r38.1.sub]) hp10 (xG (l1:=[zg s45 r38.1.sub]) hq13 hZ)))
 clear hp7 hp10 hZ hm7 hm8 hm9 hm10
 refine wd (zh hv58_11) (zd (zb (zb (za (wd (zi rfl) (wd (xr rfl rfl) (zd ?_)))))))
 refine zJ rfl (fun hc59=>?_) (fun hc59=>?_)
 ·replace H:=if_t hc59 H
  refine zb (za (wd (Does.to (v' := .agg (Term.C tmZ).toArray) (z1 (vs:=[]) yP rfl Bld.nil) rfl) (wd (zi rfl) ?_)))
  refine wsT rfl rfl (S.blk 1) fun w60 B hw60 zw60=>?_
  replace S:=S.store 1 B hw60
  refine wd (zh rfl) (zd (zr ?_))
  replace S:=S.nilTm
  refine ⟨_,(xd (rtT rfl (S.blk 0)) (ze rfl)),?_⟩
  replace S:=S.arr [] [0]
  obtain rfl:=zbE H
  exact ⟨SlV.nil,rfl,S⟩
 replace H:=if_f hc59 H
 refine zx (zb (za (wd (zf zG rfl (o':=4) rfl) (wd (zl zB rfl ((S.blk 2).cell (Term.get_sub _))) ?_))))
 obtain ⟨r62,er62,H⟩ := zq H
 obtain ⟨_,_,T,bk⟩ := S.sub [5] [] [oB b43 zo (tmC r38.1 s45),oB b4 zo (Term.C tmZ),oB b2 zo (tmC a1 s_1)]
 refine zu (zt yE) zbA (yF T er62) ?_
 rintro _ w61 ⟨s64,m65,rfl,S2⟩
 replace S:=bk _ _ _ _ _ S2 rfl rfl
 refine wd (zf zG rfl (o':=4) rfl) ?_
 refine yJ zB rfl rfl (S.blk 3) (by rw [Term.len]; decide) (SlV.one _ _ rfl) (Term.set_sub _ _) fun w66 B hw66 zw66=>?_
 replace S:=S.store 3 B hw66
 refine zd (zb (za (wd (zf zG rfl (o':=4) rfl) (wd (zl zB rfl ((S.blk 0).cell (Term.get_sub _))) (wd (zi rfl) (wd (zm zR hv58_12 ((S.blk 2).all _ (Term.len _)) (Term.len _)) ?_))))))
 obtain ⟨hi67,H⟩ := xb H
 refine wd (xi zz rfl rfl (S.rdO 1) (zM hi67).1 (by rw [(S.lenTm 0)]; exact (zM hi67).2)) ?_
 have hlw68:=S.lenO 1
 have hqw68:=(S.lenTm 0)
 refine zaC (C:=Term.C) (a:=(tmT r38.1 s45)) zR rfl rfl (S.sl 1) ⟨(zM hi67).1,by rw [hqw68]; exact (zM hi67).2⟩ (Term.len _) (Term.one _) fun w68 O hw68=>?_
 replace S:=S.push 1 O (by rw [List.length_set]; exact hlw68) hw68 (fun i hi => .inl hi)
 clear O hlw68 hqw68
 replace S:=S.setTm (x:=r38.1) 0 3 (Int.toNat (at_ (0:Int) a2 0))
 refine zd (zb (za ?_))
 replace S:=S.frzTm 0 0
 refine wd (ldT rfl (S.blk 0)) ?_
 refine wsT rfl rfl (S.blk 2) fun w69 B hw69 zw69=>?_
 replace S:=S.store 2 B hw69
 refine wd (zh rfl) (zd (zr ?_))
 refine ⟨_,(xd (rtT rfl (S.blk 0)) (ze rfl)),?_⟩
 replace S:=S.arr [] [0]
 obtain rfl:=zbE H
 exact ⟨s64,rfl,S⟩
theorem reduce_machine_do_st {a0:Tb} {a_0:Option Addr} {g_0_1:Option Addr} {a1:PTerm} {s_1:SlV} {a2:List Int} {s_2:SlV} (S:St A N w w [] [oMa a_0 g_0_1 true,oT g_0_1 a0,zg s_1 a1.sub,fS 1 IC s_2 a2,oPw]) {k:Nat} {r:PTerm × Int} (H:zcW.f k a0 a1 a2=some r) :
  Calls PP vx #[.pointer a_0,.agg (tmC a1 s_1).toArray,s_2.v] w <| Rt fun v w'=>(∃ so0:SlV,v = .tuple #[.agg (tmC r.1 so0).toArray,.int .i64 r.2]∧St A N w w' [] [zg so0 r.1.sub]):=by
 have main : ∀ (k:Nat) {A:Nat→Prop} {N:Oth} {w:World} {a0:Tb} {a_0:Option Addr} {g_0_1:Option Addr} {a1:PTerm} {s_1:SlV} {a2:List Int} {s_2:SlV} (S:St A N w w [] [oMa a_0 g_0_1 true,oT g_0_1 a0,zg s_1 a1.sub,fS 1 IC s_2 a2,oPw]) {r:PTerm × Int} (H:zcW.f k a0 a1 a2=some r),Calls PP vx #[.pointer a_0,.agg (tmC a1 s_1).toArray,s_2.v] w <| Rt fun v w'=>(∃ so0:SlV,v = .tuple #[.agg (tmC r.1 so0).toArray,.int .i64 r.2]∧St A N w w' [] [zg so0 r.1.sub]):=by
  intro k
  induction k with
  | zero=>intro A N w a0 a_0 g_0_1 a1 s_1 a2 s_2 S r H; cases H
  | succ k ih=>intro A N w a0 a_0 g_0_1 a1 s_1 a2 s_2 S r H; exact reduce_machine_do_gst ih S H
 exact main k S H
theorem ko {a0:Tb} {a_0:Option Addr} {g_0_1:Option Addr} {a1:PTerm} {s_1:SlV} {a2:List Int} {s_2:SlV} (S:St A N w w [] [oMa a_0 g_0_1 true,oT g_0_1 a0,zg s_1 a1.sub,fS 1 IC s_2 a2,oPw]) {k:Nat} {r:PTerm × Int} (H:zcX.f k a0 a1 a2=some r) :
  Calls PP kx #[.pointer a_0,.agg (tmC a1 s_1).toArray,s_2.v] w <| Rt fun v w'=>(∃ so0:SlV,v = .tuple #[.agg (tmC r.1 so0).toArray,.int .i64 r.2]∧St A N w w' [] [zg so0 r.1.sub]):=by
 unfold zcX.f at H
 refine zy (n:=30) Tryz.func42 rfl rfl zbC (zb (za ?_))
 refine zE rfl zbA fun b2 w1 hw1=>?_
 replace S:=S.new hw1
 refine zQ xC zbA fun b4 w3 hw3=>?_
 replace S:=S.new hw3
 refine wd (zh rfl) (zd (zb (za (wd (zw rfl) (wd (ldT rfl (S.blk 1)) (wd (zP rfl) ?_))))))
 obtain ⟨r5,er5,H⟩ := zq H
 obtain ⟨_,_,T,bk⟩ := S.sub [0,1,2,3,4] [] [oB b4 zo (Term.C tmZ),oB b2 zo (tmC a1 s_1)]
 refine zu (zt zaa) zbA (reduce_machine_do_st (a1:=a1) T er5) ?_
 rintro _ w6 ⟨s8,rfl,S2⟩
 replace S:=bk _ _ _ _ _ S2 rfl rfl
 refine wd (zU rfl) (wd (zn rfl rfl) (wd (zn rfl rfl) ?_))
 refine zQ xC zbA fun b10 w9 hw9=>?_
 replace S:=S.new hw9
 refine wsT rfl rfl (S.blk 0) fun w11 B hw11 zw11=>?_
 replace S:=S.store 0 B hw11
 refine wd (zh rfl) (zd (zb (zb (za (wd (zi rfl) (wd (zV rfl rfl) (wd (zA rfl) ?_)))))))
 refine wg (fun hg=>ldT rfl (S.blk 0)) ?_
 obtain ⟨r12,er12,H⟩ := zq H
 refine xU (j:=2) (pol:=true) rfl rfl rfl zbA (fun hg=>zF uM (zK (zp hg) rfl)) zbA (fun hg=>(have ⟨M,SS⟩ := S.lend ((.z 0 rfl .nil)); quiet (uO (a0:=r5.1) SS (if_t (by simpa using hg) er12)) (fun v w' h=>⟨h.1,_,_,h.2⟩))) fun w13 hw13=>?_
 replace S:=S.ext hw13
 refine wg (fun hg=>xr (zp hg) rfl) (wd (zZ rfl (fun hp=>(zp (xz hp)))) (zd ?_))
 refine zJ rfl (fun hc14=>?_) (fun hc14=>?_)
 ·replace H:=if_t hc14 H
  refine za (wd (zh rfl) (zd (zb (zb (za (wd (zi rfl) (wd (xr rfl rfl) (zd ?_))))))))
  refine zJ rfl (fun hc15=>?_) (fun hc15=>?_)
  ·replace H:=if_t hc15 H
   refine zb (za (wd (Does.to (v' := .agg (Term.C tmZ).toArray) (z1 (vs:=[]) yP rfl Bld.nil) rfl) (wd (zi rfl) ?_)))
   refine wsT rfl rfl (S.blk 1) fun w16 B hw16 zw16=>?_
   replace S:=S.store 1 B hw16
   refine wd (zh rfl) (zd (zr ?_))
   replace S:=S.nilTm
   refine ⟨_,(xd (rtT rfl (S.blk 0)) (ze rfl)),?_⟩
   replace S:=S.arr [] [0]
   obtain rfl:=zbE H
   exact ⟨SlV.nil,rfl,S⟩
  replace H:=if_f hc15 H
  refine zx (zb (za (wd (ldT rfl (S.blk 0)) ?_)))
  obtain ⟨r17,er17,H⟩ := zq H
  obtain ⟨_,_,T,bk⟩ := S.sub [0] [] [oB b10 zo (tmC r5.1 s8),oB b4 zo (Term.C tmZ),oB b2 zo (tmC a1 s_1)]
  refine zu (zt jG) zbA (zar (a0:=r5.1) T er17) ?_
  rintro _ w18 ⟨s20,rfl,S2⟩
  replace S:=bk _ _ _ _ _ S2 rfl rfl
  refine wsT rfl rfl (S.blk 1) fun w21 B hw21 zw21=>?_
  replace S:=S.store 1 B hw21
  refine wd (zh rfl) (zd (zr ?_))
  refine ⟨_,(xd (rtT rfl (S.blk 0)) (ze rfl)),?_⟩
  replace S:=S.arr [] [0]
  obtain rfl:=zbE H
  exact ⟨s20,rfl,S⟩
 ·replace H:=if_f hc14 H
  refine zx (zb (zb (za (wd (zi rfl) (wd (xr rfl rfl) (zd ?_))))))
  refine zJ rfl (fun hc22=>?_) (fun hc22=>?_)
  ·replace H:=if_t hc22 H
   refine zb (za (wd (Does.to (v' := .agg (Term.C tmZ).toArray) (z1 (vs:=[]) yP rfl Bld.nil) rfl) (wd (zi rfl) ?_)))
   refine wsT rfl rfl (S.blk 1) fun w23 B hw23 zw23=>?_
   replace S:=S.store 1 B hw23
   refine wd (zh rfl) (zd (zr ?_))
   replace S:=S.nilTm
   refine ⟨_,(xd (rtT rfl (S.blk 0)) (ze rfl)),?_⟩
   replace S:=S.arr [] [0]
   obtain rfl:=zbE H
   exact ⟨SlV.nil,rfl,S⟩
  replace H:=if_f hc22 H
  refine zx (zb (za (wd (ldT rfl (S.blk 0)) ?_)))
  obtain ⟨r24,er24,H⟩ := zq H
  obtain ⟨_,_,T,bk⟩ := S.sub [0] [] [oB b10 zo (tmC r5.1 s8),oB b4 zo (Term.C tmZ),oB b2 zo (tmC a1 s_1)]
  refine zu (zt jG) zbA (zar (a0:=r5.1) T er24) ?_
  rintro _ w25 ⟨s27,rfl,S2⟩
  replace S:=bk _ _ _ _ _ S2 rfl rfl
  refine wsT rfl rfl (S.blk 1) fun w28 B hw28 zw28=>?_
  replace S:=S.store 1 B hw28
  refine wd (zh rfl) (zd (zr ?_))
  refine ⟨_,(xd (rtT rfl (S.blk 0)) (ze rfl)),?_⟩
  replace S:=S.arr [] [0]
  obtain rfl:=zbE H
  exact ⟨s27,rfl,S⟩
theorem reduce_Do_st {a0:Tb} {a_0:Option Addr} {a1:PTerm} {s_1:SlV} {a2:List Int} {s_2:SlV} (S:St A N w w [] [oT a_0 a0,zg s_1 a1.sub,fS 1 IC s_2 a2,oPw]) {k:Nat} {r:PTerm × Int} (H:zcY.f k a0 a1 a2=some r) :
  Calls PP F_reduce_Do #[.pointer a_0,.agg (tmC a1 s_1).toArray,s_2.v] w <| Rt fun v w'=>(∃ so0:SlV,v = .tuple #[.agg (tmC r.1 so0).toArray,.int .i64 r.2]∧St A N w w' [] [zg so0 r.1.sub]):=by
 unfold zcY.f at H
 refine zy (n:=26) Tryz.func16 rfl rfl zbC (zb (za ?_))
 refine zE rfl zbA fun b2 w1 hw1=>?_
 replace S:=S.new hw1
 refine zQ xC zbA fun b4 w3 hw3=>?_
 replace S:=S.new hw3
 refine wd (zh rfl) (zd (zb (za (wd (zw rfl) (wd (ldT rfl (S.blk 1)) ?_)))))
 obtain ⟨r5,er5,H⟩ := zq H
 obtain ⟨_,_,T,bk⟩ := S.sub [0,1,3] [] [oB b4 zo (Term.C tmZ),oB b2 zo (tmC a1 s_1)]
 refine zu (zt zam) zbA (zaq (a1:=a1) T er5) ?_
 rintro _ w6 ⟨a8,rfl,S2⟩
 replace S:=bk _ _ _ _ _ S2 rfl rfl
 refine wd (zU rfl) (wd (zn rfl rfl) (wd (zn rfl rfl) (wd (zX rfl) (wd (zh rfl) (zd (zb (zb (za ?_))))))))
 refine wd (zi rfl) (wd (xr rfl rfl) (zd ?_))
 refine zJ rfl (fun hc9=>?_) (fun hc9=>?_)
 ·replace H:=if_t hc9 H
  refine zb (za (wd (Does.to (v' := .agg (Term.C tmZ).toArray) (z1 (vs:=[]) yP rfl Bld.nil) rfl) (wd (zi rfl) ?_)))
  refine wsT rfl rfl (S.blk 0) fun w10 B hw10 zw10=>?_
  replace S:=S.store 0 B hw10
  refine wd (zh rfl) (zd (zr ?_))
  replace S:=S.nilTm
  refine ⟨_,(xd (rtT rfl (S.blk 0)) (ze rfl)),?_⟩
  replace S:=S.arr [] [0]
  obtain rfl:=zbE H
  exact ⟨SlV.nil,rfl,S⟩
 replace H:=if_f hc9 H
 refine zx (zb (za (wd (zw rfl) (wd (ldT rfl (S.blk 1)) (wd (zP rfl) ?_)))))
 obtain ⟨ht12,H⟩ := xb H
 rw [ht12] at S
 obtain ⟨r11,er11,H⟩ := zq H
 obtain ⟨_,_,T,bk⟩ := S.sub [0,1,2,3,4] [] [oB b4 zo (Term.C tmZ),oB b2 zo (tmC a1 s_1)]
 refine zu (zt ke) zbA (ko (a1:=a1) T er11) ?_
 rintro _ w13 ⟨s15,rfl,S2⟩
 replace S:=bk _ _ _ _ _ S2 rfl rfl
 refine wd (zn rfl rfl) (wd (zn rfl rfl) ?_)
 refine wsT rfl rfl (S.blk 0) fun w16 B hw16 zw16=>?_
 replace S:=S.store 0 B hw16
 refine wd (zh rfl) (zd (zr ?_))
 refine ⟨_,(xd (rtT rfl (S.blk 0)) (ze rfl)),?_⟩
 replace S:=S.arr [] [0]
 obtain rfl:=zbE H
 exact ⟨s15,rfl,S⟩
theorem reduce_Redexes_1_st {a0:List Int} {s_0:SlV} {a1:List (List Int)} {b_1:Nat} {s_1_1:SlV} (S:St A N w w [oB b_1 xo [s_1_1.v],zL s_1_1 a1] [fS 1 IC s_0 a0]) {r:List (List Int) × Bool} (H:zcZ.f a0 a1=some r) :
  Calls PP yB #[s_0.v,.pointer (some ⟨b_1,0,none⟩)] w <| Rt fun v w'=>(∃ so0:SlV,v = .bool r.2∧St A N w w' [oB b_1 xo [so0.v],zL so0 r.1] []):=by
 unfold zcZ.f at H
 refine zy (n:=12) Tryz.func40 rfl rfl zbC (zb (za (wd (zj rfl) (zd (zb ?_)))))
 obtain ⟨r10,er10,H⟩ := zq H
 refine vh 4 ⟨fun _ _=>True,fun _ _ _=>True,fun i v _=>match i with
  | 0=>v=s_1_1.v
  | 1=>v=s_0.v
  | _=>True⟩ (fun L g v=>bif L 3 then (∃ (s13:SlV) (s16:SlV),(L 2=true→g 6=s13.v)∧(L 3=true→g 7=s16.v)∧St A N w v [oS xH 1 LC s16 ([s13]),oS xh 1 IC s13 r10,oB b_1 xo [s_1_1.v],zL s_1_1 a1] [fS 1 IC s_0 a0]) else bif L 2 then (∃ (s13:SlV),(L 2=true→g 6=s13.v)∧St A N w v [oS xh 1 IC s13 r10,oB b_1 xo [s_1_1.v],zL s_1_1 a1] [fS 1 IC s_0 a0]) else (St A N w v [oB b_1 xo [s_1_1.v],zL s_1_1 a1] [fS 1 IC s_0 a0])) hmix zbD (fun _ _ _ _ _ _ _ hv=>hv) (fun g=>S.ext (Ext.drawn _)) ⟨?_,?_,?_,?_,trivial⟩ ?_
 ·rintro L g v hL hcl hclo hT 
  cases hl3:L 3 with
  | true =>
   replace hT : ∃ (s13:SlV) (s16:SlV),(L 2=true→g 6=s13.v)∧(L 3=true→g 7=s16.v)∧St A N w v [oS xH 1 LC s16 ([s13]),oS xh 1 IC s13 r10,oB b_1 xo [s_1_1.v],zL s_1_1 a1] [fS 1 IC s_0 a0]:=by simp only [hl3,cd2] at hT ⊢; exact hT
   obtain ⟨s13,s16,he2,he3,S⟩ := hT
   refine wd (zl kH rfl ((S.blk 2).cell rfl)) ?_
   have hT2 : ∃ (s13':SlV) (s16':SlV),((plus L 0) 2=true→(upd g 4 (s_1_1.v)) 6=s13'.v)∧((plus L 0) 3=true→(upd g 4 (s_1_1.v)) 7=s16'.v)∧St A N w v [oS xH 1 LC s16' ([s13']),oS xh 1 IC s13' r10,oB b_1 xo [s_1_1.v],zL s_1_1 a1] [fS 1 IC s_0 a0]:=⟨s13,s16,kpU he2,kpU he3,S⟩
   exact w4 rfl (by simp only [pN L 0 2,pN L 0 3,hl3,cd2] at hT2 ⊢; exact hT2)
  | false =>
   cases hl2:L 2 with
   | true =>
    replace hT : ∃ (s13:SlV),(L 2=true→g 6=s13.v)∧St A N w v [oS xh 1 IC s13 r10,oB b_1 xo [s_1_1.v],zL s_1_1 a1] [fS 1 IC s_0 a0]:=by simp only [hl2,hl3,cd2] at hT ⊢; exact hT
    obtain ⟨s13,he2,S⟩ := hT
    refine wd (zl kH rfl ((S.blk 1).cell rfl)) ?_
    have hT2 : ∃ (s13':SlV),((plus L 0) 2=true→(upd g 4 (s_1_1.v)) 6=s13'.v)∧St A N w v [oS xh 1 IC s13' r10,oB b_1 xo [s_1_1.v],zL s_1_1 a1] [fS 1 IC s_0 a0]:=⟨s13,kpU he2,S⟩
    exact w4 rfl (by simp only [pN L 0 2,pN L 0 3,hl2,hl3,cd2] at hT2 ⊢; exact hT2)
   | false =>
    simp only [hl2,hl3,cd2] at hT
    replace S:=hT
    refine wd (zl kH rfl ((S.blk 0).cell rfl)) ?_
    exact w4 rfl (by simp only [pN L 0 2,pN L 0 3,hl2,hl3,cd2]; exact S)
 ·rintro L g v hL hcl hclo hT 
  have hl2:=clF hL (hclo 2 1 · zbD)
  have hl3:=clF hL (hclo 3 1 · zbD)
  simp only [hl2,hl3,cd2] at hT
  replace S:=hT
  refine wd (zP rfl) ?_
  exact w4 rfl (by simp only [pN L 1 2,pN L 1 3,hl2,hl3,cd2]; exact S)
 ·rintro L g v hL hcl hclo hT hv1
  have hl2:L 2=false:=hL
  have hl3:=clF hL (hclo 3 2 · zbD)
  simp only [hl2,hl3,cd2] at hT
  replace S:=hT
  obtain ⟨_,_,T,bk⟩ := S.calln 0 ((.z 0 rfl .nil))
  refine zu (zF jQ (zK hv1 rfl)) zbA (jU T er10) ?_
  rintro _ w18 ⟨s13,rfl,S2⟩
  replace S:=bk _ _ _ _ S2 rfl
  have hT2 : ∃ (s13':SlV),((plus L 2) 2=true→(upd g 6 (s13.v)) 6=s13'.v)∧St A N w w18 [oS xh 1 IC s13' r10,oB b_1 xo [s_1_1.v],zL s_1_1 a1] [fS 1 IC s_0 a0]:=⟨s13,fun _=>upd_same _ _ _,S⟩
  exact w4 trivial (by simp only [pN L 2 3,x9 (L:=L) (i:=2),hl3,cd2] at hT2 ⊢; exact hT2)
 ·rintro L g v hL hcl hclo hT hv2
  have hl2:L 2=true:=hcl 2 zbD
  have hl3:L 3=false:=hL
  replace hT : ∃ (s13:SlV),(L 2=true→g 6=s13.v)∧St A N w v [oS xh 1 IC s13 r10,oB b_1 xo [s_1_1.v],zL s_1_1 a1] [fS 1 IC s_0 a0]:=by simp only [hl2,hl3,cd2] at hT ⊢; exact hT
  obtain ⟨s13,he2,S⟩ := hT
  refine vD (C:=LC) (l:=[s13]) (vs:=[s13.v]) y7 el_L_int.zero (xT (he2 (hcl 2 zbD)) rfl) (by simp only [List.map_cons,List.map_nil,SlV.cells,LC]) (fun _ _=>rfl) zbA rfl zbA fun b21 w20 s16 hBw20 hw20=>?_
  replace S:=S.lit hBw20 hw20 zbC
  have hT2 : ∃ (s13':SlV) (s16':SlV),((plus L 3) 2=true→(upd g 7 (s16.v)) 6=s13'.v)∧((plus L 3) 3=true→(upd g 7 (s16.v)) 7=s16'.v)∧St A N w w20 [oS xH 1 LC s16' ([s13']),oS xh 1 IC s13' r10,oB b_1 xo [s_1_1.v],zL s_1_1 a1] [fS 1 IC s_0 a0]:=⟨s13,s16,kpU he2,fun _=>upd_same _ _ _,S⟩
  exact w4 trivial (by simp only [pN L 3 2,x9 (L:=L) (i:=3),cd2] at hT2 ⊢; exact hT2)
 rintro L g w23 hLm hT hv24_0 hv24_1 _ _
 have hLt : ∀ j,j < 4→L j=true:=fun j hj=>by rw [hLm]; exact decide_eq_true hj
 replace hT : ∃ (s13:SlV) (s16:SlV),(L 2=true→g 6=s13.v)∧(L 3=true→g 7=s16.v)∧St A N w w23 [oS xH 1 LC s16 ([s13]),oS xh 1 IC s13 r10,oB b_1 xo [s_1_1.v],zL s_1_1 a1] [fS 1 IC s_0 a0]:=by simp only [hLt 3 zbA,cond_true] at hT ⊢; exact hT
 obtain ⟨s13,s16,he2,he3,S⟩ := hT
 have hv24_2:=he2 (hLt 2 zbA)
 have hv24_3:=he3 (hLt 3 zbA)
 replace S:=S
 obtain ⟨ha27,H⟩ := xb H
 have ha27:=of_decide_eq_true ha27
 obtain ⟨ms28,S⟩ := S.openD 3
 replace S:=S
 have hlms28:ms28.length=a1.length:=(S.own 1 rfl).elim fun _ hb=>big_len hb
 rw [← hlms28] at ha27
 refine wl_appends (C:=L_int.C) y7 el_L_int hv24_0 hv24_3 (S.sl 0) (S.rdO 2) zbC (fun a _=>L_int.one a) ha27 (by first | omega | (simp only [List.length_cons,List.length_nil]; omega)) zbA fun s26 w25 O hw25 gw25=>?_
 replace S:=S.push 0 O (by first | (simp; done) | (simp; omega) | (simp only [List.length_append]; omega)) hw25 gw25
 clear O
 replace S:=((S.front 3).front 2).front 2
 replace S:St A N w w25 [zL s26 (a1 ++ [r10]),oS xH 1 LC s16 ([s13]),oB b_1 xo [s_1_1.v]] [fS 1 IC s_0 a0]:=St.pushD S
 refine yJ kH rfl rfl (S.blk 2) zbC (SlV.one _ _ rfl) rfl fun w29 B hw29 zw29=>?_
 replace S:=S.store 2 B hw29
 refine zd (zb (za (wd (zl kH rfl ((S.blk 0).cell rfl)) (wd (kD y7 rfl (S.onO 1)) (wd (xy rfl rfl) (wd (zj rfl) (zd (zr ?_))))))))
 refine ⟨_,(zS (ze rfl)),?_⟩
 replace S:=S.arr [0,1] []
 obtain rfl:=zbE H
 exact ⟨s26,rfl,S⟩
theorem uJ {zeb:Tb→PTerm→List Int→List (List Int)→Option (List (List Int) × Bool)} (zdL : ∀ {A:Nat→Prop} {N:Oth} {w:World} {a0:Tb} {a_0:Option Addr} {g_0_1:Option Addr} {a1:PTerm} {s_1:SlV} {a2:List Int} {s_2:SlV} {a3_0:List (List Int)} {b_3:Nat} {s_3_1:SlV} (S:St A N w w [oB b_3 xo [s_3_1.v],zL s_3_1 a3_0] [oMa a_0 g_0_1 true,oT g_0_1 a0,zg s_1 a1.sub,fS 1 IC s_2 a2]) {r:List (List Int) × Bool} (H:zeb a0 a1 a2 a3_0=some r),Calls PP xM #[.pointer a_0,.agg (tmC a1 s_1).toArray,s_2.v,.func (.func yB) #[] #[.pointer (some ⟨b_3,0,none⟩)]] w <| Rt fun v w'=>(∃ so0:SlV,v = .bool r.2∧St A N w w' [oB b_3 xo [so0.v],zL so0 r.1] [])) {A:Nat→Prop} {N:Oth} {w:World} {a0:Tb} {a_0:Option Addr} {g_0_1:Option Addr} {a1:PTerm} {s_1:SlV} {a2:List Int} {s_2:SlV} {a3_0:List (List Int)} {b_3:Nat} {s_3_1:SlV} (S:St A N w w [oB b_3 xo [s_3_1.v],zL s_3_1 a3_0] [oMa a_0 g_0_1 true,oT g_0_1 a0,zg s_1 a1.sub,fS 1 IC s_2 a2]) {r:List (List Int) × Bool} (H:zda.g zeb a0 a1 a2 a3_0=some r) :
  Calls PP xM #[.pointer a_0,.agg (tmC a1 s_1).toArray,s_2.v,.func (.func yB) #[] #[.pointer (some ⟨b_3,0,none⟩)]] w <| Rt fun v w'=>(∃ so0:SlV,v = .bool r.2∧St A N w w' [oB b_3 xo [so0.v],zL so0 r.1] []):=by
 unfold zda.g at H
 refine zy (n:=49) Tryz.func39 rfl rfl zbC (zb (za ?_))
 refine zE rfl zbA fun b2 w1 hw1=>?_
 replace S:=S.new hw1
 refine wd (zj rfl) (zd (zb (zb (za (wd (zw rfl) (wd (ldT rfl (S.blk 0)) ?_))))))
 obtain ⟨r3,er3,H⟩ := zq H
 obtain ⟨_,_,T,bk⟩ := S.calln 0 ((.z 0 rfl (.z 1 rfl (.z 2 rfl .nil))))
 refine zu (zt uC) zbA (uG (a1:=a1) T er3) ?_
 rintro _ w4 ⟨rfl,S2⟩
 replace S:=bk _ _ _ _ S2 rfl
 refine wd (zU rfl) (wd (zn rfl rfl) (wd (zn rfl rfl) ?_))
 refine zQ uL zbA fun b7 w6 hw6=>?_
 replace S:=S.new hw6
 refine zT xm rfl rfl (S.blk 0) (RRule.len _) (by rw [RRule.len]; decide) (RRule.one _) (xe (RRule.len _)) fun w8 B hw8 zw8=>?_
 replace S:=S.store 0 B hw8
 refine wd (zj rfl) (zd (zb (za (wd (zA rfl) (wd (zA rfl) ?_)))))
 refine wg (fun hg=>jR rfl) ?_
 refine wg (fun hg=>zP rfl) ?_
 obtain ⟨r9,er9,H⟩ := zq H
 replace S:=(S.front 3).front 3
 obtain ⟨_,_,T,bk⟩ := S.calln 2 ((.z 3 rfl .nil))
 let LT1:List OA:=[oB b7 jF (RRule.C (ju r3.1)),oB b2 zo (tmC a1 s_1)]
 let LT3:List OA:=[oMa a_0 g_0_1 true,oT g_0_1 a0,zg s_1 a1.sub,fS 1 IC s_2 a2]
 refine wl_gturn (R:=fun W => ∃ s12:SlV,St A N w W (oB b_3 xo [s12.v] :: zL s12 r9.1 :: LT1) LT3) (j:=1) (pol:=true) rfl rfl rfl zbA (fun hg=>does_callvg ca_reduce_Redexes_1 (zp hg) (zK (zp hg) rfl)) zbA (fun hg=>zaM (reduce_Redexes_1_st T (if_t (by simpa using hg) er9)) fun _ _ ⟨s12,hv,S2⟩ => ⟨hv,⟨s12,bk _ _ _ _ S2 rfl⟩⟩) (fun hg=>by obtain rfl:=zbE (if_f (by simpa using hg) er9); exact ⟨s_3_1,S⟩) fun w10 S2=>?_
 obtain ⟨s12,S2⟩ := S2
 replace S:St A N w w10 (oB b_3 xo [s12.v] :: zL s12 r9.1 :: LT1) LT3:=S2
 refine wg (fun hg=>xg (zp hg)) (wd (zZ rfl (fun hp=>(zp (xz hp)))) (zd ?_))
 refine zJ rfl (fun hc13=>?_) (fun hc13=>?_)
 ·replace H:=if_t hc13 H
  refine zb (za (wd (zj rfl) (zd (zr ?_))))
  refine ⟨_,(zS (ze rfl)),?_⟩
  replace S:=S.arr [0,1] []
  obtain rfl:=zbE H
  exact ⟨s12,rfl,S⟩
 replace H:=if_f hc13 H
 refine zx (zb (zb (za (wd (zf zG rfl (o':=4) rfl) (wd (zl zB rfl ((S.blk 3).cell (Term.get_sub _))) (wd (does_lenF zz rfl (S.onZ 2)) (wd (zi rfl) (zd ?_))))))))
 obtain ⟨o14,e14,Ho14⟩ := zq H
 clear H
 refine xV ([8,11,12] ++ rg 29 20) (fun fr W => ∃ s14:List (List Int),o14 = .inl s14 ∧ ∃ s15:SlV,St A N w W (oB b_3 xo [s15.v] :: zL s15 s14 :: LT1) LT3) ?_ ?_
 ·refine zO ?_
  refine xR (α:=Nat × Int × (List (List Int))) ([8,11,12] ++ rg 29 20) (fun x fr W=>(x.1:Int)=(a1.sub.length:Int) - x.2.1∧0 ≤ x.2.1∧forN (fun i s=>zda.b0 a2 zeb a0 a1 i s) x.1 x.2.1 x.2.2=some o14 ∧ ∃ s16:SlV,fr 29 = .int .i64 x.2.1∧St A N w W (oB b_3 xo [s16.v] :: zL s16 (x.2.2) :: LT1) LT3) (fun x=>x.1) (((a1.sub.length:Int) - 0).toNat,0,r9.1) ⟨(by dsimp only; have hle:=Int.natCast_nonneg (a1.sub.length); omega),(Int.le_refl _),(by dsimp only; exact e14),s12,rfl,S⟩ ?_
  rintro ⟨m14,i14,x14_0⟩ g14 u14 ⟨hm14,hl14,e14,s17,q14_i,S⟩
  try dsimp only at hm14
  try dsimp only at hl14
  try dsimp only at e14
  try dsimp only at S
  try dsimp only at q14_i
  refine zb (za (wd (xy q14_i rfl) (zd (zb ?_))))
  refine zJ rfl (fun hc18=>?_) (fun hc18=>?_)
  rotate_left
  ·refine x0 ?_
   have hge:(a1.sub.length:Int) ≤ i14:=Int.not_lt.1 (of_decide_eq_false hc18)
   obtain rfl:m14=0:=by omega
   replace e14:=zbf e14
   exact ⟨rfl,df,x14_0,e14,s17,S⟩
  refine zx ?_
  have hlt14:i14 < (a1.sub.length:Int):=of_decide_eq_true hc18
  obtain ⟨m14,rfl⟩ : ∃ m,m14=m + 1:=⟨m14 - 1,by omega⟩
  obtain ⟨q14,H,e14⟩ := zbg e14
  unfold zda.b0 at H
  try dsimp only at H
  have hb14:=(S.lenFZ 2)
  refine zb ?_
  refine zO (zb (za (wd (zi q14_i) (wd (does_indexF zz rfl q14_i (S.onZ 2) (And.intro (show 0 ≤ i14 by omega) (show i14 < (a1.sub.length:Int) from hlt14)).1 (And.intro (show 0 ≤ i14 by omega) (show i14 < (a1.sub.length:Int) from hlt14)).2) ?_))))
  obtain ⟨s20,hc21,S⟩ := S.viewTerm 2 (And.intro (show 0 ≤ i14 by omega) (show i14 < (a1.sub.length:Int) from hlt14))
  replace S:=S
  refine wd (ldC rfl hc21) ?_
  refine zQ xC zbA fun b23 w22 hw22=>?_
  replace S:=S.new hw22
  refine wd (zh rfl) ?_
  refine wsT rfl rfl (S.blk 0) fun w24 B hw24 zw24=>?_
  replace S:=S.store 0 B hw24
  refine zd (zb ?_)
  obtain ⟨hs25,H⟩ := xb H
  have hs25:=of_decide_eq_true hs25
  obtain ⟨ha31,H⟩ := xb H
  have ha31:=of_decide_eq_true ha31
  let LT2:List OA:=[fS 1 IC (⟨s_2.p,Int.toNat (a2.length:Int),Int.toNat (a2.length:Int)⟩ : SlV) (a2.take (Int.toNat (a2.length:Int)))]
  refine vh 12 ⟨fun _ _=>True,fun _ _ _=>True,fun i v _=>match i with
   | 0=>v=Value.pointer a_0
   | 1=>v=Value.agg (tmC (kd a1 i14) s20).toArray
   | 2=>v=s_2.v
   | 3=>v=s_2.v
   | 4=>v=Value.int .i64 (a2.length:Int)
   | 5=>v=s_2.v
   | 6=>v=Value.int .i64 (a2.length:Int)
   | 8=>v=Value.int .i64 i14
   | 11=>v=Value.func (.func yB) #[] #[.pointer (some ⟨b_3,0,none⟩)]
   | _=>True⟩ (fun L g v => ∃ s30:SlV,∃ O33:List OA,∃ Z32:List OA,(∀ z ∈ (zg s20 ((kd a1 i14).sub) :: LT3),z ∈ Z32)∧Made L g Z32 7 41 (fun (c:Unit)=>(⟨s_2.p,Int.toNat (a2.length:Int),Int.toNat (a2.length:Int)⟩ : SlV).v) (fun (c:Unit)=>LT2)∧Made L g Z32 9 43 (fun (c:SlV)=>c.v) (fun (c:SlV)=>[fS 1 IC c ([i14])])∧(L 10=true→g 44=s30.v)∧O33=((bif L 10 then [oS xh 1 IC s30 ((a2.take (Int.toNat (a2.length:Int))) ++ [i14])] else []) ++ (oB b23 zo (tmC (kd a1 i14) s20) :: oB b_3 xo [s17.v] :: zL s17 x14_0 :: LT1))∧St A N w v O33 Z32) hmix zbD (fun _ _ _ _ _ _ _ hv=>hv) (fun g=>⟨SlV.nil,_,_,fun _ h=>h,Made.no,Made.no,(fun h=>by cases h),rfl,S.ext (Ext.drawn _)⟩) ⟨?_,?_,?_,?_,?_,?_,?_,?_,?_,?_,?_,?_,trivial⟩ ?_
  ·rintro L g v hL hcl hclo ⟨s30,O33,Z32,hZ,hm7,hm9,hk10,hO,S⟩ 
   have SR:St A N w v (oB b23 zo (tmC (kd a1 i14) s20) :: oB b_3 xo [s17.v] :: zL s17 x14_0 :: LT1) (zg s20 ((kd a1 i14).sub) :: oMa a_0 g_0_1 true :: oT g_0_1 a0 :: zg s_1 a1.sub :: fS 1 IC s_2 a2 :: Z32):=by
    have S2:=S.zneed hZ
    rw [hO] at S2
    exact S2.drops
   refine wd (zw rfl) ?_
   exact zd (ob4 trivial rfl ⟨s30,O33,Z32,hZ,hm7.keep rfl rfl tl0,hm9.keep rfl rfl tl0,(kpU hk10),by rw [hO]; simp only [pN L 0 10],S⟩)
  ·rintro L g v hL hcl hclo ⟨s30,O33,Z32,hZ,hm7,hm9,hk10,hO,S⟩ 
   have SR:St A N w v (oB b23 zo (tmC (kd a1 i14) s20) :: oB b_3 xo [s17.v] :: zL s17 x14_0 :: LT1) (zg s20 ((kd a1 i14).sub) :: oMa a_0 g_0_1 true :: oT g_0_1 a0 :: zg s_1 a1.sub :: fS 1 IC s_2 a2 :: Z32):=by
    have S2:=S.zneed hZ
    rw [hO] at S2
    exact S2.drops
   refine wd (ldT rfl (SR.blk 0)) ?_
   exact zd (ob4 trivial rfl ⟨s30,O33,Z32,hZ,hm7.keep rfl rfl tl0,hm9.keep rfl rfl tl0,(kpU hk10),by rw [hO]; simp only [pN L 1 10],S⟩)
  ·rintro L g v hL hcl hclo ⟨s30,O33,Z32,hZ,hm7,hm9,hk10,hO,S⟩ 
   have hl10:L 10=false:=clF hL fun h=>hclo 10 2 h zbD
   have SR:St A N w v (oB b23 zo (tmC (kd a1 i14) s20) :: oB b_3 xo [s17.v] :: zL s17 x14_0 :: LT1) (zg s20 ((kd a1 i14).sub) :: oMa a_0 g_0_1 true :: oT g_0_1 a0 :: zg s_1 a1.sub :: fS 1 IC s_2 a2 :: Z32):=by
    have S2:=S.zneed hZ
    rw [hO] at S2
    simp only [hl10,cd2,la2] at S2
    exact S2
   refine wd (zP rfl) ?_
   exact zd (ob4 trivial rfl ⟨s30,O33,Z32,hZ,hm7.keep rfl rfl tl0,hm9.keep rfl rfl tl0,(kpU hk10),by rw [hO]; simp only [pN L 2 10],S⟩)
  ·rintro L g v hL hcl hclo ⟨s30,O33,Z32,hZ,hm7,hm9,hk10,hO,S⟩ 
   have hl10:L 10=false:=clF hL fun h=>hclo 10 3 h zbD
   have SR:St A N w v (oB b23 zo (tmC (kd a1 i14) s20) :: oB b_3 xo [s17.v] :: zL s17 x14_0 :: LT1) (zg s20 ((kd a1 i14).sub) :: oMa a_0 g_0_1 true :: oT g_0_1 a0 :: zg s_1 a1.sub :: fS 1 IC s_2 a2 :: Z32):=by
    have S2:=S.zneed hZ
    rw [hO] at S2
    simp only [hl10,cd2,la2] at S2
    exact S2
   refine wd (zP rfl) ?_
   exact zd (ob4 trivial rfl ⟨s30,O33,Z32,hZ,hm7.keep rfl rfl tl0,hm9.keep rfl rfl tl0,(kpU hk10),by rw [hO]; simp only [pN L 3 10],S⟩)
  ·rintro L g v hL hcl hclo ⟨s30,O33,Z32,hZ,hm7,hm9,hk10,hO,S⟩ hv3
   have hl10:L 10=false:=clF hL fun h=>hclo 10 4 h zbD
   have SR:St A N w v (oB b23 zo (tmC (kd a1 i14) s20) :: oB b_3 xo [s17.v] :: zL s17 x14_0 :: LT1) (zg s20 ((kd a1 i14).sub) :: oMa a_0 g_0_1 true :: oT g_0_1 a0 :: zg s_1 a1.sub :: fS 1 IC s_2 a2 :: Z32):=by
    have S2:=S.zneed hZ
    rw [hO] at S2
    simp only [hl10,cd2,la2] at S2
    exact S2
   refine wd (xN xI hv3 (SR.rd 4)) ?_
   exact zd (ob4 trivial rfl ⟨s30,O33,Z32,hZ,hm7.keep rfl rfl tl0,hm9.keep rfl rfl tl0,(kpU hk10),by rw [hO]; simp only [pN L 4 10],S⟩)
  ·rintro L g v hL hcl hclo ⟨s30,O33,Z32,hZ,hm7,hm9,hk10,hO,S⟩ 
   have hl10:L 10=false:=clF hL fun h=>hclo 10 5 h zbD
   have SR:St A N w v (oB b23 zo (tmC (kd a1 i14) s20) :: oB b_3 xo [s17.v] :: zL s17 x14_0 :: LT1) (zg s20 ((kd a1 i14).sub) :: oMa a_0 g_0_1 true :: oT g_0_1 a0 :: zg s_1 a1.sub :: fS 1 IC s_2 a2 :: Z32):=by
    have S2:=S.zneed hZ
    rw [hO] at S2
    simp only [hl10,cd2,la2] at S2
    exact S2
   refine wd (zP rfl) ?_
   exact zd (ob4 trivial rfl ⟨s30,O33,Z32,hZ,hm7.keep rfl rfl tl0,hm9.keep rfl rfl tl0,(kpU hk10),by rw [hO]; simp only [pN L 5 10],S⟩)
  ·rintro L g v hL hcl hclo ⟨s30,O33,Z32,hZ,hm7,hm9,hk10,hO,S⟩ hv5
   have hl10:L 10=false:=clF hL fun h=>hclo 10 6 h zbD
   have SR:St A N w v (oB b23 zo (tmC (kd a1 i14) s20) :: oB b_3 xo [s17.v] :: zL s17 x14_0 :: LT1) (zg s20 ((kd a1 i14).sub) :: oMa a_0 g_0_1 true :: oT g_0_1 a0 :: zg s_1 a1.sub :: fS 1 IC s_2 a2 :: Z32):=by
    have S2:=S.zneed hZ
    rw [hO] at S2
    simp only [hl10,cd2,la2] at S2
    exact S2
   refine wd (xN xI hv5 (SR.rd 4)) ?_
   exact zd (ob4 trivial rfl ⟨s30,O33,Z32,hZ,hm7.keep rfl rfl tl0,hm9.keep rfl rfl tl0,(kpU hk10),by rw [hO]; simp only [pN L 6 10],S⟩)
  ·rintro L g v hL hcl hclo ⟨s30,O33,Z32,hZ,hm7,hm9,hk10,hO,S⟩ hv2 hv4 hv6
   have hl10:L 10=false:=clF hL fun h=>hclo 10 7 h zbD
   replace S:=(S.zneed hZ)
   have hs34:=hs25
   refine wd (does_clipZ xI hv2 hv4 hv6 (S.rd 4) hs34) ?_
   replace S:=S.clipZ 4 hs34
   exact zd (ob4 trivial trivial ⟨s30,O33,_,(fun z h=>tl6 z (hZ z h)),Made.one (val:=(fun (c:Unit)=>(⟨s_2.p,Int.toNat (a2.length:Int),Int.toNat (a2.length:Int)⟩ : SlV).v)) (ps:=(fun (c:Unit)=>LT2)) () (yf List.mem_cons_self yC),hm9.keep rfl rfl tl6,(kpU hk10),by rw [hO]; simp only [pN L 7 10],S⟩)
  ·rintro L g v hL hcl hclo ⟨s30,O33,Z32,hZ,hm7,hm9,hk10,hO,S⟩ 
   have hl10:L 10=false:=clF hL fun h=>hclo 10 8 h zbD
   have SR:St A N w v (oB b23 zo (tmC (kd a1 i14) s20) :: oB b_3 xo [s17.v] :: zL s17 x14_0 :: LT1) (zg s20 ((kd a1 i14).sub) :: oMa a_0 g_0_1 true :: oT g_0_1 a0 :: zg s_1 a1.sub :: fS 1 IC s_2 a2 :: Z32):=by
    have S2:=S.zneed hZ
    rw [hO] at S2
    simp only [hl10,cd2,la2] at S2
    exact S2
   refine wd (zi rfl) ?_
   exact zd (ob4 trivial rfl ⟨s30,O33,Z32,hZ,hm7.keep rfl rfl tl0,hm9.keep rfl rfl tl0,(kpU hk10),by rw [hO]; simp only [pN L 8 10],S⟩)
  ·rintro L g v hL hcl hclo ⟨s30,O33,Z32,hZ,hm7,hm9,hk10,hO,S⟩ hv8
   have hl10:L 10=false:=clF hL fun h=>hclo 10 9 h zbD
   replace S:=(S.zneed hZ)
   refine vD (C:=IC) (l:=[i14]) (vs:=[.int .i64 i14]) xI zao.zero (xT hv8 rfl) rfl (fun _ _=>rfl) zbA rfl zbA fun b36 w35 s37 hBw35 hw35=>?_
   replace S:=(S.lit hBw35 hw35 zbC).frzS 0
   exact zd (ob4 trivial trivial ⟨s30,O33,_,(fun z h=>tl6 z (hZ z h)),hm7.keep rfl rfl tl6,Made.one (val:=(fun (c:SlV)=>c.v)) (ps:=(fun (c:SlV)=>[fS 1 IC c ([i14])])) s37 (yf List.mem_cons_self yC),(kpU hk10),by rw [hO]; simp only [pN L 9 10],S⟩)
  ·rintro L g v hL hcl hclo ⟨s30,O33,Z32,hZ,hm7,hm9,hk10,hO,S⟩ _ _
   obtain ⟨_,he7,hp7⟩ := hm7 (hcl 7 zbD)
   obtain ⟨s28,he9,hp9⟩ := hm9 (hcl 9 zbD)
   have hl10:L 10=false:=hL
   have hOP : ∃ P Y,P=[]∧Y=(oB b23 zo (tmC (kd a1 i14) s20) :: oB b_3 xo [s17.v] :: zL s17 x14_0 :: LT1)∧O33=P ++ ([] ++ Y):=⟨_,_,rfl,rfl,by rw [hO]; simp only [hl10,cd2,la2]⟩
   obtain ⟨P,Y,hP,hY,hPY⟩ := hOP
   rw [hPY] at S
   replace S:=(S.zneed (xG (l1:=LT2) hp7 (xG (l1:=[fS 1 IC s28 ([i14])]) hp9 hZ)))
   have ha40:=ha31
   refine wl_appendZ (C:=IC) xI zao he7 he9 (S.rd 0) rfl (S.rd 1) zbC ha40 zbB zbA fun s39 w38 O hw38 gw38=>?_
   replace S:=S.ownS hw38 O (by first | (simp; done) | (simp; omega) | (simp only [List.length_append]; omega)) gw38
   clear O
   refine zd (ob4 trivial trivial ⟨s39,P ++ ([oS xh 1 IC s39 ((a2.take (Int.toNat (a2.length:Int))) ++ [i14])] ++ Y),_,(fun z h=>tl7 z (hZ z h)),hm7.keep rfl rfl tl7,hm9.keep rfl rfl tl7,(fun _=>upd_same _ _ _),?_,S.ins (P:=[oS xh 1 IC s39 ((a2.take (Int.toNat (a2.length:Int))) ++ [i14])])⟩)
   rw [hP,hY]; simp only [x9 (L:=L) (i:=10),cd2,la2]
  ·rintro L g v hL hcl hclo ⟨s30,O33,Z32,hZ,hm7,hm9,hk10,hO,S⟩ 
   have SR:St A N w v (oB b23 zo (tmC (kd a1 i14) s20) :: oB b_3 xo [s17.v] :: zL s17 x14_0 :: LT1) (zg s20 ((kd a1 i14).sub) :: oMa a_0 g_0_1 true :: oT g_0_1 a0 :: zg s_1 a1.sub :: fS 1 IC s_2 a2 :: Z32):=by
    have S2:=S.zneed hZ
    rw [hO] at S2
    exact S2.drops
   refine wd (jR rfl) ?_
   exact zd (ob4 trivial rfl ⟨s30,O33,Z32,hZ,hm7.keep rfl rfl tl0,hm9.keep rfl rfl tl0,(kpU hk10),by rw [hO]; simp only [pN L 11 10],S⟩)
  rintro L g w41 hLm ⟨s30,O33,Z32,hZ,hm7,hm9,hk10,hO,S⟩ hv42_0 hv42_1 hv42_2 hv42_3 hv42_4 hv42_5 hv42_6 _ hv42_8 _ _ hv42_11
  have hLt : ∀ j,j < 12→L j=true:=fun j hj=>by rw [hLm]; exact decide_eq_true hj
  obtain ⟨_,hv42_7,hp7⟩ := hm7 (hLt 7 zbA)
  obtain ⟨s28,hv42_9,hp9⟩ := hm9 (hLt 9 zbA)
  have hv42_10:=hk10 (hLt 10 zbA)
  simp only [hLt 10 zbA,cond_true,List.nil_append,List.cons_append] at hO
  rw [hO] at S
  replace S:=S.pickZ (xG (l1:=LT2) hp7 (xG (l1:=[fS 1 IC s28 ([i14])]) hp9 hZ))
  clear hp7 hp9 hZ hm7 hm9
  obtain ⟨r43,er43,H⟩ := zq H
  replace S:=(S.front 3).front 3
  obtain ⟨_,_,T,bk⟩ := S.calln 2 ((.z 3 rfl (.z 4 rfl (.z 2 rfl (.s 0 rfl .nil)))))
  refine zu (zF vA (zK hv42_0 (zK hv42_1 (zK hv42_10 (zK hv42_11 rfl))))) zbA (zdL (a1:=(kd a1 i14)) T er43) ?_
  rintro _ w44 ⟨s46,rfl,S2⟩
  replace S:=bk _ _ _ _ S2 rfl
  refine wd (xg rfl) (zd ?_)
  refine zJ rfl (fun hc47=>?_) (fun hc47=>?_)
  ·replace H:=if_t hc47 H
   refine zb (za (wd (zj rfl) (zd (zr ?_))))
   refine ⟨_,(zS (ze rfl)),?_⟩
   replace S:=S.arr [0,1] []
   obtain rfl:=zbE H
   obtain rfl:=e14
   obtain rfl:=uI Ho14
   exact ⟨s46,rfl,S⟩
  replace H:=if_f hc47 H
  refine zx (za (wd (xt q14_i rfl (c:=i14 + 1) rfl zbB zbB) (wd (zi rfl) (zd ?_))))
  replace S:=S.arr [0,1,4,5] [3,4,5,6]
  obtain rfl:=zbE H
  exact ⟨rfl,df,(m14,i14 + 1,r43.1),⟨(by dsimp only; omega),(by dsimp only; omega),e14,s46,rfl,S⟩,by dsimp only; omega⟩
 rintro g48 u49 ⟨s14,rfl,s15,S⟩
 have H:=Ho14
 dsimp only [aft] at H
 refine zb (za (wd (zj rfl) (zd (zr ?_))))
 refine ⟨_,(zS (ze rfl)),?_⟩
 replace S:=S.arr [0,1] []
 obtain rfl:=zbE H
 exact ⟨s15,rfl,S⟩
theorem uR {a0:Tb} {a_0:Option Addr} {g_0_1:Option Addr} {a1:PTerm} {s_1:SlV} {a2:List Int} {s_2:SlV} {a3_0:List (List Int)} {b_3:Nat} {s_3_1:SlV} (S:St A N w w [oB b_3 xo [s_3_1.v],zL s_3_1 a3_0] [oMa a_0 g_0_1 true,oT g_0_1 a0,zg s_1 a1.sub,fS 1 IC s_2 a2]) {k:Nat} {r:List (List Int) × Bool} (H:zda.f k a0 a1 a2 a3_0=some r) :
  Calls PP xM #[.pointer a_0,.agg (tmC a1 s_1).toArray,s_2.v,.func (.func yB) #[] #[.pointer (some ⟨b_3,0,none⟩)]] w <| Rt fun v w'=>(∃ so0:SlV,v = .bool r.2∧St A N w w' [oB b_3 xo [so0.v],zL so0 r.1] []):=by
 have main : ∀ (k:Nat) {A:Nat→Prop} {N:Oth} {w:World} {a0:Tb} {a_0:Option Addr} {g_0_1:Option Addr} {a1:PTerm} {s_1:SlV} {a2:List Int} {s_2:SlV} {a3_0:List (List Int)} {b_3:Nat} {s_3_1:SlV} (S:St A N w w [oB b_3 xo [s_3_1.v],zL s_3_1 a3_0] [oMa a_0 g_0_1 true,oT g_0_1 a0,zg s_1 a1.sub,fS 1 IC s_2 a2]) {r:List (List Int) × Bool} (H:zda.f k a0 a1 a2 a3_0=some r),Calls PP xM #[.pointer a_0,.agg (tmC a1 s_1).toArray,s_2.v,.func (.func yB) #[] #[.pointer (some ⟨b_3,0,none⟩)]] w <| Rt fun v w'=>(∃ so0:SlV,v = .bool r.2∧St A N w w' [oB b_3 xo [so0.v],zL so0 r.1] []):=by
  intro k
  induction k with
  | zero=>intro A N w a0 a_0 g_0_1 a1 s_1 a2 s_2 a3_0 b_3 s_3_1 S r H; cases H
  | succ k ih=>intro A N w a0 a_0 g_0_1 a1 s_1 a2 s_2 a3_0 b_3 s_3_1 S r H; exact uJ ih S H
 exact main k S H
theorem km {a0:Tb} {a_0:Option Addr} {a1:PTerm} {s_1:SlV} (S:St A N w w [] [oT a_0 a0,zg s_1 a1.sub,oPw]) {k:Nat} {r:List (List Int) × Int} (H:zdb.f k a0 a1=some r) :
  Calls PP zbo #[.pointer a_0,.agg (tmC a1 s_1).toArray] w <| Rt fun v w'=>(∃ so0:SlV,v = .tuple #[so0.v,.int .i64 r.2]∧St A N w w' [zL so0 r.1] []):=by
 unfold zdb.f at H
 refine zy (n:=23) Tryz.func12 rfl rfl zbC (zb (za ?_))
 refine zE rfl zbA fun b2 w1 hw1=>?_
 replace S:=S.new hw1
 refine wd (x7) (wd (zh rfl) (zd (zb (za (wd (zw rfl) (wd (ldT rfl (S.blk 0)) ?_))))))
 obtain ⟨r3,er3,H⟩ := zq H
 obtain ⟨_,_,T,bk⟩ := S.sub [0,1,2] [] [oB b2 zo (tmC a1 s_1)]
 refine zu (zt zam) zbA (zaq (a1:=a1) T er3) ?_
 rintro _ w4 ⟨a6,rfl,S2⟩
 replace S:=bk _ _ _ _ _ S2 rfl rfl
 refine wd (zU rfl) (wd (zn rfl rfl) (wd (zn rfl rfl) (wd (zX rfl) (wd (zh rfl) (zd (zb (zb (za ?_))))))))
 refine wd (zi rfl) (wd (xr rfl rfl) (zd ?_))
 refine zJ rfl (fun hc7=>?_) (fun hc7=>?_)
 ·replace H:=if_t hc7 H
  refine zb (za (wd (zi rfl) (wd (x7) (wd (zh rfl) (zd (zr ?_))))))
  replace S:=S.nilD xH 1 L_int.C rL_int
  refine ⟨_,(xd (ze rfl) (ze rfl)),?_⟩
  replace S:=S.arr [0] []
  obtain rfl:=zbE H
  exact ⟨SlV.nil,rfl,S⟩
 replace H:=if_f hc7 H
 refine zx (zb (za ?_))
 refine zQ zs_L_L_int zbA fun b9 w8 hw8=>?_
 replace S:=S.new hw8
 refine zd (zb (za (wd (zw rfl) (wd (ldT rfl (S.blk 1)) (wd (does_funcl) ?_)))))
 replace S:=S.nilD xH 1 L_int.C rL_int
 obtain ⟨ht11,H⟩ := xb H
 rw [ht11] at S
 replace S:=S.nilZ 1 IC
 obtain ⟨r10,er10,H⟩ := zq H
 replace S:=S.front 1
 obtain ⟨_,_,T,bk⟩ := S.calln 2 ((.z 1 rfl (.z 2 rfl (.z 3 rfl (.z 0 rfl .nil)))))
 refine zu (zF vA (zK rfl (zK rfl (zK SlV.nil_eq (zK rfl rfl))))) zbA (uR (a1:=a1) T er10) ?_
 rintro _ w12 ⟨s14,rfl,S2⟩
 replace S:=bk _ _ _ _ S2 rfl
 refine zd (zb (za (wd (zl kH rfl ((S.blk 0).cell rfl)) (wd (y4 rfl) (wd (zh rfl) (zd (zr ?_)))))))
 refine ⟨_,(xd (ze rfl) (ze rfl)),?_⟩
 replace S:=S.arr [1] []
 obtain rfl:=zbE H
 exact ⟨s14,rfl,S⟩
theorem reduce_Normal_st {a0:Tb} {a_0:Option Addr} {a1:PTerm} {s_1:SlV} (S:St A N w w [] [oT a_0 a0,zg s_1 a1.sub,oPw]) {k:Nat} {r:Bool × Int} (H:zdc.f k a0 a1=some r) :
  Calls PP F_reduce_Normal #[.pointer a_0,.agg (tmC a1 s_1).toArray] w <| Rt fun v w'=>(v = .tuple #[.bool r.1,.int .i64 r.2]∧St A N w w' [] []):=by
 unfold zdc.f at H
 refine zy (n:=22) Tryz.func15 rfl rfl zbC (zb (za ?_))
 refine zE rfl zbA fun b2 w1 hw1=>?_
 replace S:=S.new hw1
 refine wd (zj rfl) (wd (zh rfl) (zd (zb (za (wd (zw rfl) (wd (ldT rfl (S.blk 0)) ?_))))))
 obtain ⟨r3,er3,H⟩ := zq H
 obtain ⟨_,_,T,bk⟩ := S.calln 0 ((.z 0 rfl (.z 1 rfl (.z 2 rfl .nil))))
 refine zu (zt j9) zbA (km (a1:=a1) T er3) ?_
 rintro _ w4 ⟨s6,rfl,S2⟩
 replace S:=bk _ _ _ _ S2 rfl
 refine wd (zU rfl) (wd (zn rfl rfl) (wd (zn rfl rfl) (wd (y4 rfl) (wd (zh rfl) (zd (zb (za ?_)))))))
 refine wd (zi rfl) (wd (zV rfl rfl) (wd (zA rfl) ?_))
 refine wg (fun hg=>zP rfl) ?_
 refine wg (fun hg=>kD y7 (zp hg) (S.onO 0)) ?_
 refine wg (fun hg=>zV (zp hg) rfl) (wd (zZ rfl (fun hp=>(zp (xz hp)))) (wd (zi rfl) (wd (zj rfl) (wd (zh rfl) (zd (zr ?_))))))
 refine ⟨_,(xd (ze rfl) (ze rfl)),?_⟩
 replace S:=S.arr [] []
 obtain rfl:=zbE H
 exact ⟨rfl,S⟩
theorem reduce_Run_1_st {a0:List Int} {s_0:SlV} {a1:List Int} {b_1:Nat} {s_1_1:SlV} (S:St A N w w [oB b_1 xH [s_1_1.v],oS xh 1 IC s_1_1 a1] [fS 1 IC s_0 a0]) {r:List Int × Bool} (H:zdd.f a0 a1=some r) :
  Calls PP vP #[s_0.v,.pointer (some ⟨b_1,0,none⟩)] w <| Rt fun v w'=>(∃ so0:SlV,v = .bool r.2∧St A N w w' [oB b_1 xH [so0.v],oS xh 1 IC so0 r.1] []):=by
 unfold zdd.f at H
 refine zy (n:=6) Tryz.func53 rfl rfl zbC (zb (za (wd (zj rfl) (zd (zb (za (wd (zP rfl) ?_)))))))
 obtain ⟨r1,er1,H⟩ := zq H
 obtain ⟨_,_,T,bk⟩ := S.calln 0 ((.z 0 rfl .nil))
 refine zu (zt jQ) zbA (jU T er1) ?_
 rintro _ w2 ⟨s4,rfl,S2⟩
 replace S:=bk _ _ _ _ S2 rfl
 refine yJ kk rfl rfl (S.blk 1) zbC (SlV.one _ _ rfl) rfl fun w5 B hw5 zw5=>?_
 replace S:=S.store 1 B hw5
 refine zd (zb (za (wd (zj rfl) (zd (zr ?_)))))
 refine ⟨_,(zS (ze rfl)),?_⟩
 replace S:=S.arr [0,1] []
 obtain rfl:=zbE H
 exact ⟨s4,rfl,S⟩
theorem jt {zec:Tb→PTerm→List Int→List Int→Option (List Int × Bool)} (zdM : ∀ {A:Nat→Prop} {N:Oth} {w:World} {a0:Tb} {a_0:Option Addr} {g_0_1:Option Addr} {a1:PTerm} {s_1:SlV} {a2:List Int} {s_2:SlV} {a3_0:List Int} {b_3:Nat} {s_3_1:SlV} (S:St A N w w [oB b_3 xH [s_3_1.v],oS xh 1 IC s_3_1 a3_0] [oMa a_0 g_0_1 true,oT g_0_1 a0,zg s_1 a1.sub,fS 1 IC s_2 a2]) {r:List Int × Bool} (H:zec a0 a1 a2 a3_0=some r),Calls PP xM #[.pointer a_0,.agg (tmC a1 s_1).toArray,s_2.v,.func (.func vP) #[] #[.pointer (some ⟨b_3,0,none⟩)]] w <| Rt fun v w'=>(∃ so0:SlV,v = .bool r.2∧St A N w w' [oB b_3 xH [so0.v],oS xh 1 IC so0 r.1] [])) {A:Nat→Prop} {N:Oth} {w:World} {a0:Tb} {a_0:Option Addr} {g_0_1:Option Addr} {a1:PTerm} {s_1:SlV} {a2:List Int} {s_2:SlV} {a3_0:List Int} {b_3:Nat} {s_3_1:SlV} (S:St A N w w [oB b_3 xH [s_3_1.v],oS xh 1 IC s_3_1 a3_0] [oMa a_0 g_0_1 true,oT g_0_1 a0,zg s_1 a1.sub,fS 1 IC s_2 a2]) {r:List Int × Bool} (H:zde.g zec a0 a1 a2 a3_0=some r) :
  Calls PP xM #[.pointer a_0,.agg (tmC a1 s_1).toArray,s_2.v,.func (.func vP) #[] #[.pointer (some ⟨b_3,0,none⟩)]] w <| Rt fun v w'=>(∃ so0:SlV,v = .bool r.2∧St A N w w' [oB b_3 xH [so0.v],oS xh 1 IC so0 r.1] []):=by
 unfold zde.g at H
 refine zy (n:=49) Tryz.func39 rfl rfl zbC (zb (za ?_))
 refine zE rfl zbA fun b2 w1 hw1=>?_
 replace S:=S.new hw1
 refine wd (zj rfl) (zd (zb (zb (za (wd (zw rfl) (wd (ldT rfl (S.blk 0)) ?_))))))
 obtain ⟨r3,er3,H⟩ := zq H
 obtain ⟨_,_,T,bk⟩ := S.calln 0 ((.z 0 rfl (.z 1 rfl (.z 2 rfl .nil))))
 refine zu (zt uC) zbA (uG (a1:=a1) T er3) ?_
 rintro _ w4 ⟨rfl,S2⟩
 replace S:=bk _ _ _ _ S2 rfl
 refine wd (zU rfl) (wd (zn rfl rfl) (wd (zn rfl rfl) ?_))
 refine zQ uL zbA fun b7 w6 hw6=>?_
 replace S:=S.new hw6
 refine zT xm rfl rfl (S.blk 0) (RRule.len _) (by rw [RRule.len]; decide) (RRule.one _) (xe (RRule.len _)) fun w8 B hw8 zw8=>?_
 replace S:=S.store 0 B hw8
 refine wd (zj rfl) (zd (zb (za (wd (zA rfl) (wd (zA rfl) ?_)))))
 refine wg (fun hg=>jR rfl) ?_
 refine wg (fun hg=>zP rfl) ?_
 obtain ⟨r9,er9,H⟩ := zq H
 replace S:=(S.front 3).front 3
 obtain ⟨_,_,T,bk⟩ := S.calln 2 ((.z 3 rfl .nil))
 let LT3:List OA:=[oMa a_0 g_0_1 true,oT g_0_1 a0,zg s_1 a1.sub,fS 1 IC s_2 a2]
 let LT4:List OA:=[oB b7 jF (RRule.C (ju r3.1)),oB b2 zo (tmC a1 s_1)]
 refine wl_gturn (R:=fun W => ∃ s12:SlV,St A N w W (oB b_3 xH [s12.v] :: oS xh 1 IC s12 r9.1 :: LT4) LT3) (j:=1) (pol:=true) rfl rfl rfl zbA (fun hg=>does_callvg ca_reduce_Run_1 (zp hg) (zK (zp hg) rfl)) zbA (fun hg=>zaM (reduce_Run_1_st T (if_t (by simpa using hg) er9)) fun _ _ ⟨s12,hv,S2⟩ => ⟨hv,⟨s12,bk _ _ _ _ S2 rfl⟩⟩) (fun hg=>by obtain rfl:=zbE (if_f (by simpa using hg) er9); exact ⟨s_3_1,S⟩) fun w10 S2=>?_
 obtain ⟨s12,S2⟩ := S2
 replace S:St A N w w10 (oB b_3 xH [s12.v] :: oS xh 1 IC s12 r9.1 :: LT4) LT3:=S2
 refine wg (fun hg=>xg (zp hg)) (wd (zZ rfl (fun hp=>(zp (xz hp)))) (zd ?_))
 refine zJ rfl (fun hc13=>?_) (fun hc13=>?_)
 ·replace H:=if_t hc13 H
  refine zb (za (wd (zj rfl) (zd (zr ?_))))
  refine ⟨_,(zS (ze rfl)),?_⟩
  replace S:=S.arr [0,1] []
  obtain rfl:=zbE H
  exact ⟨s12,rfl,S⟩
 replace H:=if_f hc13 H
 refine zx (zb (zb (za (wd (zf zG rfl (o':=4) rfl) (wd (zl zB rfl ((S.blk 3).cell (Term.get_sub _))) (wd (does_lenF zz rfl (S.onZ 2)) (wd (zi rfl) (zd ?_))))))))
 obtain ⟨o14,e14,Ho14⟩ := zq H
 clear H
 refine xV ([8,11,12] ++ rg 29 20) (fun fr W => ∃ s14:List Int,o14 = .inl s14 ∧ ∃ s15:SlV,St A N w W (oB b_3 xH [s15.v] :: oS xh 1 IC s15 s14 :: LT4) LT3) ?_ ?_
 ·refine zO ?_
  refine xR (α:=Nat × Int × (List Int)) ([8,11,12] ++ rg 29 20) (fun x fr W=>(x.1:Int)=(a1.sub.length:Int) - x.2.1∧0 ≤ x.2.1∧forN (fun i s=>zde.b0 a2 zec a0 a1 i s) x.1 x.2.1 x.2.2=some o14 ∧ ∃ s16:SlV,fr 29 = .int .i64 x.2.1∧St A N w W (oB b_3 xH [s16.v] :: oS xh 1 IC s16 (x.2.2) :: LT4) LT3) (fun x=>x.1) (((a1.sub.length:Int) - 0).toNat,0,r9.1) ⟨(by dsimp only; have hle:=Int.natCast_nonneg (a1.sub.length); omega),(Int.le_refl _),(by dsimp only; exact e14),s12,rfl,S⟩ ?_
  rintro ⟨m14,i14,x14_0⟩ g14 u14 ⟨hm14,hl14,e14,s17,q14_i,S⟩
  try dsimp only at hm14
  try dsimp only at hl14
  try dsimp only at e14
  try dsimp only at S
  try dsimp only at q14_i
  refine zb (za (wd (xy q14_i rfl) (zd (zb ?_))))
  refine zJ rfl (fun hc18=>?_) (fun hc18=>?_)
  rotate_left
  ·refine x0 ?_
   have hge:(a1.sub.length:Int) ≤ i14:=Int.not_lt.1 (of_decide_eq_false hc18)
   obtain rfl:m14=0:=by omega
   replace e14:=zbf e14
   exact ⟨rfl,df,x14_0,e14,s17,S⟩
  refine zx ?_
  have hlt14:i14 < (a1.sub.length:Int):=of_decide_eq_true hc18
  obtain ⟨m14,rfl⟩ : ∃ m,m14=m + 1:=⟨m14 - 1,by omega⟩
  obtain ⟨q14,H,e14⟩ := zbg e14
  unfold zde.b0 at H
  try dsimp only at H
  have hb14:=(S.lenFZ 2)
  refine zb ?_
  refine zO (zb (za (wd (zi q14_i) (wd (does_indexF zz rfl q14_i (S.onZ 2) (And.intro (show 0 ≤ i14 by omega) (show i14 < (a1.sub.length:Int) from hlt14)).1 (And.intro (show 0 ≤ i14 by omega) (show i14 < (a1.sub.length:Int) from hlt14)).2) ?_))))
  obtain ⟨s20,hc21,S⟩ := S.viewTerm 2 (And.intro (show 0 ≤ i14 by omega) (show i14 < (a1.sub.length:Int) from hlt14))
  replace S:=S
  refine wd (ldC rfl hc21) ?_
  refine zQ xC zbA fun b23 w22 hw22=>?_
  replace S:=S.new hw22
  refine wd (zh rfl) ?_
  refine wsT rfl rfl (S.blk 0) fun w24 B hw24 zw24=>?_
  replace S:=S.store 0 B hw24
  refine zd (zb ?_)
  obtain ⟨hs25,H⟩ := xb H
  have hs25:=of_decide_eq_true hs25
  obtain ⟨ha31,H⟩ := xb H
  have ha31:=of_decide_eq_true ha31
  let LT1:List OA:=(oS xh 1 IC s17 x14_0 :: LT4)
  let LT2:List OA:=[fS 1 IC (⟨s_2.p,Int.toNat (a2.length:Int),Int.toNat (a2.length:Int)⟩ : SlV) (a2.take (Int.toNat (a2.length:Int)))]
  refine vh 12 ⟨fun _ _=>True,fun _ _ _=>True,fun i v _=>match i with
   | 0=>v=Value.pointer a_0
   | 1=>v=Value.agg (tmC (kd a1 i14) s20).toArray
   | 2=>v=s_2.v
   | 3=>v=s_2.v
   | 4=>v=Value.int .i64 (a2.length:Int)
   | 5=>v=s_2.v
   | 6=>v=Value.int .i64 (a2.length:Int)
   | 8=>v=Value.int .i64 i14
   | 11=>v=Value.func (.func vP) #[] #[.pointer (some ⟨b_3,0,none⟩)]
   | _=>True⟩ (fun L g v => ∃ s30:SlV,∃ O33:List OA,∃ Z32:List OA,(∀ z ∈ (zg s20 ((kd a1 i14).sub) :: LT3),z ∈ Z32)∧Made L g Z32 7 41 (fun (c:Unit)=>(⟨s_2.p,Int.toNat (a2.length:Int),Int.toNat (a2.length:Int)⟩ : SlV).v) (fun (c:Unit)=>LT2)∧Made L g Z32 9 43 (fun (c:SlV)=>c.v) (fun (c:SlV)=>[fS 1 IC c ([i14])])∧(L 10=true→g 44=s30.v)∧O33=((bif L 10 then [oS xh 1 IC s30 ((a2.take (Int.toNat (a2.length:Int))) ++ [i14])] else []) ++ (oB b23 zo (tmC (kd a1 i14) s20) :: oB b_3 xH [s17.v] :: LT1))∧St A N w v O33 Z32) hmix zbD (fun _ _ _ _ _ _ _ hv=>hv) (fun g=>⟨SlV.nil,_,_,fun _ h=>h,Made.no,Made.no,(fun h=>by cases h),rfl,S.ext (Ext.drawn _)⟩) ⟨?_,?_,?_,?_,?_,?_,?_,?_,?_,?_,?_,?_,trivial⟩ ?_
  ·rintro L g v hL hcl hclo ⟨s30,O33,Z32,hZ,hm7,hm9,hk10,hO,S⟩ 
   have SR:St A N w v (oB b23 zo (tmC (kd a1 i14) s20) :: oB b_3 xH [s17.v] :: LT1) (zg s20 ((kd a1 i14).sub) :: oMa a_0 g_0_1 true :: oT g_0_1 a0 :: zg s_1 a1.sub :: fS 1 IC s_2 a2 :: Z32):=by
    have S2:=S.zneed hZ
    rw [hO] at S2
    exact S2.drops
   refine wd (zw rfl) ?_
   exact zd (ob4 trivial rfl ⟨s30,O33,Z32,hZ,hm7.keep rfl rfl tl0,hm9.keep rfl rfl tl0,(kpU hk10),by rw [hO]; simp only [pN L 0 10],S⟩)
  ·rintro L g v hL hcl hclo ⟨s30,O33,Z32,hZ,hm7,hm9,hk10,hO,S⟩ 
   have SR:St A N w v (oB b23 zo (tmC (kd a1 i14) s20) :: oB b_3 xH [s17.v] :: LT1) (zg s20 ((kd a1 i14).sub) :: oMa a_0 g_0_1 true :: oT g_0_1 a0 :: zg s_1 a1.sub :: fS 1 IC s_2 a2 :: Z32):=by
    have S2:=S.zneed hZ
    rw [hO] at S2
    exact S2.drops
   refine wd (ldT rfl (SR.blk 0)) ?_
   exact zd (ob4 trivial rfl ⟨s30,O33,Z32,hZ,hm7.keep rfl rfl tl0,hm9.keep rfl rfl tl0,(kpU hk10),by rw [hO]; simp only [pN L 1 10],S⟩)
  ·rintro L g v hL hcl hclo ⟨s30,O33,Z32,hZ,hm7,hm9,hk10,hO,S⟩ 
   have hl10:L 10=false:=clF hL fun h=>hclo 10 2 h zbD
   have SR:St A N w v (oB b23 zo (tmC (kd a1 i14) s20) :: oB b_3 xH [s17.v] :: LT1) (zg s20 ((kd a1 i14).sub) :: oMa a_0 g_0_1 true :: oT g_0_1 a0 :: zg s_1 a1.sub :: fS 1 IC s_2 a2 :: Z32):=by
    have S2:=S.zneed hZ
    rw [hO] at S2
    simp only [hl10,cd2,la2] at S2
    exact S2
   refine wd (zP rfl) ?_
   exact zd (ob4 trivial rfl ⟨s30,O33,Z32,hZ,hm7.keep rfl rfl tl0,hm9.keep rfl rfl tl0,(kpU hk10),by rw [hO]; simp only [pN L 2 10],S⟩)
  ·rintro L g v hL hcl hclo ⟨s30,O33,Z32,hZ,hm7,hm9,hk10,hO,S⟩ 
   have hl10:L 10=false:=clF hL fun h=>hclo 10 3 h zbD
   have SR:St A N w v (oB b23 zo (tmC (kd a1 i14) s20) :: oB b_3 xH [s17.v] :: LT1) (zg s20 ((kd a1 i14).sub) :: oMa a_0 g_0_1 true :: oT g_0_1 a0 :: zg s_1 a1.sub :: fS 1 IC s_2 a2 :: Z32):=by
    have S2:=S.zneed hZ
    rw [hO] at S2
    simp only [hl10,cd2,la2] at S2
    exact S2
   refine wd (zP rfl) ?_
   exact zd (ob4 trivial rfl ⟨s30,O33,Z32,hZ,hm7.keep rfl rfl tl0,hm9.keep rfl rfl tl0,(kpU hk10),by rw [hO]; simp only [pN L 3 10],S⟩)
  ·rintro L g v hL hcl hclo ⟨s30,O33,Z32,hZ,hm7,hm9,hk10,hO,S⟩ hv3
   have hl10:L 10=false:=clF hL fun h=>hclo 10 4 h zbD
   have SR:St A N w v (oB b23 zo (tmC (kd a1 i14) s20) :: oB b_3 xH [s17.v] :: LT1) (zg s20 ((kd a1 i14).sub) :: oMa a_0 g_0_1 true :: oT g_0_1 a0 :: zg s_1 a1.sub :: fS 1 IC s_2 a2 :: Z32):=by
    have S2:=S.zneed hZ
    rw [hO] at S2
    simp only [hl10,cd2,la2] at S2
    exact S2
   refine wd (xN xI hv3 (SR.rd 4)) ?_
   exact zd (ob4 trivial rfl ⟨s30,O33,Z32,hZ,hm7.keep rfl rfl tl0,hm9.keep rfl rfl tl0,(kpU hk10),by rw [hO]; simp only [pN L 4 10],S⟩)
  ·rintro L g v hL hcl hclo ⟨s30,O33,Z32,hZ,hm7,hm9,hk10,hO,S⟩ 
   have hl10:L 10=false:=clF hL fun h=>hclo 10 5 h zbD
   have SR:St A N w v (oB b23 zo (tmC (kd a1 i14) s20) :: oB b_3 xH [s17.v] :: LT1) (zg s20 ((kd a1 i14).sub) :: oMa a_0 g_0_1 true :: oT g_0_1 a0 :: zg s_1 a1.sub :: fS 1 IC s_2 a2 :: Z32):=by
    have S2:=S.zneed hZ
    rw [hO] at S2
    simp only [hl10,cd2,la2] at S2
    exact S2
   refine wd (zP rfl) ?_
   exact zd (ob4 trivial rfl ⟨s30,O33,Z32,hZ,hm7.keep rfl rfl tl0,hm9.keep rfl rfl tl0,(kpU hk10),by rw [hO]; simp only [pN L 5 10],S⟩)
  ·rintro L g v hL hcl hclo ⟨s30,O33,Z32,hZ,hm7,hm9,hk10,hO,S⟩ hv5
   have hl10:L 10=false:=clF hL fun h=>hclo 10 6 h zbD
   have SR:St A N w v (oB b23 zo (tmC (kd a1 i14) s20) :: oB b_3 xH [s17.v] :: LT1) (zg s20 ((kd a1 i14).sub) :: oMa a_0 g_0_1 true :: oT g_0_1 a0 :: zg s_1 a1.sub :: fS 1 IC s_2 a2 :: Z32):=by
    have S2:=S.zneed hZ
    rw [hO] at S2
    simp only [hl10,cd2,la2] at S2
    exact S2
   refine wd (xN xI hv5 (SR.rd 4)) ?_
   exact zd (ob4 trivial rfl ⟨s30,O33,Z32,hZ,hm7.keep rfl rfl tl0,hm9.keep rfl rfl tl0,(kpU hk10),by rw [hO]; simp only [pN L 6 10],S⟩)
  ·rintro L g v hL hcl hclo ⟨s30,O33,Z32,hZ,hm7,hm9,hk10,hO,S⟩ hv2 hv4 hv6
   have hl10:L 10=false:=clF hL fun h=>hclo 10 7 h zbD
   replace S:=(S.zneed hZ)
   have hs34:=hs25
   refine wd (does_clipZ xI hv2 hv4 hv6 (S.rd 4) hs34) ?_
   replace S:=S.clipZ 4 hs34
   exact zd (ob4 trivial trivial ⟨s30,O33,_,(fun z h=>tl6 z (hZ z h)),Made.one (val:=(fun (c:Unit)=>(⟨s_2.p,Int.toNat (a2.length:Int),Int.toNat (a2.length:Int)⟩ : SlV).v)) (ps:=(fun (c:Unit)=>LT2)) () (yf List.mem_cons_self yC),hm9.keep rfl rfl tl6,(kpU hk10),by rw [hO]; simp only [pN L 7 10],S⟩)
  ·rintro L g v hL hcl hclo ⟨s30,O33,Z32,hZ,hm7,hm9,hk10,hO,S⟩ 
   have hl10:L 10=false:=clF hL fun h=>hclo 10 8 h zbD
   have SR:St A N w v (oB b23 zo (tmC (kd a1 i14) s20) :: oB b_3 xH [s17.v] :: LT1) (zg s20 ((kd a1 i14).sub) :: oMa a_0 g_0_1 true :: oT g_0_1 a0 :: zg s_1 a1.sub :: fS 1 IC s_2 a2 :: Z32):=by
    have S2:=S.zneed hZ
    rw [hO] at S2
    simp only [hl10,cd2,la2] at S2
    exact S2
   refine wd (zi rfl) ?_
   exact zd (ob4 trivial rfl ⟨s30,O33,Z32,hZ,hm7.keep rfl rfl tl0,hm9.keep rfl rfl tl0,(kpU hk10),by rw [hO]; simp only [pN L 8 10],S⟩)
  ·rintro L g v hL hcl hclo ⟨s30,O33,Z32,hZ,hm7,hm9,hk10,hO,S⟩ hv8
   have hl10:L 10=false:=clF hL fun h=>hclo 10 9 h zbD
   replace S:=(S.zneed hZ)
   refine vD (C:=IC) (l:=[i14]) (vs:=[.int .i64 i14]) xI zao.zero (xT hv8 rfl) rfl (fun _ _=>rfl) zbA rfl zbA fun b36 w35 s37 hBw35 hw35=>?_
   replace S:=(S.lit hBw35 hw35 zbC).frzS 0
   exact zd (ob4 trivial trivial ⟨s30,O33,_,(fun z h=>tl6 z (hZ z h)),hm7.keep rfl rfl tl6,Made.one (val:=(fun (c:SlV)=>c.v)) (ps:=(fun (c:SlV)=>[fS 1 IC c ([i14])])) s37 (yf List.mem_cons_self yC),(kpU hk10),by rw [hO]; simp only [pN L 9 10],S⟩)
  ·rintro L g v hL hcl hclo ⟨s30,O33,Z32,hZ,hm7,hm9,hk10,hO,S⟩ _ _
   obtain ⟨_,he7,hp7⟩ := hm7 (hcl 7 zbD)
   obtain ⟨s28,he9,hp9⟩ := hm9 (hcl 9 zbD)
   have hl10:L 10=false:=hL
   have hOP : ∃ P Y,P=[]∧Y=(oB b23 zo (tmC (kd a1 i14) s20) :: oB b_3 xH [s17.v] :: LT1)∧O33=P ++ ([] ++ Y):=⟨_,_,rfl,rfl,by rw [hO]; simp only [hl10,cd2,la2]⟩
   obtain ⟨P,Y,hP,hY,hPY⟩ := hOP
   rw [hPY] at S
   replace S:=(S.zneed (xG (l1:=LT2) hp7 (xG (l1:=[fS 1 IC s28 ([i14])]) hp9 hZ)))
   have ha40:=ha31
   refine wl_appendZ (C:=IC) xI zao he7 he9 (S.rd 0) rfl (S.rd 1) zbC ha40 zbB zbA fun s39 w38 O hw38 gw38=>?_
   replace S:=S.ownS hw38 O (by first | (simp; done) | (simp; omega) | (simp only [List.length_append]; omega)) gw38
   clear O
   refine zd (ob4 trivial trivial ⟨s39,P ++ ([oS xh 1 IC s39 ((a2.take (Int.toNat (a2.length:Int))) ++ [i14])] ++ Y),_,(fun z h=>tl7 z (hZ z h)),hm7.keep rfl rfl tl7,hm9.keep rfl rfl tl7,(fun _=>upd_same _ _ _),?_,S.ins (P:=[oS xh 1 IC s39 ((a2.take (Int.toNat (a2.length:Int))) ++ [i14])])⟩)
   rw [hP,hY]; simp only [x9 (L:=L) (i:=10),cd2,la2]
  ·rintro L g v hL hcl hclo ⟨s30,O33,Z32,hZ,hm7,hm9,hk10,hO,S⟩ 
   have SR:St A N w v (oB b23 zo (tmC (kd a1 i14) s20) :: oB b_3 xH [s17.v] :: LT1) (zg s20 ((kd a1 i14).sub) :: oMa a_0 g_0_1 true :: oT g_0_1 a0 :: zg s_1 a1.sub :: fS 1 IC s_2 a2 :: Z32):=by
    have S2:=S.zneed hZ
    rw [hO] at S2
    exact S2.drops
   refine wd (jR rfl) ?_
   exact zd (ob4 trivial rfl ⟨s30,O33,Z32,hZ,hm7.keep rfl rfl tl0,hm9.keep rfl rfl tl0,(kpU hk10),by rw [hO]; simp only [pN L 11 10],S⟩)
  rintro L g w41 hLm ⟨s30,O33,Z32,hZ,hm7,hm9,hk10,hO,S⟩ hv42_0 hv42_1 hv42_2 hv42_3 hv42_4 hv42_5 hv42_6 _ hv42_8 _ _ hv42_11
  have hLt : ∀ j,j < 12→L j=true:=fun j hj=>by rw [hLm]; exact decide_eq_true hj
  obtain ⟨_,hv42_7,hp7⟩ := hm7 (hLt 7 zbA)
  obtain ⟨s28,hv42_9,hp9⟩ := hm9 (hLt 9 zbA)
  have hv42_10:=hk10 (hLt 10 zbA)
  simp only [hLt 10 zbA,cond_true,List.nil_append,List.cons_append] at hO
  rw [hO] at S
  replace S:=S.pickZ (xG (l1:=LT2) hp7 (xG (l1:=[fS 1 IC s28 ([i14])]) hp9 hZ))
  clear hp7 hp9 hZ hm7 hm9
  obtain ⟨r43,er43,H⟩ := zq H
  replace S:=(S.front 3).front 3
  obtain ⟨_,_,T,bk⟩ := S.calln 2 ((.z 3 rfl (.z 4 rfl (.z 2 rfl (.s 0 rfl .nil)))))
  refine zu (zF vA (zK hv42_0 (zK hv42_1 (zK hv42_10 (zK hv42_11 rfl))))) zbA (zdM (a1:=(kd a1 i14)) T er43) ?_
  rintro _ w44 ⟨s46,rfl,S2⟩
  replace S:=bk _ _ _ _ S2 rfl
  refine wd (xg rfl) (zd ?_)
  refine zJ rfl (fun hc47=>?_) (fun hc47=>?_)
  ·replace H:=if_t hc47 H
   refine zb (za (wd (zj rfl) (zd (zr ?_))))
   refine ⟨_,(zS (ze rfl)),?_⟩
   replace S:=S.arr [0,1] []
   obtain rfl:=zbE H
   obtain rfl:=e14
   obtain rfl:=uI Ho14
   exact ⟨s46,rfl,S⟩
  replace H:=if_f hc47 H
  refine zx (za (wd (xt q14_i rfl (c:=i14 + 1) rfl zbB zbB) (wd (zi rfl) (zd ?_))))
  replace S:=S.arr [0,1,4,5] [3,4,5,6]
  obtain rfl:=zbE H
  exact ⟨rfl,df,(m14,i14 + 1,r43.1),⟨(by dsimp only; omega),(by dsimp only; omega),e14,s46,rfl,S⟩,by dsimp only; omega⟩
 rintro g48 u49 ⟨s14,rfl,s15,S⟩
 have H:=Ho14
 dsimp only [aft] at H
 refine zb (za (wd (zj rfl) (zd (zr ?_))))
 refine ⟨_,(zS (ze rfl)),?_⟩
 replace S:=S.arr [0,1] []
 obtain rfl:=zbE H
 exact ⟨s15,rfl,S⟩
theorem jA {a0:Tb} {a_0:Option Addr} {g_0_1:Option Addr} {a1:PTerm} {s_1:SlV} {a2:List Int} {s_2:SlV} {a3_0:List Int} {b_3:Nat} {s_3_1:SlV} (S:St A N w w [oB b_3 xH [s_3_1.v],oS xh 1 IC s_3_1 a3_0] [oMa a_0 g_0_1 true,oT g_0_1 a0,zg s_1 a1.sub,fS 1 IC s_2 a2]) {k:Nat} {r:List Int × Bool} (H:zde.f k a0 a1 a2 a3_0=some r) :
  Calls PP xM #[.pointer a_0,.agg (tmC a1 s_1).toArray,s_2.v,.func (.func vP) #[] #[.pointer (some ⟨b_3,0,none⟩)]] w <| Rt fun v w'=>(∃ so0:SlV,v = .bool r.2∧St A N w w' [oB b_3 xH [so0.v],oS xh 1 IC so0 r.1] []):=by
 have main : ∀ (k:Nat) {A:Nat→Prop} {N:Oth} {w:World} {a0:Tb} {a_0:Option Addr} {g_0_1:Option Addr} {a1:PTerm} {s_1:SlV} {a2:List Int} {s_2:SlV} {a3_0:List Int} {b_3:Nat} {s_3_1:SlV} (S:St A N w w [oB b_3 xH [s_3_1.v],oS xh 1 IC s_3_1 a3_0] [oMa a_0 g_0_1 true,oT g_0_1 a0,zg s_1 a1.sub,fS 1 IC s_2 a2]) {r:List Int × Bool} (H:zde.f k a0 a1 a2 a3_0=some r),Calls PP xM #[.pointer a_0,.agg (tmC a1 s_1).toArray,s_2.v,.func (.func vP) #[] #[.pointer (some ⟨b_3,0,none⟩)]] w <| Rt fun v w'=>(∃ so0:SlV,v = .bool r.2∧St A N w w' [oB b_3 xH [so0.v],oS xh 1 IC so0 r.1] []):=by
  intro k
  induction k with
  | zero=>intro A N w a0 a_0 g_0_1 a1 s_1 a2 s_2 a3_0 b_3 s_3_1 S r H; cases H
  | succ k ih=>intro A N w a0 a_0 g_0_1 a1 s_1 a2 s_2 a3_0 b_3 s_3_1 S r H; exact jt ih S H
 exact main k S H
theorem reduce_Run_st {a0:Tb} {a_0:Option Addr} {a1:PTerm} {s_1:SlV} {a2:Int} (S:St A N w w [] [oT a_0 a0,zg s_1 a1.sub,oPw]) {k:Nat} {r:PTerm × Int × Bool × Int} (H:zdf.f k a0 a1 a2=some r) :
  Calls PP F_reduce_Run #[.pointer a_0,.agg (tmC a1 s_1).toArray,.int .i64 a2] w <| Rt fun v w'=>(∃ so0:SlV,v = .tuple #[.agg (tmC r.1 so0).toArray,.int .i64 r.2.1,.bool r.2.2.1,.int .i64 r.2.2.2]∧St A N w w' [] [zg so0 r.1.sub]):=by
 unfold zdf.f at H
 refine zy (n:=67) Tryz.func24 rfl rfl zbC (zb (za ?_))
 refine zE rfl zbA fun b2 w1 hw1=>?_
 replace S:=S.new hw1
 refine zQ xC zbA fun b4 w3 hw3=>?_
 replace S:=S.new hw3
 refine wd (zh rfl) (wd (zj rfl) (wd (zh rfl) (zd ?_)))
 refine wc_scope (zb (za (wd (zw rfl) (wd (ldT rfl (S.blk 1)) ?_))))
 obtain ⟨r5,er5,H⟩ := zq H
 obtain ⟨_,_,T,bk⟩ := S.sub [0,1,2] [] [oB b4 zo (Term.C tmZ),oB b2 zo (tmC a1 s_1)]
 refine zu (zt zam) zbA (zaq (a1:=a1) T er5) ?_
 rintro _ w6 ⟨a8,rfl,S2⟩
 replace S:=bk _ _ _ _ _ S2 rfl rfl
 refine wd (zU rfl) (wd (zn rfl rfl) (wd (zn rfl rfl) (wd (zX rfl) (wd (zh rfl) (zd (zb ?_))))))
 refine zO (zb (za (wd (zi rfl) (wd (xr rfl rfl) (wd (zj rfl) (zd ?_))))))
 refine zJ rfl (fun hc9=>?_) (fun hc9=>?_)
 ·replace H:=if_t hc9 H
  refine zb (za (wd (Does.to (v' := .agg (Term.C tmZ).toArray) (z1 (vs:=[]) yP rfl Bld.nil) rfl) (wd (zi rfl) ?_)))
  refine wsT rfl rfl (S.blk 0) fun w10 B hw10 zw10=>?_
  replace S:=S.store 0 B hw10
  refine wd (zh rfl) (wd (zj rfl) (wd (zh rfl) (zd (zr ?_))))
  replace S:=S.nilTm
  refine ⟨_,(zaZ (rtT rfl (S.blk 0)) (ze rfl) (ze rfl) (ze rfl)),?_⟩
  replace S:=S.arr [] [0]
  obtain rfl:=zbE H
  exact ⟨SlV.nil,rfl,S⟩
 replace H:=if_f hc9 H
 refine zb (za (wd (zi rfl) (wd (xy rfl rfl) (wd (zA rfl) ?_))))
 refine wg (fun hg=>zi rfl) ?_
 refine wg (fun hg=>zaz (zp hg) rfl) (wd (xJ rfl (fun hp=>(zp (xz hp)))) (wd (zj rfl) (zd ?_)))
 refine zJ rfl (fun hc11=>?_) (fun hc11=>?_)
 ·replace H:=if_t hc11 H
  refine zb (za (wd (Does.to (v' := .agg (Term.C tmZ).toArray) (z1 (vs:=[]) yP rfl Bld.nil) rfl) ?_))
  refine wsT rfl rfl (S.blk 0) fun w12 B hw12 zw12=>?_
  replace S:=S.store 0 B hw12
  refine wd (zh rfl) (wd (zj rfl) (wd (zh rfl) (zd (zr ?_))))
  replace S:=S.nilTm
  refine ⟨_,(zaZ (rtT rfl (S.blk 0)) (ze rfl) (ze rfl) (ze rfl)),?_⟩
  replace S:=S.arr [] [0]
  obtain rfl:=zbE H
  exact ⟨SlV.nil,rfl,S⟩
 replace H:=if_f hc11 H
 refine zx (zb (za (wd (ldT rfl (S.blk 1)) ?_)))
 obtain ⟨r13,er13,H⟩ := zq H
 obtain ⟨_,_,T,bk⟩ := S.sub [2] [] [oB b4 zo (Term.C tmZ),oB b2 zo (tmC a1 s_1)]
 refine zu (zt jG) zbA (zar (a0:=a1) T er13) ?_
 rintro _ w14 ⟨s16,rfl,S2⟩
 replace S:=bk _ _ _ _ _ S2 rfl rfl
 refine wsT rfl rfl (S.blk 1) fun w17 B hw17 zw17=>?_
 replace S:=S.store 1 B hw17
 refine zd (zb (za (wd (zh rfl) (zd (zb ?_)))))
 refine wc_label (zb ?_)
 obtain ⟨ht18,H⟩ := xb H
 rw [ht18] at S
 replace S:=S.nilTm
 obtain ⟨o19,e19,Ho19⟩ := zq H
 clear H
 refine xV ([7,8,9,12,13,14,15,16] ++ rg 38 27) (fun fr W => ∃ s19:Int × PTerm × PTerm,o19 = .inl s19 ∧ ∃ s20:SlV,∃ s21:SlV,fr 12 = .int .i64 s19.1∧St A N w W [oB b2 zo (tmC s19.2.1 s20),oB b4 zo (tmC s19.2.2 s21)] [zg s21 s19.2.2.sub,zg s20 s19.2.1.sub,oMa a8 a_0 true,oT a_0 a0,zg s_1 a1.sub,oPw]) ?_ ?_
 ·refine zO ?_
  refine xR (α:=Nat × (Int × PTerm × PTerm)) ([7,8,9,12,13,14,15,16] ++ rg 38 27) (fun x fr W=>iter (fun s=>zdf.b0 k a0 a2 s.1 s.2.1 s.2.2) x.1 x.2=some o19 ∧ ∃ s22:SlV,∃ s23:SlV,fr 12 = .int .i64 (x.2.1)∧St A N w W [oB b2 zo (tmC (x.2.2.1) s22),oB b4 zo (tmC (x.2.2.2) s23)] [zg s23 ((x.2.2.2).sub),zg s22 ((x.2.2.1).sub),oMa a8 a_0 true,oT a_0 a0,zg s_1 a1.sub,oPw]) (fun x=>x.1) (k,(0,r13,(ptN 0 0 []))) ⟨(by dsimp only; exact e19),s16,SlV.nil,rfl,S⟩ ?_
  rintro ⟨m19,⟨x19_0,x19_1,x19_2⟩⟩ g19 u19 ⟨e19,s24,s25,q19_12,S⟩
  try dsimp only at e19
  try dsimp only at S
  try dsimp only at q19_12
  obtain ⟨m19,rfl⟩ : ∃ m,m19=m + 1:=⟨m19 - 1,by cases m19 with | zero=>cases e19 | succ m=>rfl⟩
  obtain ⟨q19,H,e19⟩ := iter_s e19
  unfold zdf.b0 at H
  try dsimp only at H
  refine zO (zb (za ?_))
  refine zQ zs_L_int zbA fun b27 w26 hw26=>?_
  replace S:=S.new hw26
  refine zd (zb (za (wd (zw rfl) (wd (ldT rfl (S.blk 1)) (wd (does_funcl) ?_)))))
  replace S:=(S.nil xh 1 IC).nilZ 1 IC
  obtain ⟨r28,er28,H⟩ := zq H
  replace S:=S.front 1
  obtain ⟨_,_,T,bk⟩ := S.calln 2 ((.z 3 rfl (.z 4 rfl (.z 2 rfl (.z 0 rfl .nil)))))
  refine zu (zF vA (zK rfl (zK rfl (zK SlV.nil_eq (zK rfl rfl))))) zbA (jA (a1:=x19_1) T er28) ?_
  rintro _ w29 ⟨s31,rfl,S2⟩
  replace S:=bk _ _ _ _ S2 rfl
  refine wd (zj rfl) (zd (zb ?_))
  refine zO (zb (za (wd (zA rfl) (wd (zj rfl) (zd ?_)))))
  refine zJ rfl (fun hc32=>?_) (fun hc32=>?_)
  ·replace H:=if_t hc32 H
   refine x0 ?_
   replace S:=S.arr [2,3] [1,2,3,4,5,6]
   obtain rfl:=zbE H
   exact ⟨rfl,df,(x19_0,x19_1,x19_2),e19,s24,s25,q19_12,S⟩
  replace H:=if_f hc32 H
  refine zb (za (wd (zi q19_12) (wd (zi rfl) (wd (zV rfl rfl) (wd (zj rfl) (zd ?_))))))
  refine zJ rfl (fun hc33=>?_) (fun hc33=>?_)
  ·replace H:=if_t hc33 H
   refine zb (za (wd (ldT rfl (S.blk 2)) (wd (zi q19_12) ?_)))
   refine wsT rfl rfl (S.blk 3) fun w34 B hw34 zw34=>?_
   replace S:=S.store 3 B hw34
   refine wd (zh rfl) (wd (zj rfl) (wd (zh rfl) (zd (zr ?_))))
   refine ⟨_,(zaZ (rtT rfl (S.blk 0)) (ze rfl) (ze rfl) (ze rfl)),?_⟩
   replace S:=S.arr [] [2]
   obtain rfl:=zbE H
   obtain rfl:=e19
   obtain rfl:=uI Ho19
   exact ⟨s24,rfl,S⟩
  replace H:=if_f hc33 H
  refine zx (zb (za (wd (zw rfl) (wd (ldT rfl (S.blk 2)) (wd (zl kk rfl ((S.blk 0).cell rfl)) ?_)))))
  obtain ⟨r35,er35,H⟩ := zq H
  replace S:=S.frzS 1
  obtain ⟨_,_,T,bk⟩ := S.sub [4,5,3,0,7] [] [oB b27 xH [s31.v],oB b2 zo (tmC x19_1 s24),oB b4 zo (tmC x19_2 s25)]
  refine zu (zt ke) zbA (ko (a1:=x19_1) T er35) ?_
  rintro _ w36 ⟨s38,rfl,S2⟩
  replace S:=bk _ _ _ _ _ S2 rfl rfl
  refine wd (zU rfl) (wd (zn rfl rfl) (wd (zn rfl rfl) ?_))
  refine zQ xC zbA fun b40 w39 hw39=>?_
  replace S:=S.new hw39
  refine wsT rfl rfl (S.blk 0) fun w41 B hw41 zw41=>?_
  replace S:=S.store 0 B hw41
  refine wd (zh rfl) (zd (zb (zb (za (wd (zi rfl) (wd (xr rfl rfl) (zd ?_)))))))
  refine zJ rfl (fun hc42=>?_) (fun hc42=>?_)
  ·replace H:=if_t hc42 H
   refine zb (za (wd (ldT rfl (S.blk 2)) (wd (zi q19_12) (wd (zi rfl) ?_))))
   refine wsT rfl rfl (S.blk 3) fun w43 B hw43 zw43=>?_
   replace S:=S.store 3 B hw43
   refine wd (zh rfl) (wd (zj rfl) (wd (zh rfl) (zd (zr ?_))))
   refine ⟨_,(zaZ (rtT rfl (S.blk 0)) (ze rfl) (ze rfl) (ze rfl)),?_⟩
   replace S:=S.arr [] [4]
   obtain rfl:=zbE H
   obtain rfl:=e19
   obtain rfl:=uI Ho19
   exact ⟨s24,rfl,S⟩
  replace H:=if_f hc42 H
  refine zx (zb (za (wd (ldT rfl (S.blk 0)) ?_)))
  refine wsT rfl rfl (S.blk 2) fun w44 B hw44 zw44=>?_
  replace S:=S.store 2 B hw44
  refine zd (za (wd (zi q19_12) (wd (vQ rfl rfl) (wd (zh rfl) (zd ?_)))))
  replace S:=S.arr [0,3] [3,0,5,6,7,8]
  obtain rfl:=zbE H
  exact ⟨rfl,df,(m19,(IntKind.i64.wrap (x19_0 + 1),r35.1,x19_2)),⟨e19,s38,s25,rfl,S⟩,by dsimp only; omega⟩
 rintro g45 u46 ⟨s19,rfl,s20,s21,p19_12,S⟩
 have H:=Ho19
 dsimp only [aft] at H
 refine zb (za (wd (ldT rfl (S.blk 0)) (wd (zi p19_12) ?_)))
 refine wsT rfl rfl (S.blk 1) fun w47 B hw47 zw47=>?_
 replace S:=S.store 1 B hw47
 refine wd (zh rfl) (wd (zj rfl) (wd (zh rfl) (zd (zr ?_))))
 refine ⟨_,(zaZ (rtT rfl (S.blk 0)) (ze rfl) (ze rfl) (ze rfl)),?_⟩
 replace S:=S.arr [] [1]
 obtain rfl:=zbE H
 exact ⟨s20,rfl,S⟩
end
section
open Gw Go.RowKit
set_option maxHeartbeats 4000000
set_option maxRecDepth 20000
variable {A:Nat→Prop} {N:Oth} {w:World}
theorem formula_From_st {a0:List Nd} {s_0:SlV} (S:St A N w w [] [fS 4 Nd.C s_0 a0]) {r:Tb × Int} (H:zdg.f a0=some r) :
  Calls PP F_formula_From #[s_0.v] w <| Rt fun v w'=>(∃ ao0:Option Addr,v = .tuple #[.pointer ao0,.int .i64 r.2]∧St A N w w' [oT ao0 r.1] []):=by
 unfold zdg.f at H
 refine zy (n:=35) Tryz.func64 rfl rfl zbC (zb (za ?_))
 replace S:=S.add (Ext.refl _) (oT.nil _) (fun _ x=>x.elim)
 refine wd (zX rfl) (wd (zh rfl) (zd (zb (za ?_))))
 obtain ⟨r1,er1,H⟩ := zq H
 obtain ⟨_,_,T,bk⟩ := S.calln 0 ((.nil))
 refine zu (zt j8) zbA (ki T er1) ?_
 rintro _ w2 ⟨a4,rfl,S2⟩
 replace S:=bk _ _ _ _ S2 rfl
 refine wd (zX rfl) (zd (zb (zb (za (wd (zP rfl) (wd (xN xn rfl (S.rd 0)) (wd (zi rfl) (zd ?_))))))))
 obtain ⟨o5,e5,Ho5⟩ := zq H
 clear H
 refine xV ([2,3,5,6,7,8] ++ rg 12 22) (fun fr W => ∃ s5:Tb,o5 = .inl s5∧St A N w W [oT a4 s5,oT none none] [fS 4 Nd.C s_0 a0]) ?_ ?_
 ·refine zO ?_
  refine xR (α:=Nat × Int × Tb) ([2,3,5,6,7,8] ++ rg 12 22) (fun x fr W=>(x.1:Int)=(a0.length:Int) - x.2.1∧0 ≤ x.2.1∧forN (fun i s=>zdg.b0 a0 i s) x.1 x.2.1 x.2.2=some o5∧fr 12 = .int .i64 x.2.1∧St A N w W [oT a4 (x.2.2),oT none none] [fS 4 Nd.C s_0 a0]) (fun x=>x.1) (((a0.length:Int) - 0).toNat,0,r1) ⟨(by dsimp only; have hle:=Int.natCast_nonneg (a0.length); omega),(Int.le_refl _),(by dsimp only; exact e5),rfl,S⟩ ?_
  rintro ⟨m5,i5,x5_0⟩ g5 u5 ⟨hm5,hl5,e5,q5_i,S⟩
  try dsimp only at hm5
  try dsimp only at hl5
  try dsimp only at e5
  try dsimp only at S
  try dsimp only at q5_i
  refine zb (za (wd (xy q5_i rfl) (zd (zb ?_))))
  refine zJ rfl (fun hc6=>?_) (fun hc6=>?_)
  rotate_left
  ·refine x0 ?_
   have hge:(a0.length:Int) ≤ i5:=Int.not_lt.1 (of_decide_eq_false hc6)
   obtain rfl:m5=0:=by omega
   replace e5:=zbf e5
   exact ⟨rfl,df,x5_0,e5,S⟩
  refine zx ?_
  have hlt5:i5 < (a0.length:Int):=of_decide_eq_true hc6
  obtain ⟨m5,rfl⟩ : ∃ m,m5=m + 1:=⟨m5 - 1,by omega⟩
  obtain ⟨q5,H,e5⟩ := zbg e5
  unfold zdg.b0 at H
  try dsimp only at H
  have hb5:=(S.len 0)
  refine zb ?_
  refine zO (zb (za (wd (zi q5_i) (wd (xi xn rfl q5_i (S.rd 0) (And.intro (show 0 ≤ i5 by omega) (show i5 < (a0.length:Int) from hlt5)).1 (And.intro (show 0 ≤ i5 by omega) (show i5 < (a0.length:Int) from hlt5)).2) (wd (zm yo rfl ((S.rd 0).at (y9 Nd.z (And.intro (show 0 ≤ i5 by omega) (show i5 < (a0.length:Int) from hlt5)))) (Nd.len _)) ?_)))))
  refine zQ kw zbA fun b9 w8 hw8=>?_
  replace S:=S.new hw8
  refine wd (zh rfl) ?_
  refine zT yo rfl rfl (S.blk 0) (Nd.len _) (by rw [Nd.len]; decide) (Nd.one _) (xe (Nd.len _)) fun w10 B hw10 zw10=>?_
  replace S:=S.store 0 B hw10
  refine zd (zb (za (wd (zw rfl) (wd (zm yo rfl ((S.blk 0).all _ (Nd.len _)) (Nd.len _)) ?_))))
  obtain ⟨r11,er11,H⟩ := zq H
  replace S:=S.front 1
  obtain ⟨_,_,T,bk⟩ := S.calln 1 ((.nil))
  refine zu (zt jg) zbA (zag T er11) ?_
  rintro _ w12 ⟨rfl,S2⟩
  replace S:=bk _ _ _ _ S2 rfl
  refine wd (zU rfl) (wd (zn rfl rfl) (wd (zn rfl rfl) (wd (zh rfl) (wd (zh rfl) (zd (zb (zb (za ?_))))))))
  refine wd (zi rfl) (wd (zV rfl rfl) (wd (zA rfl) ?_))
  refine wg (fun hg=>zi rfl) ?_
  refine wg (fun hg=>zi rfl) ?_
  refine wg (fun hg=>xr (zp hg) (zp hg)) (wd (zZ rfl (fun hp=>(zp (xz hp)))) (zd ?_))
  refine zJ rfl (fun hc14=>?_) (fun hc14=>?_)
  ·replace H:=if_t hc14 H
   refine za (wd (zh rfl) (zd (zb (za (wd (zi rfl) (wd (xr rfl rfl) (zd ?_)))))))
   refine zJ rfl (fun hc15=>?_) (fun hc15=>?_)
   ·replace H:=if_t hc15 H
    refine zb (za (wd (zi rfl) ?_))
    replace S:=S.add (Ext.refl _) (oT.nil _) (fun _ x=>x.elim)
    refine wd (zX rfl) (wd (zh rfl) (zd (zr ?_)))
    refine ⟨_,(xd (ze rfl) (ze rfl)),?_⟩
    replace S:=S.arr [0] []
    obtain rfl:=zbE H
    obtain rfl:=e5
    obtain rfl:=uI Ho5
    exact ⟨none,rfl,S⟩
   replace H:=if_f hc15 H
   refine zx (za (wd (xt q5_i rfl (c:=i5 + 1) rfl zbB zbB) (wd (zi rfl) (zd ?_))))
   replace S:=S.arr [0,2] [0]
   obtain rfl:=zbE H
   exact ⟨rfl,df,(m5,i5 + 1,r11.1),⟨(by dsimp only; omega),(by dsimp only; omega),e5,rfl,S⟩,by dsimp only; omega⟩
  ·replace H:=if_f hc14 H
   refine zx (zb (za (wd (zi rfl) (wd (xr rfl rfl) (zd ?_)))))
   refine zJ rfl (fun hc16=>?_) (fun hc16=>?_)
   ·replace H:=if_t hc16 H
    refine zb (za (wd (zi rfl) ?_))
    replace S:=S.add (Ext.refl _) (oT.nil _) (fun _ x=>x.elim)
    refine wd (zX rfl) (wd (zh rfl) (zd (zr ?_)))
    refine ⟨_,(xd (ze rfl) (ze rfl)),?_⟩
    replace S:=S.arr [0] []
    obtain rfl:=zbE H
    obtain rfl:=e5
    obtain rfl:=uI Ho5
    exact ⟨none,rfl,S⟩
   replace H:=if_f hc16 H
   refine zx (za (wd (xt q5_i rfl (c:=i5 + 1) rfl zbB zbB) (wd (zi rfl) (zd ?_))))
   replace S:=S.arr [0,2] [0]
   obtain rfl:=zbE H
   exact ⟨rfl,df,(m5,i5 + 1,r11.1),⟨(by dsimp only; omega),(by dsimp only; omega),e5,rfl,S⟩,by dsimp only; omega⟩
 rintro g17 u18 ⟨s5,rfl,S⟩
 have H:=Ho5
 dsimp only [aft] at H
 refine zb (za (wd (zw rfl) (wd (zX rfl) (wd (zh rfl) (zd (zr ?_))))))
 refine ⟨_,(xd (ze rfl) (ze rfl)),?_⟩
 replace S:=S.arr [0] []
 obtain rfl:=zbE H
 exact ⟨a4,rfl,S⟩
theorem ref03_Ints_st {a0:List Int} {s_0:SlV} {a1:List Int} {s_1:SlV} (S:St A N w w [] [fS 1 IC s_0 a0,fS 1 IC s_1 a1]) {r:Bool} (H:zdh.f a0 a1=some r) :
  Calls PP F_ref03_Ints #[s_0.v,s_1.v] w <| Rt fun v w'=>(v = .bool r∧St A N w w' [] []):=by
 unfold zdh.f at H
 refine zy (n:=26) Tryz.func21 rfl rfl zbC (zb (za (wd (zj rfl) (zd (zb (zb (za (wd (zP rfl) ?_))))))))
 refine wd (xN xI rfl (S.rd 0)) (wd (zP rfl) (wd (xN xI rfl (S.rd 1)) (wd (xr rfl rfl) (zd ?_))))
 refine zJ rfl (fun hc1=>?_) (fun hc1=>?_)
 ·replace H:=if_t hc1 H
  refine zb (za (wd (zj rfl) (zd (zr ?_))))
  refine ⟨_,(zS (ze rfl)),?_⟩
  replace S:=S.arr [] []
  obtain rfl:=zbE H
  exact ⟨rfl,S⟩
 replace H:=if_f hc1 H
 refine zx (zb (zb (za (wd (zh rfl) (zd ?_)))))
 obtain ⟨o2,e2,Ho2⟩ := zq H
 clear H
 refine xV ([4,5] ++ rg 11 15) (fun fr W => ∃ s2:Unit,o2 = .inl s2∧St A N w W [] [fS 1 IC s_0 a0,fS 1 IC s_1 a1]) ?_ ?_
 ·refine zO ?_
  refine xR (α:=Nat × Int × Unit) ([4,5] ++ rg 11 15) (fun x fr W=>(x.1:Int)=(a0.length:Int) - x.2.1∧0 ≤ x.2.1∧forN (fun i s=>zdh.b0 a1 a0 i) x.1 x.2.1 x.2.2=some o2∧fr 5 = .int .i64 x.2.1∧St A N w W [] [fS 1 IC s_0 a0,fS 1 IC s_1 a1]) (fun x=>x.1) (((a0.length:Int) - 0).toNat,0,()) ⟨(by dsimp only; have hle:=Int.natCast_nonneg (a0.length); omega),(Int.le_refl _),(by dsimp only; exact e2),rfl,S⟩ ?_
  rintro ⟨m2,i2,_⟩ g2 u2 ⟨hm2,hl2,e2,q2_i,S⟩
  try dsimp only at hm2
  try dsimp only at hl2
  try dsimp only at e2
  try dsimp only at S
  try dsimp only at q2_i
  refine zb (zb (za (wd (zi q2_i) (wd (zP rfl) (wd (xN xI rfl (S.rd 0)) (wd (xy rfl rfl) (zd ?_)))))))
  refine zJ rfl (fun hc3=>?_) (fun hc3=>?_)
  rotate_left
  ·refine x0 ?_
   have hge:(a0.length:Int) ≤ i2:=Int.not_lt.1 (of_decide_eq_false hc3)
   obtain rfl:m2=0:=by omega
   replace e2:=zbf e2
   exact ⟨rfl,df,(),e2,S⟩
  refine zx ?_
  have hlt2:i2 < (a0.length:Int):=of_decide_eq_true hc3
  obtain ⟨m2,rfl⟩ : ∃ m,m2=m + 1:=⟨m2 - 1,by omega⟩
  obtain ⟨q2,H,e2⟩ := zbg e2
  unfold zdh.b0 at H
  try dsimp only at H
  have hb2:=(S.len 0)
  refine zb ?_
  refine zO (zb ?_)
  refine yt 8 (Ext u2) hmix zbD zbD (Ext.drawn _) (zD (fun v K=>zP rfl) (zD (fun v K=>zi q2_i) (zD (fun v K=>xi xI rfl rfl ((S.ext K).rd 0) (And.intro (show 0 ≤ i2 by omega) (show i2 < (a0.length:Int) from hlt2)).1 (And.intro (show 0 ≤ i2 by omega) (show i2 < (a0.length:Int) from hlt2)).2) (zD (fun v K=>zl xv rfl (((S.ext K).rd 0).one (y9 (0:Int) (And.intro (show 0 ≤ i2 by omega) (show i2 < (a0.length:Int) from hlt2))) rfl)) (zD (fun v K=>zP rfl) ?_)))))
  refine zD (fun v K=>zi q2_i) ?_
  obtain ⟨hi5,H⟩ := xb H
  refine zD (fun v K=>xi xI rfl rfl ((S.ext K).rd 1) (zM hi5).1 (zM hi5).2) (zD (fun v K=>zl xv rfl (((S.ext K).rd 1).one (y9 (0:Int) (zM hi5)) rfl)) ?_)
  refine vY fun w6 K=>?_
  replace S:=S.ext K
  clear K
  refine wd (xr rfl rfl) (zd ?_)
  refine zJ rfl (fun hc7=>?_) (fun hc7=>?_)
  ·replace H:=if_t hc7 H
   refine zb (za (wd (zj rfl) (zd (zr ?_))))
   refine ⟨_,(zS (ze rfl)),?_⟩
   replace S:=S.arr [] []
   obtain rfl:=zbE H
   obtain rfl:=e2
   obtain rfl:=uI Ho2
   exact ⟨rfl,S⟩
  replace H:=if_f hc7 H
  refine zx (za (wd (zi q2_i) (wd (xt rfl rfl (c:=i2 + 1) rfl zbB zbB) (wd (zh rfl) (zd ?_)))))
  obtain rfl:=zbE H
  exact ⟨rfl,df,(m2,i2 + 1,()),⟨(by dsimp only; omega),(by dsimp only; omega),e2,rfl,S⟩,by dsimp only; omega⟩
 rintro g8 u9 ⟨s2,rfl,S⟩
 have H:=Ho2
 dsimp only [aft] at H
 refine zb (za (wd (zj rfl) (zd (zr ?_))))
 refine ⟨_,(zS (ze rfl)),?_⟩
 replace S:=S.arr [] []
 obtain rfl:=zbE H
 exact ⟨rfl,S⟩
theorem ref03_T_Has_st {a0:Tb} {a_0:Option Addr} {a1:Int} (S:St A N w w [] [oR a_0 a0]) {r:Bool} (H:zdi.f a0 a1=some r) :
  Calls PP F_ref03_T_Has #[.pointer a_0,.int .i64 a1] w <| Rt fun v w'=>(v = .bool r∧St A N w w' [] []):=by
 unfold zdi.f at H
 refine zy (n:=16) Tryz.func31 rfl rfl zbC (zb (za (wd (zj rfl) (zd (zb (za (wd (zi rfl) ?_)))))))
 refine wd (jo rfl rfl) (wd (zA rfl) ?_)
 refine wg (fun hg=>zi rfl) ?_
 refine wg (fun hg=>zw rfl) ?_
 obtain ⟨ht1,H⟩ := xb H
 obtain ⟨p2,s3,hp4,S⟩ := S.seeR 0 ht1
 replace S:=S
 refine wg (fun hg=>zW (((zp hg):_=Value.pointer a_0).trans (congrArg Value.pointer hp4))) ?_
 refine wg (fun hg=>zf kE (zp hg) (o':=0) rfl) ?_
 refine wg (fun hg=>zl xP (zp hg) ((S.blkZ 0).cell (RTab.get_n _))) ?_
 refine wg (fun hg=>xN xn (zp hg) (S.rd 1)) ?_
 refine wg (fun hg=>xy (zp hg) (zp hg)) (wd (zZ rfl (fun hp=>(zp (xz hp)))) (wd (zj rfl) ?_))
 replace S:=S.zs [2]
 refine zd (zr ?_)
 refine ⟨_,(zS (ze rfl)),?_⟩
 replace S:=S.arr [] []
 obtain rfl:=zbE H
 exact ⟨rfl,S⟩
theorem ref03_T_Find_st {a0:Tb} {a_0:Option Addr} {a1:Nd} (S:St A N w w [] [oR a_0 a0]) {r:Int × Bool} (H:zdj.f a0 a1=some r) :
  Calls PP F_ref03_T_Find #[.pointer a_0,.agg (Nd.C a1).toArray] w <| Rt fun v w'=>(v = .tuple #[.int .i64 r.1,.bool r.2]∧St A N w w' [] []):=by
 unfold zdj.f at H
 refine zy (n:=26) Tryz.func161 rfl rfl zbC (zb (za ?_))
 refine zE rfl zbA fun b2 w1 hw1=>?_
 replace S:=S.new hw1
 refine wd (zh rfl) (wd (zj rfl) (zd (zb (zb (za (wd (zh rfl) (zd ?_)))))))
 obtain ⟨ht3,H⟩ := xb H
 obtain ⟨o4,e4,Ho4⟩ := zq H
 clear H
 refine xV (rg 4 22) (fun fr W => ∃ s4:Unit,o4 = .inl s4∧St A N w W [oB b2 T_Nd (Nd.C a1)] [oR a_0 a0]) ?_ ?_
 ·refine zO ?_
  refine xR (α:=Nat × Int × Unit) (rg 4 22) (fun x fr W=>(x.1:Int)=((a0.getD []).length:Int) - x.2.1∧0 ≤ x.2.1∧forN (fun i s=>zdj.b0 a0 a1 i) x.1 x.2.1 x.2.2=some o4∧fr 6 = .int .i64 x.2.1∧St A N w W [oB b2 T_Nd (Nd.C a1)] [oR a_0 a0]) (fun x=>x.1) ((((a0.getD []).length:Int) - 0).toNat,0,()) ⟨(by dsimp only; have hle:=Int.natCast_nonneg ((a0.getD []).length); omega),(Int.le_refl _),(by dsimp only; exact e4),rfl,S⟩ ?_
  rintro ⟨m4,i4,_⟩ g4 u4 ⟨hm4,hl4,e4,q4_i,S⟩
  try dsimp only at hm4
  try dsimp only at hl4
  try dsimp only at e4
  try dsimp only at S
  try dsimp only at q4_i
  refine zb (zb (za (wd (zi q4_i) (wd (zw rfl) ?_))))
  obtain ⟨p5,s6,hp7,S⟩ := S.seeR 0 ht3
  replace S:=S
  refine wd (zW (congrArg Value.pointer hp7)) (wd (zf kE rfl (o':=0) rfl) (wd (zl xP rfl ((S.blkZ 0).cell (RTab.get_n _))) (wd (xN xn rfl (S.rd 1)) (wd (xy rfl rfl) ?_))))
  replace S:=S.zs [2]
  refine zd ?_
  refine zJ rfl (fun hc8=>?_) (fun hc8=>?_)
  rotate_left
  ·refine x0 ?_
   have hge:((a0.getD []).length:Int) ≤ i4:=Int.not_lt.1 (of_decide_eq_false hc8)
   obtain rfl:m4=0:=by omega
   replace e4:=zbf e4
   exact ⟨rfl,df,(),e4,S⟩
  refine zx ?_
  have hlt4:i4 < ((a0.getD []).length:Int):=of_decide_eq_true hc8
  obtain ⟨m4,rfl⟩ : ∃ m,m4=m + 1:=⟨m4 - 1,by omega⟩
  obtain ⟨q4,H,e4⟩ := zbg e4
  unfold zdj.b0 at H
  try dsimp only at H
  have hb4:=(S.lenRZ 0)
  refine zb ?_
  refine zO (zb ?_)
  refine yt 8 (Ext u4) hmix zbD zbD (Ext.drawn _) (zD (fun v K=>zw rfl) ?_)
  obtain ⟨p9,s10,hp11,S⟩ := S.seeR 0 ht3
  replace S:=S
  refine zD (fun v K=>zW (congrArg Value.pointer hp11)) (zD (fun v K=>zf kE rfl (o':=0) rfl) (zD (fun v K=>zl xP rfl (((S.ext K).blkZ 0).cell (RTab.get_n _))) (zD (fun v K=>zi q4_i) (zD (fun v K=>xi xn rfl rfl ((S.ext K).rd 1) (And.intro (show 0 ≤ i4 by omega) (show i4 < ((a0.getD []).length:Int) from hlt4)).1 (And.intro (show 0 ≤ i4 by omega) (show i4 < ((a0.getD []).length:Int) from hlt4)).2) (zD (fun v K=>zm yo rfl (((S.ext K).rd 1).at (y9 Nd.z (And.intro (show 0 ≤ i4 by omega) (show i4 < ((a0.getD []).length:Int) from hlt4)))) (Nd.len _)) ?_)))))
  refine zD (fun v K=>zm yo rfl (((S.ext K).blk 0).all _ (Nd.len _)) (Nd.len _)) ?_
  refine vY fun w13 K=>?_
  replace S:=S.ext K
  clear K
  refine wd (does_eqv eg_Nd (eq_Nd _ _) zbA rfl rfl) ?_
  replace S:=S.zs [2]
  refine zd ?_
  refine zJ rfl (fun hc14=>?_) (fun hc14=>?_)
  ·replace H:=if_t hc14 H
   refine zb (za (wd (zi q4_i) (wd (zh rfl) (wd (zj rfl) (zd (zr ?_))))))
   refine ⟨_,(xd (ze rfl) (ze rfl)),?_⟩
   replace S:=S.arr [] []
   obtain rfl:=zbE H
   obtain rfl:=e4
   obtain rfl:=uI Ho4
   exact ⟨rfl,S⟩
  replace H:=if_f hc14 H
  refine zx (za (wd (zi q4_i) (wd (xt rfl rfl (c:=i4 + 1) rfl zbB zbB) (wd (zh rfl) (zd ?_)))))
  obtain rfl:=zbE H
  exact ⟨rfl,df,(m4,i4 + 1,()),⟨(by dsimp only; omega),(by dsimp only; omega),e4,rfl,S⟩,by dsimp only; omega⟩
 rintro g15 u16 ⟨s4,rfl,S⟩
 have H:=Ho4
 dsimp only [aft] at H
 refine zb (za (wd (zh rfl) (wd (zj rfl) (zd (zr ?_)))))
 refine ⟨_,(xd (ze rfl) (ze rfl)),?_⟩
 replace S:=S.arr [] []
 obtain rfl:=zbE H
 exact ⟨rfl,S⟩
theorem ref03_T_Put_st {a0:Tb} {a_0:Option Addr} {a1:Nd} (S:St A N w w [oR a_0 a0] []) {r:Tb × Int × Int} (H:zdk.f a0 a1=some r) :
  Calls PP F_ref03_T_Put #[.pointer a_0,.agg (Nd.C a1).toArray] w <| Rt fun v w'=>(v = .tuple #[.int .i64 r.2.1,.int .i64 r.2.2]∧St A N w w' [oR a_0 r.1] []):=by
 unfold zdk.f at H
 refine zy (n:=90) Tryz.func99 rfl rfl zbC (zb (za ?_))
 refine zE rfl zbA fun b2 w1 hw1=>?_
 replace S:=S.new hw1
 refine wd (zh rfl) (wd (zh rfl) (zd (zb (zb (za (wd (zf fl_Nd_kind rfl (o':=0) rfl) (wd (zl jS rfl ((S.blk 0).cell (Nd.get_kind _))) (zd ?_))))))))
 obtain ⟨o3,e3,Ho3⟩ := zq H
 replace H:=e3; clear e3
 refine xV ([4,5] ++ rg 10 50) (fun fr W => ∃ s3:Tb,o3 = .inl s3∧St A N w W [oB b2 T_Nd (Nd.C a1),oR a_0 s3] []) ?_ ?_
 ·refine zO (zb (za (wd (zV rfl rfl) (wd (zj rfl) (zd ?_)))))
  refine zJ rfl (fun hc4=>?_) (fun hc4=>?_)
  ·replace H:=if_t hc4 H
   refine zb (zb (za (wd (zf uD rfl (o':=2) rfl) (wd (zl xv rfl ((S.blk 0).cell (Nd.get_l _))) (wd (xr rfl rfl) (wd (zA rfl) ?_))))))
   refine wg (fun hg=>zf uE rfl (o':=3) rfl) ?_
   refine wg (fun hg=>zl xv (zp hg) ((S.blk 0).cell (Nd.get_r _))) ?_
   refine wg (fun hg=>xr (zp hg) rfl) (wd (xJ rfl (fun hp=>(zp (xz hp)))) (zd ?_))
   refine zJ rfl (fun hc5=>?_) (fun hc5=>?_)
   ·replace H:=if_t hc5 H
    refine zb (za (wd (zh rfl) (wd (zh rfl) (zd (zr ?_)))))
    refine ⟨_,(xd (ze rfl) (ze rfl)),?_⟩
    replace S:=S.arr [1] []
    obtain rfl:=zbE H
    obtain rfl:=uI Ho3
    exact ⟨rfl,S⟩
   replace H:=if_f hc5 H
   refine zx (zb (za (wd (zf jM rfl (o':=1) rfl) (wd (zl xk rfl ((S.blk 0).cell (Nd.get_name _))) ?_))))
   obtain ⟨r6,er6,H⟩ := zq H
   obtain ⟨_,_,T,bk⟩ := S.calln 0 ((.nil))
   refine zu (zt ca_ref03_Word) zbA (ref03_Word_st T er6) ?_
   rintro _ w7 ⟨rfl,S2⟩
   replace S:=bk _ _ _ _ S2 rfl
   refine wd (xg rfl) (zd ?_)
   refine zJ rfl (fun hc9=>?_) (fun hc9=>?_)
   ·replace H:=if_t hc9 H
    refine zb (za (wd (zh rfl) (wd (zh rfl) (zd (zr ?_)))))
    refine ⟨_,(xd (ze rfl) (ze rfl)),?_⟩
    replace S:=S.arr [1] []
    obtain rfl:=zbE H
    obtain rfl:=uI Ho3
    exact ⟨rfl,S⟩
   replace H:=if_f hc9 H
   refine zx ?_
   obtain rfl:=zbE H
   exact ⟨rfl,df,a0,rfl,S⟩
  ·replace H:=if_f hc4 H
   refine zb (za (wd (zV rfl rfl) (wd (zj rfl) (zd ?_))))
   refine zJ rfl (fun hc10=>?_) (fun hc10=>?_)
   ·replace H:=if_t hc10 H
    refine zb (za (wd (zf jM rfl (o':=1) rfl) (wd (zl xk rfl ((S.blk 0).cell (Nd.get_name _))) (wd (jh rfl rfl) (wd (zA rfl) ?_)))))
    refine wg (fun hg=>zf uD rfl (o':=2) rfl) ?_
    refine wg (fun hg=>zl xv (zp hg) ((S.blk 0).cell (Nd.get_l _))) ?_
    refine wg (fun hg=>xr (zp hg) rfl) (wd (xJ rfl (fun hp=>(zp (xz hp)))) (wd (zA rfl) ?_))
    refine wg (fun hg=>zf uE rfl (o':=3) rfl) ?_
    refine wg (fun hg=>zl xv (zp hg) ((S.blk 0).cell (Nd.get_r _))) ?_
    refine wg (fun hg=>xr (zp hg) rfl) (wd (xJ rfl (fun hp=>(zp (xz hp)))) (zd ?_))
    refine zJ rfl (fun hc11=>?_) (fun hc11=>?_)
    ·replace H:=if_t hc11 H
     refine zb (za (wd (zh rfl) (wd (zh rfl) (zd (zr ?_)))))
     refine ⟨_,(xd (ze rfl) (ze rfl)),?_⟩
     replace S:=S.arr [1] []
     obtain rfl:=zbE H
     obtain rfl:=uI Ho3
     exact ⟨rfl,S⟩
    replace H:=if_f hc11 H
    refine zx ?_
    obtain rfl:=zbE H
    exact ⟨rfl,df,a0,rfl,S⟩
   ·replace H:=if_f hc10 H
    refine zb (zb (za (wd (zV rfl rfl) (wd (zj rfl) (zd ?_)))))
    obtain ⟨o12,e12,Ho12⟩ := zq H
    replace H:=e12; clear e12
    refine xV [39,41,42] (fun fr W=>fr 39 = .bool o12∧St A N w W [oB b2 T_Nd (Nd.C a1),oR a_0 a0] []) ?_ ?_
    ·refine zJ rfl (fun hc13=>?_) (fun hc13=>?_)
     ·replace H:=if_t hc13 H
      refine zx ?_
      obtain rfl:=zbE H
      exact ⟨rfl,df,rfl,S⟩
     ·replace H:=if_f hc13 H
      refine zb (za (wd (zV rfl rfl) (wd (zj rfl) (zd ?_))))
      refine zJ rfl (fun hc14=>?_) (fun hc14=>?_)
      ·replace H:=if_t hc14 H
       refine zx ?_
       obtain rfl:=zbE H
       exact ⟨rfl,df,rfl,S⟩
      ·replace H:=if_f hc14 H
       refine za (wd (zV rfl rfl) (wd (zj rfl) (zd ?_)))
       obtain rfl:=zbE H
       exact ⟨rfl,df,rfl,S⟩
    rintro g15 u16 ⟨p12_39,S⟩
    have H:=Ho12
    refine zJ p12_39 (fun hc17=>?_) (fun hc17=>?_)
    rotate_left
    ·replace H:=if_f hc17 H
     refine zb (za (wd (zh rfl) (wd (zh rfl) (zd (zr ?_)))))
     refine ⟨_,(xd (ze rfl) (ze rfl)),?_⟩
     replace S:=S.arr [1] []
     obtain rfl:=zbE H
     obtain rfl:=uI Ho3
     exact ⟨rfl,S⟩
    replace H:=if_t hc17 H
    refine zb (za (wd (zf jM rfl (o':=1) rfl) (wd (zl xk rfl ((S.blk 0).cell (Nd.get_name _))) (wd (jh rfl rfl) (wd (zA rfl) ?_)))))
    refine wg (fun hg=>zw rfl) ?_
    refine wg (fun hg=>zf uD rfl (o':=2) rfl) ?_
    refine wg (fun hg=>zl xv (zp hg) ((S.blk 0).cell (Nd.get_l _))) ?_
    obtain ⟨r18,er18,H⟩ := zq H
    refine xU (j:=3) (pol:=false) rfl rfl rfl zbA (fun hg=>zF ca_ref03_T_Has (zK (zp hg) (zK (zp hg) rfl))) zbA (fun hg=>(have ⟨M,SS⟩ := S.lend ((.o 1 rfl .nil)); quiet (ref03_T_Has_st SS (if_t (by simpa using hg) er18)) (fun v w' h=>⟨h.1,_,_,h.2⟩))) fun w19 hw19=>?_
    replace S:=S.ext hw19
    refine wg (fun hg=>xg (zp hg)) (wd (xJ rfl (fun hp=>(zp (xz hp)))) (wd (zA rfl) ?_))
    refine wg (fun hg=>zw rfl) ?_
    refine wg (fun hg=>zf uE rfl (o':=3) rfl) ?_
    refine wg (fun hg=>zl xv (zp hg) ((S.blk 0).cell (Nd.get_r _))) ?_
    obtain ⟨r20,er20,H⟩ := zq H
    refine xU (j:=10) (pol:=false) rfl rfl rfl zbA (fun hg=>zF ca_ref03_T_Has (zK (zp hg) (zK (zp hg) rfl))) zbA (fun hg=>(have ⟨M,SS⟩ := S.lend ((.o 1 rfl .nil)); quiet (ref03_T_Has_st SS (if_t (by simpa using hg) er20)) (fun v w' h=>⟨h.1,_,_,h.2⟩))) fun w21 hw21=>?_
    replace S:=S.ext hw21
    refine wg (fun hg=>xg (zp hg)) (wd (xJ rfl (fun hp=>(zp (xz hp)))) (zd ?_))
    refine zJ rfl (fun hc22=>?_) (fun hc22=>?_)
    ·replace H:=if_t hc22 H
     refine zb (za (wd (zh rfl) (wd (zh rfl) (zd (zr ?_)))))
     refine ⟨_,(xd (ze rfl) (ze rfl)),?_⟩
     replace S:=S.arr [1] []
     obtain rfl:=zbE H
     obtain rfl:=uI Ho3
     exact ⟨rfl,S⟩
    replace H:=if_f hc22 H
    refine zx ?_
    obtain rfl:=zbE H
    exact ⟨rfl,df,a0,rfl,S⟩
 rintro g23 u24 ⟨s3,rfl,S⟩
 have H:=Ho3
 dsimp only [aft] at H
 refine zb (za (wd (zw rfl) (wd (zm yo rfl ((S.blk 0).all _ (Nd.len _)) (Nd.len _)) ?_)))
 obtain ⟨r25,er25,H⟩ := zq H
 obtain ⟨_,_,T,bk⟩ := S.calln 0 ((.o 1 rfl .nil))
 refine zu (zt ca_ref03_T_Find) zbA (ref03_T_Find_st T er25) ?_
 rintro _ w26 ⟨rfl,S2⟩
 replace S:=bk _ _ _ _ S2 rfl
 refine wd (zU rfl) (wd (zn rfl rfl) (wd (zn rfl rfl) (wd (zh rfl) (wd (zj rfl) (zd (zb (zb (za ?_))))))))
 refine wd (zA rfl) (zd ?_)
 refine zJ rfl (fun hc28=>?_) (fun hc28=>?_)
 ·replace H:=if_t hc28 H
  refine zb (za (wd (zi rfl) (wd (zh rfl) (wd (zh rfl) (zd (zr ?_))))))
  refine ⟨_,(xd (ze rfl) (ze rfl)),?_⟩
  replace S:=S.arr [1] []
  obtain rfl:=zbE H
  exact ⟨rfl,S⟩
 replace H:=if_f hc28 H
 refine zx (zb (zb (za (wd (zw rfl) ?_))))
 obtain ⟨ht29,H⟩ := xb H
 obtain ⟨p30,s31,hp32,S⟩ := S.openR 1 ht29
 replace S:=S
 refine wd (zW (congrArg Value.pointer hp32)) (wd (zf kE rfl (o':=0) rfl) (wd (zl xP rfl ((S.blk 0).cell (RTab.get_n _))) (wd (xN xn rfl (S.rdO 1)) (wd (jo rfl rfl) ?_))))
 replace S:=((S.front 1).front 1).shutR hp32
 refine zd ?_
 refine zJ rfl (fun hc33=>?_) (fun hc33=>?_)
 ·replace H:=if_t hc33 H
  refine zb (za (wd (zh rfl) (wd (zh rfl) (zd (zr ?_)))))
  refine ⟨_,(xd (ze rfl) (ze rfl)),?_⟩
  replace S:St A N w w26 [oR a_0 (some (s3.getD []))] []:=S.arr [0] []
  obtain rfl:=zbE H
  exact ⟨rfl,S⟩
 replace H:=if_f hc33 H
 refine zx (zb ?_)
 obtain ⟨p34,s35,hp36,S⟩ := S.openR 0 rfl
 replace S:St A N w w26 [oB p34 T_RTab (RTab.C ⟨s35⟩),oS T_Nd 4 Nd.C s35 (s3.getD []),oB b2 T_Nd (Nd.C a1)] []:=S
 obtain ⟨ha37,H⟩ := xb H
 have ha37:=of_decide_eq_true ha37
 have hSO:=S.sl 1
 have hSlt:=hSO.lt
 have SH : ∀ v,Chg s35.fp w26 v→St A (N.or s35.fp) w v [oB p34 T_RTab (RTab.C ⟨s35⟩),oB b2 T_Nd (Nd.C a1)] []:=fun v hc=>S.away 1 (hc:=hc)
 refine wc_draw 8 ⟨fun L v=>Chg s35.fp w26 v∧(L 7=false→Ext w26 v),fun L a b=>Chg s35.fp a b∧(L 7=true→Ext a b),fun i v u=>match i with
  | 0=>v=Value.pointer a_0
  | 1=>v=Value.pointer a_0
  | 2=>v=Value.pointer (some ⟨p34,0,none⟩)
  | 3=>v=Value.pointer (some ⟨p34,0,none⟩)
  | 4=>v=s35.v
  | 5=>v=Value.agg (Nd.C a1).toArray
  | 6 => ∃ b sl,v=SlV.v sl∧sl=⟨some ⟨b,0,none⟩,1,1⟩ ∧ Blk u b T_Nd (Nd.C a1)∧¬ s35.fp b
  | 7 => ∃ s',v=SlV.v s'∧Own u 0 T_Nd 4 s' (((s3.getD []) ++ [a1]).map Nd.C) ∧ ∀ i,s'.fp i→s35.fp i∨w26.heap.size ≤ i
  | _=>True⟩ hmix zbD ?_ ⟨(Ext.drawn _).mono (fun _ _ x=>x.elim),fun _=>Ext.drawn _⟩ ⟨?_,?_,?_,?_,?_,?_,?_,?_,trivial⟩ ?_
 ·intro L i v a b hLi hle hv
  match i,hLi,hv with
  | 0,_,hv=>exact hv
  | 1,_,hv=>exact hv
  | 2,_,hv=>exact hv
  | 3,_,hv=>exact hv
  | 4,_,hv=>exact hv
  | 5,_,hv=>exact hv
  | 6,_,⟨b,sl,e1,e2,hb,hn⟩ => exact ⟨b,sl,e1,e2,hb.chg hle.1 hn,hn⟩
  | 7,hLi,⟨s',e1,ho,hg⟩ => exact ⟨s',e1,ho.ext (hle.2 hLi),hg⟩
  | _ + 8,_,_=>exact trivial
 ·rintro L g v hL hT 
  refine wd (zw rfl) (zd (ob ⟨hT.1,fun h=>hT.2 h⟩ ⟨Chg.refl _ _,fun _=>Ext.refl _⟩ rfl))
 ·rintro L g v hL hT 
  refine wd (zw rfl) (zd (ob ⟨hT.1,fun h=>hT.2 h⟩ ⟨Chg.refl _ _,fun _=>Ext.refl _⟩ rfl))
 ·rintro L g v hL hT hv1
  refine wd (zW ((hv1:_=Value.pointer a_0).trans (congrArg Value.pointer hp36))) (zd (ob ⟨hT.1,fun h=>hT.2 h⟩ ⟨Chg.refl _ _,fun _=>Ext.refl _⟩ rfl))
 ·rintro L g v hL hT hv2
  refine wd (zf kE hv2 (o':=0) rfl) (zd (ob ⟨hT.1,fun h=>hT.2 h⟩ ⟨Chg.refl _ _,fun _=>Ext.refl _⟩ rfl))
 ·rintro L g v hL hT hv3
  refine wd (zl xP hv3 (((SH v hT.1).blk 0).cell (RTab.get_n _))) (zd (ob ⟨hT.1,fun h=>hT.2 h⟩ ⟨Chg.refl _ _,fun _=>Ext.refl _⟩ rfl))
 ·rintro L g v hL hT 
  refine wd (zm yo rfl (((SH v hT.1).blk 1).all _ (Nd.len _)) (Nd.len _)) (zd (ob ⟨hT.1,fun h=>hT.2 h⟩ ⟨Chg.refl _ _,fun _=>Ext.refl _⟩ rfl))
 ·rintro L g v hL hT hv5
  refine wl_lit1 xn el_Nd.zero hv5 rfl (Nd.len _) zbA zbA fun b v' sl hn hq=>zd (ob ⟨hT.1.thenExt hn.ext,fun h=>(hT.2 h).trans hn.ext⟩ ⟨hn.ext.mono (fun _ _ x=>x.elim),fun _=>hn.ext⟩ ⟨b,sl,rfl,hq,hn.blk,fun e=>by have:=hSlt _ e; have:=hn.at_; have:=hT.1.size; omega⟩)
 ·rintro L g v hL hT hv4 ⟨b,sl,hv6,hq,hb,hnb⟩
  refine wl_push (C:=Nd.C) xn el_Nd hv4 hv6 (hSO.ext (hT.2 hL)) hb hq (Nd.len _) (Nd.one _) ha37 zbB zbA fun s' v' ho hc hg=>zd (ob ⟨hT.1.trans hc,fun h=>(by cases h)⟩ ⟨hc,fun h=>(by rw [hL] at h; cases h)⟩ ⟨s',rfl,ho,fun i e=>(hg i e).imp id (fun h=>Nat.le_trans hT.1.size h)⟩)
 rintro L g w38 hLm hT hv40_0 hv40_1 hv40_2 hv40_3 hv40_4 hv40_5 ⟨b,sl,hv40_6,hq,hb,hnb⟩ ⟨s39,hv40_7,O,gO⟩
 replace S:=S.push 1 O (by rw [List.length_append,List.length_singleton]; omega) hT.1 gO
 clear O gO SH hSO hSlt
 refine wd (zW ((hv40_0:_=Value.pointer a_0).trans (congrArg Value.pointer hp36))) (wd (zf kE rfl (o':=0) rfl) ?_)
 refine yJ xP rfl hv40_7 (S.blk 1) (by rw [RTab.len]; decide) (SlV.one _ _ rfl) (RTab.set_n _ _) fun w41 B hw41 zw41=>?_
 replace S:=S.store 1 B hw41
 replace S:=((S.front 1).front 1).shutR hp36
 refine zd (zb (za (wd (zw rfl) ?_)))
 obtain ⟨p42,s43,hp44,S⟩ := S.openR 0 rfl
 replace S:=S
 refine wd (zW (congrArg Value.pointer hp44)) (wd (zf kE rfl (o':=0) rfl) (wd (zl xP rfl ((S.blk 0).cell (RTab.get_n _))) (wd (xN xn rfl (S.rdO 1)) (wd (does_sub rfl rfl) (wd (zh rfl) ?_)))))
 refine wd (zh rfl) ?_
 replace S:=((S.front 1).front 1).shutR hp44
 refine zd (zr ?_)
 refine ⟨_,(xd (ze rfl) (ze rfl)),?_⟩
 replace S:=S.arr [0] []
 obtain rfl:=zbE H
 exact ⟨rfl,S⟩
theorem ref03_From_st {a0:List Nd} {s_0:SlV} (S:St A N w w [] [fS 4 Nd.C s_0 a0]) {r:Tb × Int} (H:zdl.f a0=some r) :
  Calls PP F_ref03_From #[s_0.v] w <| Rt fun v w'=>(∃ ao0:Option Addr,v = .tuple #[.pointer ao0,.int .i64 r.2]∧St A N w w' [oR ao0 r.1] []):=by
 unfold zdl.f at H
 refine zy (n:=32) Tryz.func63 rfl rfl zbC (zb (za ?_))
 replace S:=S.add (Ext.refl _) (oR.nil _) (fun _ x=>x.elim)
 refine wd (zX rfl) (wd (zh rfl) (zd (zb (za (wd (vr bu_RTab Bld.nil) ?_)))))
 refine zE rfl zbA fun b2 w1 hw1=>?_
 replace S:St A N w w1 [oR (some ⟨b2,0,none⟩) (some []),oR none none] [fS 4 Nd.C s_0 a0]:=((S.nil T_Nd 4 Nd.C).new hw1).shutR rfl
 refine wd (zX rfl) (zd (zb (zb (za (wd (zh rfl) (zd ?_))))))
 obtain ⟨o3,e3,Ho3⟩ := zq H
 clear H
 refine xV ([2,3,5,6,7] ++ rg 10 21) (fun fr W => ∃ s3:Tb,o3 = .inl s3∧St A N w W [oR (some ⟨b2,0,none⟩) s3,oR none none] [fS 4 Nd.C s_0 a0]) ?_ ?_
 ·refine zO ?_
  refine xR (α:=Nat × Int × Tb) ([2,3,5,6,7] ++ rg 10 21) (fun x fr W=>(x.1:Int)=(a0.length:Int) - x.2.1∧0 ≤ x.2.1∧forN (fun i s=>zdl.b0 a0 i s) x.1 x.2.1 x.2.2=some o3∧fr 5 = .int .i64 x.2.1∧St A N w W [oR (some ⟨b2,0,none⟩) (x.2.2),oR none none] [fS 4 Nd.C s_0 a0]) (fun x=>x.1) (((a0.length:Int) - 0).toNat,0,(some [])) ⟨(by dsimp only; have hle:=Int.natCast_nonneg (a0.length); omega),(Int.le_refl _),(by dsimp only; exact e3),rfl,S⟩ ?_
  rintro ⟨m3,i3,x3_0⟩ g3 u3 ⟨hm3,hl3,e3,q3_i,S⟩
  try dsimp only at hm3
  try dsimp only at hl3
  try dsimp only at e3
  try dsimp only at S
  try dsimp only at q3_i
  refine zb (zb (za (wd (zi q3_i) (wd (zP rfl) (wd (xN xn rfl (S.rd 0)) (wd (xy rfl rfl) (zd ?_)))))))
  refine zJ rfl (fun hc4=>?_) (fun hc4=>?_)
  rotate_left
  ·refine x0 ?_
   have hge:(a0.length:Int) ≤ i3:=Int.not_lt.1 (of_decide_eq_false hc4)
   obtain rfl:m3=0:=by omega
   replace e3:=zbf e3
   exact ⟨rfl,df,x3_0,e3,S⟩
  refine zx ?_
  have hlt3:i3 < (a0.length:Int):=of_decide_eq_true hc4
  obtain ⟨m3,rfl⟩ : ∃ m,m3=m + 1:=⟨m3 - 1,by omega⟩
  obtain ⟨q3,H,e3⟩ := zbg e3
  unfold zdl.b0 at H
  try dsimp only at H
  have hb3:=(S.len 0)
  refine zb ?_
  refine zO (zb (za (wd (zw rfl) (wd (zP rfl) (wd (zi q3_i) (wd (xi xn rfl rfl (S.rd 0) (And.intro (show 0 ≤ i3 by omega) (show i3 < (a0.length:Int) from hlt3)).1 (And.intro (show 0 ≤ i3 by omega) (show i3 < (a0.length:Int) from hlt3)).2) ?_))))))
  refine wd (zm yo rfl ((S.rd 0).at (y9 Nd.z (And.intro (show 0 ≤ i3 by omega) (show i3 < (a0.length:Int) from hlt3)))) (Nd.len _)) ?_
  obtain ⟨r6,er6,H⟩ := zq H
  obtain ⟨_,_,T,bk⟩ := S.calln 1 ((.nil))
  refine zu (zt ca_ref03_T_Put) zbA (ref03_T_Put_st T er6) ?_
  rintro _ w7 ⟨rfl,S2⟩
  replace S:=bk _ _ _ _ S2 rfl
  refine wd (zU rfl) (wd (zn rfl rfl) (wd (zn rfl rfl) (wd (zh rfl) (wd (zh rfl) (zd (zb (zb (za ?_))))))))
  refine wd (zi rfl) (wd (xr rfl rfl) (zd ?_))
  refine zJ rfl (fun hc9=>?_) (fun hc9=>?_)
  ·replace H:=if_t hc9 H
   refine zb (za (wd (zi rfl) ?_))
   replace S:=S.add (Ext.refl _) (oR.nil _) (fun _ x=>x.elim)
   refine wd (zX rfl) (wd (zh rfl) (zd (zr ?_)))
   refine ⟨_,(xd (ze rfl) (ze rfl)),?_⟩
   replace S:=S.arr [0] []
   obtain rfl:=zbE H
   obtain rfl:=e3
   obtain rfl:=uI Ho3
   exact ⟨none,rfl,S⟩
  replace H:=if_f hc9 H
  refine zx (zb (za (wd (zi rfl) (wd (zi q3_i) (wd (xr rfl rfl) (zd ?_))))))
  refine zJ rfl (fun hc10=>?_) (fun hc10=>?_)
  ·replace H:=if_t hc10 H
   refine zb (za ?_)
   replace S:=S.add (Ext.refl _) (oR.nil _) (fun _ x=>x.elim)
   refine wd (zX rfl) (wd (zh rfl) (zd (zr ?_)))
   refine ⟨_,(xd (ze rfl) (ze rfl)),?_⟩
   replace S:=S.arr [0] []
   obtain rfl:=zbE H
   obtain rfl:=e3
   obtain rfl:=uI Ho3
   exact ⟨none,rfl,S⟩
  replace H:=if_f hc10 H
  refine zx (za (wd (zi q3_i) (wd (xt rfl rfl (c:=i3 + 1) rfl zbB zbB) (wd (zh rfl) (zd ?_)))))
  obtain rfl:=zbE H
  exact ⟨rfl,df,(m3,i3 + 1,r6.1),⟨(by dsimp only; omega),(by dsimp only; omega),e3,rfl,S⟩,by dsimp only; omega⟩
 rintro g11 u12 ⟨s3,rfl,S⟩
 have H:=Ho3
 dsimp only [aft] at H
 refine zb (za (wd (zw rfl) (wd (zX rfl) (wd (zh rfl) (zd (zr ?_))))))
 refine ⟨_,(xd (ze rfl) (ze rfl)),?_⟩
 replace S:=S.arr [0] []
 obtain rfl:=zbE H
 exact ⟨(some ⟨b2,0,none⟩),rfl,S⟩
theorem law03_Both_st {a0:List Nd} {s_0:SlV} (S:St A N w w [] [fS 4 Nd.C s_0 a0]) {r:Tb × Tb × Bool} (H:zdm.f a0=some r) :
  Calls PP F_law03_Both #[s_0.v] w <| Rt fun v w'=>(∃ ao0:Option Addr,∃ ao1:Option Addr,v = .tuple #[.pointer ao0,.pointer ao1,.bool r.2.2]∧St A N w w' [oT ao0 r.1,oR ao1 r.2.1] []):=by
 unfold zdm.f at H
 refine zy (n:=27) Tryz.func34 rfl rfl zbC (zb (za ?_))
 replace S:=S.add (Ext.refl _) (oT.nil _) (fun _ x=>x.elim)
 refine wd (zX rfl) ?_
 replace S:=S.add (Ext.refl _) (oR.nil _) (fun _ x=>x.elim)
 refine wd (zX rfl) (wd (zj rfl) (zd (zb (za ?_))))
 refine vD (C:=Nd.C) (l:=([]:List Nd)) (vs:=[]) xn el_Nd.zero rfl rfl (fun a _=>Nd.len a) zbA rfl zbA fun b2 w1 s3 hBw1 hw1=>?_
 replace S:=S.lit hBw1 hw1 zbC
 refine wd (zP rfl) ?_
 obtain ⟨ha6,H⟩ := xb H
 have ha6:=of_decide_eq_true ha6
 refine wl_appendm (C:=Nd.C) xn el_Nd rfl rfl (S.sl 0) (S.rd 0) Nd.one ha6 zbB zbA fun s5 w4 O hw4 gw4=>?_
 replace S:=S.push 0 O (by first | (simp; done) | (simp; omega)) hw4 gw4
 clear O
 refine wd (y4 rfl) (zd (zb (za (wd (zP rfl) ?_))))
 obtain ⟨r7,er7,H⟩ := zq H
 obtain ⟨_,_,T,bk⟩ := S.calln 0 ((.z 0 rfl .nil))
 refine zu (zt ca_ref03_From) zbA (ref03_From_st T er7) ?_
 rintro _ w8 ⟨a10,rfl,S2⟩
 replace S:=bk _ _ _ _ S2 rfl
 refine wd (zU rfl) (wd (zn rfl rfl) (wd (zn rfl rfl) (wd (zX rfl) (wd (zh rfl) (zd (zb (zb (za ?_))))))))
 refine wd (zi rfl) (wd (xr rfl rfl) (zd ?_))
 refine zJ rfl (fun hc11=>?_) (fun hc11=>?_)
 ·replace H:=if_t hc11 H
  refine zb (za ?_)
  replace S:=S.add (Ext.refl _) (oT.nil _) (fun _ x=>x.elim)
  refine wd (zX rfl) ?_
  replace S:=S.add (Ext.refl _) (oR.nil _) (fun _ x=>x.elim)
  refine wd (zX rfl) (wd (zj rfl) (zd (zr ?_)))
  refine ⟨_,(rets3 (ze rfl) (ze rfl) (ze rfl)),?_⟩
  replace S:=S.arr [1,0] []
  obtain rfl:=zbE H
  exact ⟨none,none,rfl,S⟩
 replace H:=if_f hc11 H
 refine zx (zb (za (wd (zP rfl) ?_)))
 obtain ⟨r12,er12,H⟩ := zq H
 obtain ⟨_,_,T,bk⟩ := S.calln 0 ((.s 1 rfl .nil))
 refine zu (zt ca_formula_From) zbA (formula_From_st T er12) ?_
 rintro _ w13 ⟨a15,rfl,S2⟩
 replace S:=bk _ _ _ _ S2 rfl
 refine wd (zU rfl) (wd (zn rfl rfl) (wd (zn rfl rfl) (wd (zX rfl) (wd (zh rfl) (zd (zb (za ?_)))))))
 refine wd (zw rfl) (wd (zw rfl) (wd (zX rfl) (wd (zX rfl) (wd (zj rfl) (zd (zr ?_))))))
 refine ⟨_,(rets3 (ze rfl) (ze rfl) (ze rfl)),?_⟩
 replace S:=S.arr [0,1] []
 obtain rfl:=zbE H
 exact ⟨a15,a10,rfl,S⟩
end
section
open Gw Go.RowKit
set_option maxHeartbeats 4000000
set_option maxRecDepth 20000
variable {A:Nat→Prop} {N:Oth} {w:World}
theorem formula_Table_Atom_st {a0:Tb} {a_0:Option Addr} {a1:ByteArray} (S:St A N w w [oT a_0 a0] []) {r:Tb × Int × Int} (H:zdn.f a0 a1=some r) :
  Calls PP kU #[.pointer a_0,.string a1] w <| Rt fun v w'=>(v = .tuple #[.int .i64 r.2.1,.int .i64 r.2.2]∧St A N w w' [oT a_0 r.1] []):=by
 unfold zdn.f at H
 refine zy (n:=12) Tryz.func49 rfl rfl zbC (zb (za (wd (zh rfl) (wd (zh rfl) (zd (zb (za ?_)))))))
 refine wd (zw rfl) (wd (xa rfl) (wd (vr bu_Nd (Bld.one rfl rfl (by rw [Nd.len]; decide) (Nd.set_kind _ _) (Bld.one rfl rfl (by rw [Nd.len]; decide) (Nd.set_name _ _) Bld.nil))) ?_))
 obtain ⟨r1,er1,H⟩ := zq H
 obtain ⟨_,_,T,bk⟩ := S.calln 1 ((.nil))
 refine zu (zt jg) zbA (zag T er1) ?_
 rintro _ w2 ⟨rfl,S2⟩
 replace S:=bk _ _ _ _ S2 rfl
 refine wd (zn rfl rfl) (wd (zn rfl rfl) (wd (zh rfl) (wd (zh rfl) (zd (zr ?_)))))
 refine ⟨_,(xd (ze rfl) (ze rfl)),?_⟩
 obtain rfl:=zbE H
 exact ⟨rfl,S⟩
theorem yd {a0:Int} (S:St A N w w [] []) {r:Int} (H:zdo.f a0=some r) :
  Calls PP F_law14_num #[.int .i64 a0] w <| Rt fun v w'=>(v = .int .i64 r∧St A N w w' [] []):=by
 unfold zdo.f at H
 refine zy (n:=4) Tryz.func14 rfl rfl zbC (zb (za (wd (zh rfl) (zd (zb (za (wd (zi rfl) ?_)))))))
 refine wd (zh rfl) (zd (zr ?_))
 refine ⟨_,(zS (ze rfl)),?_⟩
 obtain rfl:=zbE H
 exact ⟨rfl,S⟩
theorem uk {a0:ByteArray} (S:St A N w w [] []) {r:PTerm} (H:zdp.f a0=some r) :
  Calls PP F_law14_name #[.string a0] w <| Rt fun v w'=>(∃ so0:SlV,v = .agg (tmC r so0).toArray∧St A N w w' [] [zg so0 r.sub]):=by
 unfold zdp.f at H
 refine zy (n:=5) Tryz.func51 rfl rfl zbC (zb (za ?_))
 refine zQ xC zbA fun b2 w1 hw1=>?_
 replace S:=S.new hw1
 refine zd (zb (za (wd (xa rfl) (wd (Does.to (v' := .agg (Term.C (tmM 1 a0 SlV.nil)).toArray) (z1 (vs:=[(0,.int .i64 1),(1,.string a0)]) yP (xT rfl (xT rfl rfl)) (Bld.one rfl rfl (by rw [Term.len]; decide) (Term.set_kind _ _) (Bld.one rfl rfl (by rw [Term.len]; decide) (Term.set_name _ _) Bld.nil))) rfl) ?_))))
 refine wsT rfl rfl (S.blk 0) fun w3 B hw3 zw3=>?_
 replace S:=S.store 0 B hw3
 refine zd (zr ?_)
 replace S:=S.nilTm
 refine ⟨_,(zS (rtT rfl (S.blk 0))),?_⟩
 replace S:=S.arr [] [0]
 obtain rfl:=zbE H
 exact ⟨SlV.nil,rfl,S⟩
theorem ref12_Same_gst {zef:PTerm→PTerm→Option Bool} (zdP : ∀ {A:Nat→Prop} {N:Oth} {w:World} {a0:PTerm} {s_0:SlV} {a1:PTerm} {s_1:SlV} (S:St A N w w [] [zg s_0 a0.sub,zg s_1 a1.sub]) {r:Bool} (H:zef a0 a1=some r),Calls PP jY #[.agg (tmC a0 s_0).toArray,.agg (tmC a1 s_1).toArray] w <| Rt fun v w'=>(v = .bool r∧St A N w w' [] [])) {A:Nat→Prop} {N:Oth} {w:World} {a0:PTerm} {s_0:SlV} {a1:PTerm} {s_1:SlV} (S:St A N w w [] [zg s_0 a0.sub,zg s_1 a1.sub]) {k:Nat} {r:Bool} (H:zdq.g zef k a0 a1=some r) :
  Calls PP jY #[.agg (tmC a0 s_0).toArray,.agg (tmC a1 s_1).toArray] w <| Rt fun v w'=>(v = .bool r∧St A N w w' [] []):=by
 unfold zdq.g at H
 refine zy (n:=60) Tryz.func20 rfl rfl zbC (zb (za ?_))
 refine zE rfl zbA fun b2 w1 hw1=>?_
 replace S:=S.new hw1
 refine zE rfl zbA fun b4 w3 hw3=>?_
 replace S:=S.new hw3
 refine wd (zj rfl) (zd (zb (zb (za (wd (zf xj rfl (o':=0) rfl) (wd (zl zY rfl ((S.blk 1).cell (Term.get_kind _))) (wd (zf xj rfl (o':=0) rfl) ?_)))))))
 refine wd (zl zY rfl ((S.blk 0).cell (Term.get_kind _))) (wd (xr rfl rfl) (wd (zA rfl) ?_))
 refine wg (fun hg=>zf xK rfl (o':=1) rfl) ?_
 refine wg (fun hg=>zl xk (zp hg) ((S.blk 1).cell (Term.get_name _))) ?_
 refine wg (fun hg=>zf xK rfl (o':=1) rfl) ?_
 refine wg (fun hg=>zl xk (zp hg) ((S.blk 0).cell (Term.get_name _))) ?_
 refine wg (fun hg=>jh (zp hg) (zp hg)) (wd (xJ rfl (fun hp=>(zp (xz hp)))) (wd (zA rfl) ?_))
 refine wg (fun hg=>zf vH rfl (o':=2) rfl) ?_
 refine wg (fun hg=>zl xk (zp hg) ((S.blk 1).cell (Term.get_other _))) ?_
 refine wg (fun hg=>zf vH rfl (o':=2) rfl) ?_
 refine wg (fun hg=>zl xk (zp hg) ((S.blk 0).cell (Term.get_other _))) ?_
 refine wg (fun hg=>jh (zp hg) (zp hg)) (wd (xJ rfl (fun hp=>(zp (xz hp)))) (wd (zA rfl) ?_))
 refine wg (fun hg=>zf yG rfl (o':=3) rfl) ?_
 refine wg (fun hg=>zl xv (zp hg) ((S.blk 1).cell (Term.get_form _))) ?_
 refine wg (fun hg=>zf yG rfl (o':=3) rfl) ?_
 refine wg (fun hg=>zl xv (zp hg) ((S.blk 0).cell (Term.get_form _))) ?_
 refine wg (fun hg=>xr (zp hg) (zp hg)) (wd (xJ rfl (fun hp=>(zp (xz hp)))) (wd (zA rfl) ?_))
 refine wg (fun hg=>zf zG rfl (o':=4) rfl) ?_
 refine wg (fun hg=>zl zB (zp hg) ((S.blk 1).cell (Term.get_sub _))) ?_
 refine wg (fun hg=>does_lenF zz (zp hg) (S.onZ 0)) ?_
 refine wg (fun hg=>zf zG rfl (o':=4) rfl) ?_
 refine wg (fun hg=>zl zB (zp hg) ((S.blk 0).cell (Term.get_sub _))) ?_
 refine wg (fun hg=>does_lenF zz (zp hg) (S.onZ 1)) ?_
 refine wg (fun hg=>xr (zp hg) (zp hg)) (wd (xJ rfl (fun hp=>(zp (xz hp)))) (zd ?_))
 refine zJ rfl (fun hc5=>?_) (fun hc5=>?_)
 ·replace H:=if_t hc5 H
  refine zb (za (wd (zj rfl) (zd (zr ?_))))
  refine ⟨_,(zS (ze rfl)),?_⟩
  replace S:=S.arr [] []
  obtain rfl:=zbE H
  exact ⟨rfl,S⟩
 replace H:=if_f hc5 H
 refine zx (zb (zb (za (wd (zh rfl) (zd ?_)))))
 obtain ⟨o6,e6,Ho6⟩ := zq H
 clear H
 refine xV ([4,5] ++ rg 41 19) (fun fr W => ∃ s6:Int,o6 = .inl s6∧fr 5 = .int .i64 s6∧St A N w W [oB b4 zo (tmC a1 s_1),oB b2 zo (tmC a0 s_0)] [zg s_0 a0.sub,zg s_1 a1.sub]) ?_ ?_
 ·refine zO ?_
  refine xR (α:=Nat × Int) ([4,5] ++ rg 41 19) (fun x fr W=>iter (fun s=>zdq.b0 a0 a1 zef s) x.1 x.2=some o6∧fr 5 = .int .i64 (x.2)∧St A N w W [oB b4 zo (tmC a1 s_1),oB b2 zo (tmC a0 s_0)] [zg s_0 a0.sub,zg s_1 a1.sub]) (fun x=>x.1) (k,0) ⟨(by dsimp only; exact e6),rfl,S⟩ ?_
  rintro ⟨m6,x6_0⟩ g6 u6 ⟨e6,q6_5,S⟩
  try dsimp only at e6
  try dsimp only at S
  try dsimp only at q6_5
  obtain ⟨m6,rfl⟩ : ∃ m,m6=m + 1:=⟨m6 - 1,by cases m6 with | zero=>cases e6 | succ m=>rfl⟩
  obtain ⟨q6,H,e6⟩ := iter_s e6
  unfold zdq.b0 at H
  try dsimp only at H
  refine zb (zb (za (wd (zi q6_5) (wd (zf zG rfl (o':=4) rfl) (wd (zl zB rfl ((S.blk 1).cell (Term.get_sub _))) (wd (does_lenF zz rfl (S.onZ 0)) (wd (xy rfl rfl) (zd ?_))))))))
  refine zJ rfl (fun hc7=>?_) (fun hc7=>?_)
  rotate_left
  ·replace H:=if_f hc7 H
   refine x0 ?_
   obtain rfl:=zbE H
   exact ⟨rfl,df,x6_0,e6,q6_5,S⟩
  replace H:=if_t hc7 H
  refine zx (zb ?_)
  refine zO (zb ?_)
  refine yt 10 (Ext u6) hmix zbD zbD (Ext.drawn _) (zD (fun v K=>zf zG rfl (o':=4) rfl) (zD (fun v K=>zl zB rfl (((S.ext K).blk 1).cell (Term.get_sub _))) (zD (fun v K=>zi q6_5) ?_)))
  obtain ⟨hi8,H⟩ := xb H
  refine zD (fun v K=>does_indexF zz rfl rfl ((S.ext K).onZ 0) (zM hi8).1 (zM hi8).2) ?_
  obtain ⟨s9,hc10,S⟩ := S.viewTerm 0 (zM hi8)
  replace S:=S
  refine zD (fun v K=>zm zR rfl (hc10.chg K (fun x=>x)) (Term.len _)) (zD (fun v K=>zf zG rfl (o':=4) rfl) (zD (fun v K=>zl zB rfl (((S.ext K).blk 0).cell (Term.get_sub _))) (zD (fun v K=>zi q6_5) ?_)))
  obtain ⟨hi11,H⟩ := xb H
  refine zD (fun v K=>does_indexF zz rfl rfl ((S.ext K).onZ 2) (zM hi11).1 (zM hi11).2) ?_
  obtain ⟨s12,hc13,S⟩ := S.viewTerm 2 (zM hi11)
  replace S:=S
  refine zD (fun v K=>zm zR rfl (hc13.chg K (fun x=>x)) (Term.len _)) ?_
  refine vY fun w14 K=>?_
  replace S:=S.ext K
  clear K
  obtain ⟨r15,er15,H⟩ := zq H
  obtain ⟨_,_,T,bk⟩ := S.calln 0 ((.z 1 rfl (.z 0 rfl .nil)))
  refine zu (zt kR) zbA (zdP (a0:=(kd a0 x6_0)) (a1:=(kd a1 x6_0)) T er15) ?_
  rintro _ w16 ⟨rfl,S2⟩
  replace S:=bk _ _ _ _ S2 rfl
  refine wd (xg rfl) (zd ?_)
  refine zJ rfl (fun hc18=>?_) (fun hc18=>?_)
  ·replace H:=if_t hc18 H
   refine zb (za (wd (zj rfl) (zd (zr ?_))))
   refine ⟨_,(zS (ze rfl)),?_⟩
   replace S:=S.arr [] []
   obtain rfl:=zbE H
   obtain rfl:=e6
   obtain rfl:=uI Ho6
   exact ⟨rfl,S⟩
  replace H:=if_f hc18 H
  refine zx (za (wd (zi q6_5) (wd (vQ rfl rfl) (wd (zh rfl) (zd ?_)))))
  replace S:=S.arr [0,1] [2,3]
  obtain rfl:=zbE H
  exact ⟨rfl,df,(m6,IntKind.i64.wrap (x6_0 + 1)),⟨e6,rfl,S⟩,by dsimp only; omega⟩
 rintro g19 u20 ⟨s6,rfl,p6_5,S⟩
 have H:=Ho6
 dsimp only [aft] at H
 refine zb (za (wd (zj rfl) (zd (zr ?_))))
 refine ⟨_,(zS (ze rfl)),?_⟩
 replace S:=S.arr [] []
 obtain rfl:=zbE H
 exact ⟨rfl,S⟩
theorem zbk {a0:PTerm} {s_0:SlV} {a1:PTerm} {s_1:SlV} (S:St A N w w [] [zg s_0 a0.sub,zg s_1 a1.sub]) {k:Nat} {r:Bool} (H:zdq.f k a0 a1=some r) :
  Calls PP jY #[.agg (tmC a0 s_0).toArray,.agg (tmC a1 s_1).toArray] w <| Rt fun v w'=>(v = .bool r∧St A N w w' [] []):=by
 have main : ∀ (k:Nat) {A:Nat→Prop} {N:Oth} {w:World} {a0:PTerm} {s_0:SlV} {a1:PTerm} {s_1:SlV} (S:St A N w w [] [zg s_0 a0.sub,zg s_1 a1.sub]) {r:Bool} (H:zdq.f k a0 a1=some r),Calls PP jY #[.agg (tmC a0 s_0).toArray,.agg (tmC a1 s_1).toArray] w <| Rt fun v w'=>(v = .bool r∧St A N w w' [] []):=by
  intro k
  induction k with
  | zero=>intro A N w a0 s_0 a1 s_1 S r H; cases H
  | succ k ih=>intro A N w a0 s_0 a1 s_1 S r H; exact ref12_Same_gst ih S H
 exact main k S H
theorem ref14_Ways_st {a0:List (List Int)} {s_0:SlV} {a1:List (List Int)} {s_1:SlV} (S:St A N w w [] [zL s_0 a0,zL s_1 a1]) {r:Bool} (H:zdr.f a0 a1=some r) :
  Calls PP F_ref14_Ways #[s_0.v,s_1.v] w <| Rt fun v w'=>(v = .bool r∧St A N w w' [] []):=by
 unfold zdr.f at H
 refine zy (n:=27) Tryz.func13 rfl rfl zbC (zb (za (wd (zj rfl) (zd (zb (zb (za (wd (zP rfl) ?_))))))))
 refine wd (kD y7 rfl (S.onZ 0)) (wd (zP rfl) (wd (kD y7 rfl (S.onZ 1)) (wd (xr rfl rfl) (zd ?_))))
 refine zJ rfl (fun hc1=>?_) (fun hc1=>?_)
 ·replace H:=if_t hc1 H
  refine zb (za (wd (zj rfl) (zd (zr ?_))))
  refine ⟨_,(zS (ze rfl)),?_⟩
  replace S:=S.arr [] []
  obtain rfl:=zbE H
  exact ⟨rfl,S⟩
 replace H:=if_f hc1 H
 refine zx (zb (zb (za (wd (zh rfl) (zd ?_)))))
 obtain ⟨o2,e2,Ho2⟩ := zq H
 clear H
 refine xV ([4,5] ++ rg 11 16) (fun fr W => ∃ s2:Unit,o2 = .inl s2∧St A N w W [] [zL s_0 a0,zL s_1 a1]) ?_ ?_
 ·refine zO ?_
  refine xR (α:=Nat × Int × Unit) ([4,5] ++ rg 11 16) (fun x fr W=>(x.1:Int)=(a0.length:Int) - x.2.1∧0 ≤ x.2.1∧forN (fun i s=>zdr.b0 a1 a0 i) x.1 x.2.1 x.2.2=some o2∧fr 5 = .int .i64 x.2.1∧St A N w W [] [zL s_0 a0,zL s_1 a1]) (fun x=>x.1) (((a0.length:Int) - 0).toNat,0,()) ⟨(by dsimp only; have hle:=Int.natCast_nonneg (a0.length); omega),(Int.le_refl _),(by dsimp only; exact e2),rfl,S⟩ ?_
  rintro ⟨m2,i2,_⟩ g2 u2 ⟨hm2,hl2,e2,q2_i,S⟩
  try dsimp only at hm2
  try dsimp only at hl2
  try dsimp only at e2
  try dsimp only at S
  try dsimp only at q2_i
  refine zb (zb (za (wd (zi q2_i) (wd (zP rfl) (wd (kD y7 rfl (S.onZ 0)) (wd (xy rfl rfl) (zd ?_)))))))
  refine zJ rfl (fun hc3=>?_) (fun hc3=>?_)
  rotate_left
  ·refine x0 ?_
   have hge:(a0.length:Int) ≤ i2:=Int.not_lt.1 (of_decide_eq_false hc3)
   obtain rfl:m2=0:=by omega
   replace e2:=zbf e2
   exact ⟨rfl,df,(),e2,S⟩
  refine zx ?_
  have hlt2:i2 < (a0.length:Int):=of_decide_eq_true hc3
  obtain ⟨m2,rfl⟩ : ∃ m,m2=m + 1:=⟨m2 - 1,by omega⟩
  obtain ⟨q2,H,e2⟩ := zbg e2
  unfold zdr.b0 at H
  try dsimp only at H
  have hb2:=(S.lenDZ 0)
  refine zb ?_
  refine zO (zb ?_)
  refine yt 8 (Ext u2) hmix zbD zbD (Ext.drawn _) (zD (fun v K=>zP rfl) (zD (fun v K=>zi q2_i) (zD (fun v K=>does_indexD y7 rfl rfl ((S.ext K).onZ 0) (And.intro (show 0 ≤ i2 by omega) (show i2 < (a0.length:Int) from hlt2)).1 (And.intro (show 0 ≤ i2 by omega) (show i2 < (a0.length:Int) from hlt2)).2) ?_)))
  obtain ⟨s5,hc6,S⟩ := S.viewL_int 0 (And.intro (show 0 ≤ i2 by omega) (show i2 < (a0.length:Int) from hlt2))
  replace S:=S
  refine zD (fun v K=>zl kk rfl ((hc6.chg K (fun x=>x)).get (i:=0) rfl)) (zD (fun v K=>zP rfl) (zD (fun v K=>zi q2_i) ?_))
  obtain ⟨hi7,H⟩ := xb H
  refine zD (fun v K=>does_indexD y7 rfl rfl ((S.ext K).onZ 2) (zM hi7).1 (zM hi7).2) ?_
  obtain ⟨s8,hc9,S⟩ := S.viewL_int 2 (zM hi7)
  replace S:=S
  refine zD (fun v K=>zl kk rfl ((hc9.chg K (fun x=>x)).get (i:=0) rfl)) ?_
  refine vY fun w10 K=>?_
  replace S:=S.ext K
  clear K
  obtain ⟨r11,er11,H⟩ := zq H
  obtain ⟨_,_,T,bk⟩ := S.calln 0 ((.z 1 rfl (.z 0 rfl .nil)))
  refine zu (zt ca_ref03_Ints) zbA (ref03_Ints_st T er11) ?_
  rintro _ w12 ⟨rfl,S2⟩
  replace S:=bk _ _ _ _ S2 rfl
  refine wd (xg rfl) (zd ?_)
  refine zJ rfl (fun hc14=>?_) (fun hc14=>?_)
  ·replace H:=if_t hc14 H
   refine zb (za (wd (zj rfl) (zd (zr ?_))))
   refine ⟨_,(zS (ze rfl)),?_⟩
   replace S:=S.arr [] []
   obtain rfl:=zbE H
   obtain rfl:=e2
   obtain rfl:=uI Ho2
   exact ⟨rfl,S⟩
  replace H:=if_f hc14 H
  refine zx (za (wd (zi q2_i) (wd (xt rfl rfl (c:=i2 + 1) rfl zbB zbB) (wd (zh rfl) (zd ?_)))))
  replace S:=S.arr [] [2,3]
  obtain rfl:=zbE H
  exact ⟨rfl,df,(m2,i2 + 1,()),⟨(by dsimp only; omega),(by dsimp only; omega),e2,rfl,S⟩,by dsimp only; omega⟩
 rintro g15 u16 ⟨s2,rfl,S⟩
 have H:=Ho2
 dsimp only [aft] at H
 refine zb (za (wd (zj rfl) (zd (zr ?_))))
 refine ⟨_,(zS (ze rfl)),?_⟩
 replace S:=S.arr [] []
 obtain rfl:=zbE H
 exact ⟨rfl,S⟩
end
section
open Gw Go.RowKit
set_option maxHeartbeats 4000000
set_option maxRecDepth 20000
theorem law14_heads_st {A:Nat→Prop} {N:Oth} {w:World}  (S:St A N w w [] [oPw]) {k:Nat} {r:Bool} (H:zds.f k  = some r) :
  Calls PP F_law14_heads #[] w <| Rt fun v w'=>(v = .bool r∧St A N w w' [] []):=by
 unfold zds.f at H
 refine zy (n:=152) Tryz.func23 rfl rfl zbC (zb (za (wd (zj rfl) (zd (zb (za ?_))))))
 obtain ⟨r1,er1,H⟩ := zq H
 obtain ⟨_,_,T,bk⟩ := S.calln 0 ((.nil))
 refine zu (zt j8) zbA (ki T er1) ?_
 rintro _ w2 ⟨a4,rfl,S2⟩
 replace S:=bk _ _ _ _ S2 rfl
 refine wd (zX rfl) (zd (zb (za (wd (zw rfl) ?_))))
 obtain ⟨r5,er5,H⟩ := zq H
 obtain ⟨_,_,T,bk⟩ := S.calln 1 ((.nil))
 refine zu (zt ca_formula_Table_Atom) zbA (formula_Table_Atom_st T er5) ?_
 rintro _ w6 ⟨rfl,S2⟩
 replace S:=bk _ _ _ _ S2 rfl
 refine wd (zU rfl) (wd (zn rfl rfl) (wd (zn rfl rfl) (wd (zh rfl) (wd (zh rfl) (zd (zb (za ?_)))))))
 refine wd (zw rfl) (wd (zi rfl) (wd (zi rfl) ?_))
 obtain ⟨r8,er8,H⟩ := zq H
 obtain ⟨_,_,T,bk⟩ := S.calln 1 ((.nil))
 refine zu (zt ca_formula_Table_Imp) zbA (formula_Table_Imp_st T er8) ?_
 rintro _ w9 ⟨rfl,S2⟩
 replace S:=bk _ _ _ _ S2 rfl
 refine wd (zU rfl) (wd (zn rfl rfl) (wd (zn rfl rfl) (wd (zh rfl) (wd (zh rfl) (zd (zb (za ?_)))))))
 obtain ⟨r11,er11,H⟩ := zq H
 obtain ⟨_,_,T,bk⟩ := S.sub [] [] [oT a4 r8.1]
 refine zu (zt uh) zbA (uk T er11) ?_
 rintro _ w12 ⟨s14,rfl,S2⟩
 replace S:=bk _ _ _ _ _ S2 rfl rfl
 refine vD (C:=Term.C) (l:=[(tmT r11 s14)]) (vs:=[.agg (tmC r11 s14).toArray]) zz jp.zero rfl rfl (fun a _=>Term.len a) zbA rfl zbA fun b16 w15 s17 hBw15 hw15=>?_
 replace S:=((S.lit hBw15 hw15 zbC).bigTm).consTm (x:=r11) 0
 replace S:=(S.frzTm 0 0).zs [0,2,3]
 refine wd (Does.to (v' := .agg (Term.C (tmM 2 (bA #[120]) s17)).toArray) (z1 (vs:=[(0,.int .i64 2),(1,.string (bA #[120])),(4,s17.v)]) yP (xT rfl (xT rfl (xT rfl rfl))) (Bld.one rfl rfl (by rw [Term.len]; decide) (Term.set_kind _ _) (Bld.one rfl rfl (by rw [Term.len]; decide) (Term.set_name _ _) (Bld.one rfl (SlV.one _ _ rfl) (by rw [Term.len]; decide) (Term.set_sub _ _) Bld.nil)))) rfl) ?_
 refine zQ xC zbA fun b19 w18 hw18=>?_
 replace S:=S.new hw18
 refine wsT rfl rfl (S.blk 0) fun w20 B hw20 zw20=>?_
 replace S:=S.store 0 B hw20
 refine zd (zb ?_)
 obtain ⟨r24,er24,H⟩ := zq H
 refine vh 8 ⟨fun _ _=>True,fun _ _ _=>True,fun i v _=>match i with
  | 0=>v=Value.int .i64 r8.2.1
  | 1=>v=Value.agg (Term.C (tmM 2 (bA #[120]) s17)).toArray
  | _=>True⟩ (fun L g v => ∃ b32:Nat,∃ O34:List OA,∃ Z33:List OA,(∀ z ∈ [zg s17 ([r11]),zg s14 r11.sub,oPw],z ∈ Z33)∧Made L g Z33 2 41 (fun (c:SlV)=>c.v) (fun (c:SlV)=>[zg c ([(ptM 2 (bA #[120]) [r11])])])∧Made L g Z33 3 42 (fun (c:SlV)=>Value.agg (Term.C (tmN 11 r8.2.1 c)).toArray) (fun (c:SlV)=>[zg c ([(ptM 2 (bA #[120]) [r11])])])∧Made L g Z33 4 43 (fun (c:SlV)=>Value.agg (tmC r24 c).toArray) (fun (c:SlV)=>[zg c r24.sub])∧Made L g Z33 5 44 (fun (c:SlV)=>c.v) (fun (c:SlV)=>[zg c ([(ptN 11 r8.2.1 [(ptM 2 (bA #[120]) [r11])]),r24])])∧Made L g Z33 6 45 (fun (c:SlV)=>Value.agg (Term.C (tmN 3 0 c)).toArray) (fun (c:SlV)=>[zg c ([(ptN 11 r8.2.1 [(ptM 2 (bA #[120]) [r11])]),r24])])∧(L 7=true→g 7=Value.pointer (some ⟨b32,0,none⟩))∧O34=((bif L 7 then [oB b32 zo (Term.C tmZ)] else []) ++ [oB b19 zo (Term.C (tmM 2 (bA #[120]) s17)),oT a4 r8.1])∧St A N w v O34 Z33) hmix zbD (fun _ _ _ _ _ _ _ hv=>hv) (fun g=>⟨0,_,_,fun _ h=>h,Made.no,Made.no,Made.no,Made.no,Made.no,(fun h=>by cases h),rfl,S.ext (Ext.drawn _)⟩) ⟨?_,?_,?_,?_,?_,?_,?_,?_,trivial⟩ ?_
 ·rintro L g v hL hcl hclo ⟨b32,O34,Z33,hZ,hm2,hm3,hm4,hm5,hm6,hk7,hO,S⟩ 
  have SR:St A N w v [oB b19 zo (Term.C (tmM 2 (bA #[120]) s17)),oT a4 r8.1] (zg s17 ([r11]) :: zg s14 r11.sub :: oPw :: Z33):=by
   have S2:=S.zneed hZ
   rw [hO] at S2
   exact S2.drops
  refine wd (zi rfl) ?_
  exact w4 rfl ⟨b32,O34,Z33,hZ,hm2.keep rfl rfl tl0,hm3.keep rfl rfl tl0,hm4.keep rfl rfl tl0,hm5.keep rfl rfl tl0,hm6.keep rfl rfl tl0,(kpU hk7),by rw [hO]; simp only [pN L 0 7],S⟩
 ·rintro L g v hL hcl hclo ⟨b32,O34,Z33,hZ,hm2,hm3,hm4,hm5,hm6,hk7,hO,S⟩ 
  have SR:St A N w v [oB b19 zo (Term.C (tmM 2 (bA #[120]) s17)),oT a4 r8.1] (zg s17 ([r11]) :: zg s14 r11.sub :: oPw :: Z33):=by
   have S2:=S.zneed hZ
   rw [hO] at S2
   exact S2.drops
  refine wd (ldT rfl (SR.blk 0)) ?_
  exact w4 rfl ⟨b32,O34,Z33,hZ,hm2.keep rfl rfl tl0,hm3.keep rfl rfl tl0,hm4.keep rfl rfl tl0,hm5.keep rfl rfl tl0,hm6.keep rfl rfl tl0,(kpU hk7),by rw [hO]; simp only [pN L 1 7],S⟩
 ·rintro L g v hL hcl hclo ⟨b32,O34,Z33,hZ,hm2,hm3,hm4,hm5,hm6,hk7,hO,S⟩ hv1
  replace S:=(S.zneed hZ)
  refine vD (C:=Term.C) (l:=[(tmM 2 (bA #[120]) s17)]) (vs:=[.agg (Term.C (tmM 2 (bA #[120]) s17)).toArray]) zz jp.zero (xT hv1 rfl) rfl (fun a _=>Term.len a) zbA rfl zbA fun b36 w35 s37 hBw35 hw35=>?_
  replace S:=((S.lit hBw35 hw35 zbC).bigTm).consTm (x:=(ptM 2 (bA #[120]) [r11])) 0
  replace S:=S.frzTm 0 0
  exact w4 trivial ⟨b32,O34,_,(fun z h=>tl5 z (hZ z h)),Made.one (val:=(fun (c:SlV)=>c.v)) (ps:=(fun (c:SlV)=>[zg c ([(ptM 2 (bA #[120]) [r11])])])) s37 (yf List.mem_cons_self yC),hm3.keep rfl rfl tl5,hm4.keep rfl rfl tl5,hm5.keep rfl rfl tl5,hm6.keep rfl rfl tl5,(kpU hk7),by rw [hO]; simp only [pN L 2 7],S⟩
 ·rintro L g v hL hcl hclo ⟨b32,O34,Z33,hZ,hm2,hm3,hm4,hm5,hm6,hk7,hO,S⟩ hv0 _
  obtain ⟨s23,he2,hp2⟩ := hm2 (hcl 2 zbD)
  replace S:=(S.zneed (xG (l1:=[zg s23 ([(ptM 2 (bA #[120]) [r11])])]) hp2 hZ))
  refine wd (Does.to (v' := .agg (Term.C (tmN 11 r8.2.1 s23)).toArray) (z1 (vs:=[(0,.int .i64 11),(3,.int .i64 r8.2.1),(4,s23.v)]) yP (xT rfl (xT hv0 (xT he2 rfl))) (Bld.one rfl rfl (by rw [Term.len]; decide) (Term.set_kind _ _) (Bld.one rfl rfl (by rw [Term.len]; decide) (Term.set_form _ _) (Bld.one rfl (SlV.one _ _ rfl) (by rw [Term.len]; decide) (Term.set_sub _ _) Bld.nil)))) rfl) ?_
  exact w4 trivial ⟨b32,O34,_,(fun z h=>tl4 z (hZ z h)),hm2.keep rfl rfl tl4,Made.one (val:=(fun (c:SlV)=>Value.agg (Term.C (tmN 11 r8.2.1 c)).toArray)) (ps:=(fun (c:SlV)=>[zg c ([(ptM 2 (bA #[120]) [r11])])])) s23 (yf List.mem_cons_self yC),hm4.keep rfl rfl tl4,hm5.keep rfl rfl tl4,hm6.keep rfl rfl tl4,(kpU hk7),by rw [hO]; simp only [pN L 3 7],S⟩
 ·rintro L g v hL hcl hclo ⟨b32,O34,Z33,hZ,hm2,hm3,hm4,hm5,hm6,hk7,hO,S⟩ 
  replace S:=(S.zneed hZ)
  obtain ⟨_,_,T,bk⟩ := S.sub [] [] (O34)
  refine zu (zt uh) zbA (uk T er24) ?_
  rintro _ w39 ⟨s41,rfl,S2⟩
  replace S:=bk _ _ _ _ _ S2 rfl rfl
  exact w4 trivial ⟨b32,O34,_,(fun z h=>tl4 z (hZ z h)),hm2.keep rfl rfl tl4,hm3.keep rfl rfl tl4,Made.one (val:=(fun (c:SlV)=>Value.agg (tmC r24 c).toArray)) (ps:=(fun (c:SlV)=>[zg c r24.sub])) s41 (yf List.mem_cons_self yC),hm5.keep rfl rfl tl4,hm6.keep rfl rfl tl4,(kpU hk7),by rw [hO]; simp only [pN L 4 7],S⟩
 ·rintro L g v hL hcl hclo ⟨b32,O34,Z33,hZ,hm2,hm3,hm4,hm5,hm6,hk7,hO,S⟩ _ _
  obtain ⟨s23,he3,hp3⟩ := hm3 (hcl 3 zbD)
  obtain ⟨s27,he4,hp4⟩ := hm4 (hcl 4 zbD)
  replace S:=(S.zneed (xG (l1:=[zg s23 ([(ptM 2 (bA #[120]) [r11])])]) hp3 (xG (l1:=[zg s27 r24.sub]) hp4 hZ)))
  refine vD (C:=Term.C) (l:=[(tmN 11 r8.2.1 s23),(tmT r24 s27)]) (vs:=[.agg (Term.C (tmN 11 r8.2.1 s23)).toArray,.agg (tmC r24 s27).toArray]) zz jp.zero (xT he3 (xT he4 rfl)) rfl (fun a _=>Term.len a) zbA rfl zbA fun b43 w42 s44 hBw42 hw42=>?_
  replace S:=((S.lit hBw42 hw42 zbC).bigTm).consTm (x:=r24) 1
  replace S:=(S.consTm (x:=(ptN 11 r8.2.1 [(ptM 2 (bA #[120]) [r11])])) 0).frzTm 0 0
  exact w4 trivial ⟨b32,O34,_,(fun z h=>tl7 z (hZ z h)),hm2.keep rfl rfl tl7,hm3.keep rfl rfl tl7,hm4.keep rfl rfl tl7,Made.one (val:=(fun (c:SlV)=>c.v)) (ps:=(fun (c:SlV)=>[zg c ([(ptN 11 r8.2.1 [(ptM 2 (bA #[120]) [r11])]),r24])])) s44 (yf List.mem_cons_self yC),hm6.keep rfl rfl tl7,(kpU hk7),by rw [hO]; simp only [pN L 5 7],S⟩
 ·rintro L g v hL hcl hclo ⟨b32,O34,Z33,hZ,hm2,hm3,hm4,hm5,hm6,hk7,hO,S⟩ _
  obtain ⟨s30,he5,hp5⟩ := hm5 (hcl 5 zbD)
  replace S:=(S.zneed (xG (l1:=[zg s30 ([(ptN 11 r8.2.1 [(ptM 2 (bA #[120]) [r11])]),r24])]) hp5 hZ))
  refine wd (Does.to (v' := .agg (Term.C (tmN 3 0 s30)).toArray) (z1 (vs:=[(0,.int .i64 3),(4,s30.v)]) yP (xT rfl (xT he5 rfl)) (Bld.one rfl rfl (by rw [Term.len]; decide) (Term.set_kind _ _) (Bld.one rfl (SlV.one _ _ rfl) (by rw [Term.len]; decide) (Term.set_sub _ _) Bld.nil))) rfl) ?_
  exact w4 trivial ⟨b32,O34,_,(fun z h=>tl4 z (hZ z h)),hm2.keep rfl rfl tl4,hm3.keep rfl rfl tl4,hm4.keep rfl rfl tl4,hm5.keep rfl rfl tl4,Made.one (val:=(fun (c:SlV)=>Value.agg (Term.C (tmN 3 0 c)).toArray)) (ps:=(fun (c:SlV)=>[zg c ([(ptN 11 r8.2.1 [(ptM 2 (bA #[120]) [r11])]),r24])])) s30 (yf List.mem_cons_self yC),(kpU hk7),by rw [hO]; simp only [pN L 6 7],S⟩
 ·rintro L g v hL hcl hclo ⟨b32,O34,Z33,hZ,hm2,hm3,hm4,hm5,hm6,hk7,hO,S⟩ 
  have hl7:L 7=false:=hL
  have hOP : ∃ P Y,P=[]∧Y=[oB b19 zo (Term.C (tmM 2 (bA #[120]) s17)),oT a4 r8.1]∧O34=P ++ ([] ++ Y):=⟨_,_,rfl,rfl,by rw [hO]; simp only [hl7,cd2,la2]⟩
  obtain ⟨P,Y,hP,hY,hPY⟩ := hOP
  rw [hPY] at S
  replace S:=S
  refine zQ xC zbA fun b46 w45 hw45=>?_
  replace S:=S.new hw45
  refine w4 trivial ⟨b46,P ++ ([oB b46 zo (Term.C tmZ)] ++ Y),_,hZ,hm2.keep rfl rfl tl0,hm3.keep rfl rfl tl0,hm4.keep rfl rfl tl0,hm5.keep rfl rfl tl0,hm6.keep rfl rfl tl0,(fun _=>upd_same _ _ _),?_,S.ins (P:=[oB b46 zo (Term.C tmZ)])⟩
  rw [hP,hY]; simp only [x9 (L:=L) (i:=7),cd2,la2]
 rintro L g w47 hLm ⟨b32,O34,Z33,hZ,hm2,hm3,hm4,hm5,hm6,hk7,hO,S⟩ hv48_0 hv48_1 _ _ _ _ _ _
 have hLt : ∀ j,j < 8→L j=true:=fun j hj=>by rw [hLm]; exact decide_eq_true hj
 obtain ⟨s23,hv48_3,hp3⟩ := hm3 (hLt 3 zbA)
 obtain ⟨s27,hv48_4,hp4⟩ := hm4 (hLt 4 zbA)
 obtain ⟨s30,hv48_6,hp6⟩ := hm6 (hLt 6 zbA)
 have hv48_7:=hk7 (hLt 7 zbA)
 simp only [hLt 7 zbA,cond_true,List.nil_append,List.cons_append] at hO
 rw [hO] at S
 replace S:=S.pickZ (xG (l1:=[zg s23 ([(ptM 2 (bA #[120]) [r11])])]) hp3 (xG (l1:=[zg s27 r24.sub]) hp4 (xG (l1:=[zg s30 ([(ptN 11 r8.2.1 [(ptM 2 (bA #[120]) [r11])]),r24])]) hp6 hZ)))
 clear hp3 hp4 hp6 hZ hm2 hm3 hm4 hm5 hm6
 refine wsT hv48_7 hv48_6 (S.blk 0) fun w49 B hw49 zw49=>?_
 replace S:=S.store 0 B hw49
 refine zd (zb (za (wd (zw rfl) (wd (zm zR hv48_7 ((S.blk 0).all _ (Term.len _)) (Term.len _)) ?_))))
 replace S:=S.nilZ 1 IC
 obtain ⟨r50,er50,H⟩ := zq H
 replace S:=S.frzO 2
 let LT4:List OA:=[oB b32 zo (Term.C (tmN 3 0 s30)),oB b19 zo (Term.C (tmM 2 (bA #[120]) s17))]
 obtain ⟨_,_,T,bk⟩ := S.sub [0,4,1,7] [] LT4
 refine zu (zF ca_reduce_Do (zK rfl (zK rfl (zK SlV.nil_eq rfl)))) zbA (reduce_Do_st (a1:=(ptN 3 0 [(ptN 11 r8.2.1 [(ptM 2 (bA #[120]) [r11])]),r24])) T er50) ?_
 rintro _ w51 ⟨s53,rfl,S2⟩
 replace S:=bk _ _ _ _ _ S2 rfl rfl
 refine wd (zU rfl) (wd (zn rfl rfl) (wd (zn rfl rfl) ?_))
 refine zQ xC zbA fun b55 w54 hw54=>?_
 replace S:=S.new hw54
 refine wsT rfl rfl (S.blk 0) fun w56 B hw56 zw56=>?_
 replace S:=S.store 0 B hw56
 refine wd (zh rfl) (zd (zb (za (wd (zw rfl) (wd (ldT rfl (S.blk 0)) ?_)))))
 obtain ⟨r57,er57,H⟩ := zq H
 obtain ⟨_,_,T,bk⟩ := S.calln 0 ((.z 1 rfl (.z 0 rfl (.z 8 rfl .nil))))
 refine zu (zt j9) zbA (km (a1:=r50.1) T er57) ?_
 rintro _ w58 ⟨s60,rfl,S2⟩
 replace S:=bk _ _ _ _ S2 rfl
 refine wd (zU rfl) (wd (zn rfl rfl) (wd (zn rfl rfl) (wd (y4 rfl) (wd (zh rfl) (zd (zb (za ?_)))))))
 refine wd (zw rfl) (wd (zm zR hv48_7 ((S.blk 2).all _ (Term.len _)) (Term.len _)) ?_)
 obtain ⟨r61,er61,H⟩ := zq H
 obtain ⟨_,_,T,bk⟩ := S.sub [1,5,8] [] (zL s60 r57.1 :: oB b55 zo (tmC r50.1 s53) :: LT4)
 refine zu (zt ca_reduce_Run) zbA (reduce_Run_st (a1:=(ptN 3 0 [(ptN 11 r8.2.1 [(ptM 2 (bA #[120]) [r11])]),r24])) T er61) ?_
 rintro _ w62 ⟨s64,rfl,S2⟩
 replace S:=bk _ _ _ _ _ S2 rfl rfl
 refine wd (zU rfl) (wd (zn rfl rfl) (wd (zn rfl rfl) (wd (zn rfl rfl) (wd (zn rfl rfl) ?_))))
 refine zQ xC zbA fun b66 w65 hw65=>?_
 replace S:=S.new hw65
 refine wsT rfl rfl (S.blk 0) fun w67 B hw67 zw67=>?_
 replace S:=S.store 0 B hw67
 refine wd (zh rfl) (wd (zj rfl) (wd (zh rfl) (zd (zb (za (wd (zm zR hv48_7 ((S.blk 3).all _ (Term.len _)) (Term.len _)) ?_))))))
 obtain ⟨r68,er68,H⟩ := zq H
 let LT3:List OA:=(oB b66 zo (tmC r61.1 s64) :: zL s60 r57.1 :: oB b55 zo (tmC r50.1 s53) :: LT4)
 obtain ⟨_,_,T,bk⟩ := S.sub [6] [] LT3
 refine zu (zt ca_reduce_Strip) zbA (reduce_Strip_st (a0:=(ptN 3 0 [(ptN 11 r8.2.1 [(ptM 2 (bA #[120]) [r11])]),r24])) T er68) ?_
 rintro _ w69 ⟨s71,rfl,S2⟩
 replace S:=bk _ _ _ _ _ S2 rfl rfl
 refine wd (zU rfl) (wd (zn rfl rfl) (wd (zn rfl rfl) ?_))
 refine zQ xC zbA fun b73 w72 hw72=>?_
 replace S:=S.new hw72
 refine wsT rfl rfl (S.blk 0) fun w74 B hw74 zw74=>?_
 replace S:=S.store 0 B hw74
 refine wd (zh rfl) (zd (zb (za (wd (zw rfl) ?_))))
 obtain ⟨r75,er75,H⟩ := zq H
 obtain ⟨_,_,T,bk⟩ := S.sub [] [] (oB b73 zo (tmC r68.1 s71) :: LT3)
 refine zu (zt uh) zbA (uk T er75) ?_
 rintro _ w76 ⟨s78,rfl,S2⟩
 replace S:=bk _ _ _ _ _ S2 rfl rfl
 obtain ⟨r79,er79,H⟩ := zq H
 obtain ⟨_,_,T,bk⟩ := S.calln 0 ((.z 4 rfl (.z 0 rfl (.z 11 rfl .nil))))
 refine zu (zt ca_reduce_Normal) zbA (reduce_Normal_st (a1:=r75) T er79) ?_
 rintro _ w80 ⟨rfl,S2⟩
 replace S:=bk _ _ _ _ S2 rfl
 refine wd (zU rfl) (wd (zn rfl rfl) (wd (zn rfl rfl) (wd (zj rfl) (wd (zh rfl) (zd (zb (za ?_)))))))
 refine wd (zw rfl) ?_
 obtain ⟨r82,er82,H⟩ := zq H
 obtain ⟨_,_,T,bk⟩ := S.sub [] [] (oB b73 zo (tmC r68.1 s71) :: LT3)
 refine zu (zt uh) zbA (uk T er82) ?_
 rintro _ w83 ⟨s85,rfl,S2⟩
 replace S:=bk _ _ _ _ _ S2 rfl rfl
 replace S:=S.nilZ 1 IC
 obtain ⟨r86,er86,H⟩ := zq H
 obtain ⟨_,_,T,bk⟩ := S.sub [6,1,0,13] [] (oB b73 zo (tmC r68.1 s71) :: LT3)
 refine zu (zF ca_reduce_Do (zK rfl (zK rfl (zK SlV.nil_eq rfl)))) zbA (reduce_Do_st (a1:=r82) T er86) ?_
 rintro _ w87 ⟨s89,rfl,S2⟩
 replace S:=bk _ _ _ _ _ S2 rfl rfl
 refine wd (zU rfl) (wd (zn rfl rfl) (wd (zn rfl rfl) ?_))
 refine zQ xC zbA fun b91 w90 hw90=>?_
 replace S:=S.new hw90
 refine wsT rfl rfl (S.blk 0) fun w92 B hw92 zw92=>?_
 replace S:=S.store 0 B hw92
 refine wd (zh rfl) (zd (zb (za (wd (zi rfl) (wd (zi rfl) ?_)))))
 obtain ⟨r93,er93,H⟩ := zq H
 obtain ⟨_,_,T,bk⟩ := S.sub [] [] (oB b91 zo (tmC r86.1 s89) :: oB b73 zo (tmC r68.1 s71) :: LT3)
 refine zu (zt uh) zbA (uk T er93) ?_
 rintro _ w94 ⟨s96,rfl,S2⟩
 replace S:=bk _ _ _ _ _ S2 rfl rfl
 refine vD (C:=Term.C) (l:=[(tmT r93 s96)]) (vs:=[.agg (tmC r93 s96).toArray]) zz jp.zero rfl rfl (fun a _=>Term.len a) zbA rfl zbA fun b98 w97 s99 hBw97 hw97=>?_
 replace S:=((S.lit hBw97 hw97 zbC).bigTm).consTm (x:=r93) 0
 replace S:=(S.frzTm 0 0).zs ([0] ++ rg 2 16)
 refine wd (Does.to (v' := .agg (Term.C (tmN 11 r5.2.1 s99)).toArray) (z1 (vs:=[(0,.int .i64 11),(3,.int .i64 r5.2.1),(4,s99.v)]) yP (xT rfl (xT rfl (xT rfl rfl))) (Bld.one rfl rfl (by rw [Term.len]; decide) (Term.set_kind _ _) (Bld.one rfl rfl (by rw [Term.len]; decide) (Term.set_form _ _) (Bld.one rfl (SlV.one _ _ rfl) (by rw [Term.len]; decide) (Term.set_sub _ _) Bld.nil)))) rfl) ?_
 refine vD (C:=Term.C) (l:=[(tmN 11 r5.2.1 s99)]) (vs:=[.agg (Term.C (tmN 11 r5.2.1 s99)).toArray]) zz jp.zero rfl rfl (fun a _=>Term.len a) zbA rfl zbA fun b101 w100 s102 hBw100 hw100=>?_
 replace S:=((S.lit hBw100 hw100 zbC).bigTm).consTm (x:=(ptN 11 r5.2.1 [r93])) 0
 replace S:=(S.frzTm 0 0).zs ([0] ++ rg 2 17)
 refine wd (Does.to (v' := .agg (Term.C (tmN 11 r5.2.1 s102)).toArray) (z1 (vs:=[(0,.int .i64 11),(3,.int .i64 r5.2.1),(4,s102.v)]) yP (xT rfl (xT rfl (xT rfl rfl))) (Bld.one rfl rfl (by rw [Term.len]; decide) (Term.set_kind _ _) (Bld.one rfl rfl (by rw [Term.len]; decide) (Term.set_form _ _) (Bld.one rfl (SlV.one _ _ rfl) (by rw [Term.len]; decide) (Term.set_sub _ _) Bld.nil)))) rfl) ?_
 refine zQ xC zbA fun b104 w103 hw103=>?_
 replace S:=S.new hw103
 refine wsT rfl rfl (S.blk 0) fun w105 B hw105 zw105=>?_
 replace S:=S.store 0 B hw105
 refine zd (zb ?_)
 obtain ⟨r130,er130,H⟩ := zq H
 obtain ⟨hg133,H⟩ := xb H
 obtain ⟨r134,er134,H⟩ := zq H
 obtain ⟨hg137,H⟩ := xb H
 obtain ⟨r138,er138,H⟩ := zq H
 obtain ⟨hg141,H⟩ := xb H
 obtain ⟨r148,er148,H⟩ := zq H
 obtain ⟨hg151,H⟩ := xb H
 obtain ⟨r152,er152,H⟩ := zq H
 obtain ⟨hg155,H⟩ := xb H
 obtain ⟨hg156,H⟩ := xb H
 obtain ⟨hg157,H⟩ := xb H
 obtain ⟨r158,er158,H⟩ := zq H
 obtain ⟨r162,er162,H⟩ := zq H
 obtain ⟨hg165,H⟩ := xb H
 obtain ⟨r166,er166,H⟩ := zq H
 obtain ⟨hg169,H⟩ := xb H
 let LT1:List OA:=[zg s102 ([(ptN 11 r5.2.1 [r93])]),zg s99 ([r93]),zg s96 r93.sub,zg s89 r86.1.sub,fS 1 IC SlV.nil ([]),zg s85 r82.sub,zg s78 r75.sub,zg s71 r68.1.sub,zg s64 r61.1.sub,zg s53 r50.1.sub,oT a4 r8.1,fS 1 IC SlV.nil ([]),zg s23 ([(ptM 2 (bA #[120]) [r11])]),zg s27 r24.sub,zg s30 ([(ptN 11 r8.2.1 [(ptM 2 (bA #[120]) [r11])]),r24]),zg s17 ([r11]),zg s14 r11.sub,oPw]
 let LT2:List OA:=(oB b104 zo (Term.C (tmN 11 r5.2.1 s102)) :: oB b91 zo (tmC r86.1 s89) :: oB b73 zo (tmC r68.1 s71) :: LT3)
 refine vh 47 ⟨fun _ _=>True,fun _ _ _=>True,fun i v _=>match i with
  | 0=>v=Value.int .i64 r50.2
  | 1=>v=Value.int .i64 r130
  | 2=>v=Value.bool (decide (r130=0))
  | 3=>v=Value.bool (decide (r130=0))
  | 4=>v=Value.agg (tmC r50.1 s53).toArray
  | 5=>v=Value.agg (Term.C (tmN 11 r5.2.1 s102)).toArray
  | 6=>v=Value.bool r134
  | 7=>v=Value.bool ((decide (r130=0)) && r134)
  | 8=>v=Value.bool ((decide (r130=0)) && r134)
  | 9=>v=Value.int .i64 r57.2
  | 10=>v=Value.int .i64 r138
  | 11=>v=Value.bool (decide (r138=0))
  | 12=>v=Value.bool (((decide (r130=0)) && r134) && (decide (r138=0)))
  | 13=>v=Value.bool (((decide (r130=0)) && r134) && (decide (r138=0)))
  | 14=>v=s60.v
  | 17=>v=Value.bool r148
  | 18=>v=Value.bool ((((decide (r130=0)) && r134) && (decide (r138=0))) && r148)
  | 19=>v=Value.bool ((((decide (r130=0)) && r134) && (decide (r138=0))) && r148)
  | 20=>v=Value.int .i64 r61.2.2.2
  | 21=>v=Value.int .i64 r152
  | 22=>v=Value.bool (decide (r152=0))
  | 23=>v=Value.bool (((((decide (r130=0)) && r134) && (decide (r138=0))) && r148) && (decide (r152=0)))
  | 24=>v=Value.bool (((((decide (r130=0)) && r134) && (decide (r138=0))) && r148) && (decide (r152=0)))
  | 25=>v=Value.int .i64 r61.2.1
  | 26=>v=Value.bool (decide (r61.2.1=3))
  | 27=>v=Value.bool ((((((decide (r130=0)) && r134) && (decide (r138=0))) && r148) && (decide (r152=0))) && (decide (r61.2.1=3)))
  | 28=>v=Value.bool ((((((decide (r130=0)) && r134) && (decide (r138=0))) && r148) && (decide (r152=0))) && (decide (r61.2.1=3)))
  | 29=>v=Value.bool r61.2.2.1
  | 30=>v=Value.bool (((((((decide (r130=0)) && r134) && (decide (r138=0))) && r148) && (decide (r152=0))) && (decide (r61.2.1=3))) && r61.2.2.1)
  | 31=>v=Value.bool (((((((decide (r130=0)) && r134) && (decide (r138=0))) && r148) && (decide (r152=0))) && (decide (r61.2.1=3))) && r61.2.2.1)
  | 32=>v=Value.agg (tmC r61.1 s64).toArray
  | 34=>v=Value.bool r162
  | 35=>v=Value.bool ((((((((decide (r130=0)) && r134) && (decide (r138=0))) && r148) && (decide (r152=0))) && (decide (r61.2.1=3))) && r61.2.2.1) && r162)
  | 36=>v=Value.bool ((((((((decide (r130=0)) && r134) && (decide (r138=0))) && r148) && (decide (r152=0))) && (decide (r61.2.1=3))) && r61.2.2.1) && r162)
  | 37=>v=Value.int .i64 r68.2
  | 38=>v=Value.int .i64 r166
  | 39=>v=Value.bool (decide (r166=0))
  | 40=>v=Value.bool (((((((((decide (r130=0)) && r134) && (decide (r138=0))) && r148) && (decide (r152=0))) && (decide (r61.2.1=3))) && r61.2.2.1) && r162) && (decide (r166=0)))
  | 41=>v=Value.bool (((((((((decide (r130=0)) && r134) && (decide (r138=0))) && r148) && (decide (r152=0))) && (decide (r61.2.1=3))) && r61.2.2.1) && r162) && (decide (r166=0)))
  | 42=>v=Value.agg (tmC r68.1 s71).toArray
  | 43=>v=Value.agg (Term.C (tmM 2 (bA #[120]) s17)).toArray
  | _=>True⟩ (fun L g v=>bif L 45 then (∃ (s144:SlV) (s147:SlV) (s161:SlV) (s173:SlV) (s176:SlV),(L 15=true→g 105=s144.v)∧(L 16=true→g 106=s147.v)∧(L 33=true→g 123=Value.agg (tmC r158 s161).toArray)∧(L 44=true→g 134=Value.agg (tmC r158 s173).toArray)∧(L 45=true→g 135=s176.v)∧(L 46=true→g 136=Value.agg (Term.C (tmN 3 0 s176)).toArray)∧St A N w v (zL s147 ([([]:List Int),[0]]) :: LT2) (zg s176 ([(ptM 2 (bA #[120]) [r11]),r158]) :: zg s173 r158.sub :: zg s161 r158.sub :: LT1)) else bif L 44 then (∃ (s144:SlV) (s147:SlV) (s161:SlV) (s173:SlV),(L 15=true→g 105=s144.v)∧(L 16=true→g 106=s147.v)∧(L 33=true→g 123=Value.agg (tmC r158 s161).toArray)∧(L 44=true→g 134=Value.agg (tmC r158 s173).toArray)∧St A N w v (zL s147 ([([]:List Int),[0]]) :: LT2) (zg s173 r158.sub :: zg s161 r158.sub :: LT1)) else bif L 33 then (∃ (s144:SlV) (s147:SlV) (s161:SlV),(L 15=true→g 105=s144.v)∧(L 16=true→g 106=s147.v)∧(L 33=true→g 123=Value.agg (tmC r158 s161).toArray)∧St A N w v (zL s147 ([([]:List Int),[0]]) :: LT2) (zg s161 r158.sub :: LT1)) else bif L 17 then (∃ (s144:SlV) (s147:SlV),(L 15=true→g 105=s144.v)∧(L 16=true→g 106=s147.v)∧St A N w v (zL s147 ([([]:List Int),[0]]) :: LT2) LT1) else bif L 16 then (∃ (s144:SlV) (s147:SlV),(L 15=true→g 105=s144.v)∧(L 16=true→g 106=s147.v)∧St A N w v (oS xH 1 LC s147 ([SlV.nil,s144]) :: oS xh 1 IC s144 ([0]) :: LT2) LT1) else bif L 15 then (∃ (s144:SlV),(L 15=true→g 105=s144.v)∧St A N w v (oS xh 1 IC s144 ([0]) :: LT2) LT1) else (St A N w v LT2 LT1)) hmix zbD (fun _ _ _ _ _ _ _ hv=>hv) (fun g=>S.ext (Ext.drawn _)) ⟨?_,?_,?_,?_,?_,?_,?_,?_,?_,?_,?_,?_,?_,?_,?_,?_,?_,?_,?_,?_,?_,?_,?_,?_,?_,?_,?_,?_,?_,?_,?_,?_,?_,?_,?_,?_,?_,?_,?_,?_,?_,?_,?_,?_,?_,?_,?_,trivial⟩ ?_
 ·rintro L g v hL hcl hclo hT 
  have hl15:=clF hL (hclo 15 0 · zbD)
  have hl16:=clF hL (hclo 16 0 · zbD)
  have hl17:=clF hL (hclo 17 0 · zbD)
  have hl33:=clF hL (hclo 33 0 · zbD)
  have hl44:=clF hL (hclo 44 0 · zbD)
  have hl45:=clF hL (hclo 45 0 · zbD)
  simp only [hl15,hl16,hl17,hl33,hl44,hl45,cd2] at hT
  replace S:=hT
  refine wd (zi rfl) ?_
  exact w4 rfl (by simp only [pN L 0 15,pN L 0 16,pN L 0 17,pN L 0 33,pN L 0 44,pN L 0 45,hl15,hl16,hl17,hl33,hl44,hl45,cd2]; exact S)
 ·rintro L g v hL hcl hclo hT hv0
  have hl15:=clF hL (hclo 15 1 · zbD)
  have hl16:=clF hL (hclo 16 1 · zbD)
  have hl17:=clF hL (hclo 17 1 · zbD)
  have hl33:=clF hL (hclo 33 1 · zbD)
  have hl44:=clF hL (hclo 44 1 · zbD)
  have hl45:=clF hL (hclo 45 1 · zbD)
  simp only [hl15,hl16,hl17,hl33,hl44,hl45,cd2] at hT
  replace S:=hT
  obtain ⟨_,_,T,bk⟩ := S.calln 0 ((.nil))
  refine zu (zF yb (zK hv0 rfl)) zbA (yd T er130) ?_
  rintro _ w178 ⟨rfl,S2⟩
  replace S:=bk _ _ _ _ S2 rfl
  exact w4 rfl (by simp only [pN L 1 15,pN L 1 16,pN L 1 17,pN L 1 33,pN L 1 44,pN L 1 45,hl15,hl16,hl17,hl33,hl44,hl45,cd2]; exact S)
 ·rintro L g v hL hcl hclo hT hv1
  have hl15:=clF hL (hclo 15 2 · zbD)
  have hl16:=clF hL (hclo 16 2 · zbD)
  have hl17:=clF hL (hclo 17 2 · zbD)
  have hl33:=clF hL (hclo 33 2 · zbD)
  have hl44:=clF hL (hclo 44 2 · zbD)
  have hl45:=clF hL (hclo 45 2 · zbD)
  simp only [hl15,hl16,hl17,hl33,hl44,hl45,cd2] at hT
  replace S:=hT
  refine wd (zV hv1 rfl) ?_
  exact w4 rfl (by simp only [pN L 2 15,pN L 2 16,pN L 2 17,pN L 2 33,pN L 2 44,pN L 2 45,hl15,hl16,hl17,hl33,hl44,hl45,cd2]; exact S)
 ·rintro L g v hL hcl hclo hT hv2
  have hl15:=clF hL (hclo 15 3 · zbD)
  have hl16:=clF hL (hclo 16 3 · zbD)
  have hl17:=clF hL (hclo 17 3 · zbD)
  have hl33:=clF hL (hclo 33 3 · zbD)
  have hl44:=clF hL (hclo 44 3 · zbD)
  have hl45:=clF hL (hclo 45 3 · zbD)
  simp only [hl15,hl16,hl17,hl33,hl44,hl45,cd2] at hT
  replace S:=hT
  refine wd (zA hv2) ?_
  exact w4 rfl (by simp only [pN L 3 15,pN L 3 16,pN L 3 17,pN L 3 33,pN L 3 44,pN L 3 45,hl15,hl16,hl17,hl33,hl44,hl45,cd2]; exact S)
 ·rintro L g v hL hcl hclo hT hv3
  refine yO (j:=3) (pol:=true) rfl rfl hv3 zbA (by simpa using hg133) ?_
  have hl15:=clF hL (hclo 15 4 · zbD)
  have hl16:=clF hL (hclo 16 4 · zbD)
  have hl17:=clF hL (hclo 17 4 · zbD)
  have hl33:=clF hL (hclo 33 4 · zbD)
  have hl44:=clF hL (hclo 44 4 · zbD)
  have hl45:=clF hL (hclo 45 4 · zbD)
  simp only [hl15,hl16,hl17,hl33,hl44,hl45,cd2] at hT
  replace S:=hT
  refine wd (ldT rfl (S.blk 5)) ?_
  exact w4 rfl (by simp only [pN L 4 15,pN L 4 16,pN L 4 17,pN L 4 33,pN L 4 44,pN L 4 45,hl15,hl16,hl17,hl33,hl44,hl45,cd2]; exact S)
 ·rintro L g v hL hcl hclo hT hv3
  refine yO (j:=3) (pol:=true) rfl rfl hv3 zbA (by simpa using hg133) ?_
  have hl15:=clF hL (hclo 15 5 · zbD)
  have hl16:=clF hL (hclo 16 5 · zbD)
  have hl17:=clF hL (hclo 17 5 · zbD)
  have hl33:=clF hL (hclo 33 5 · zbD)
  have hl44:=clF hL (hclo 44 5 · zbD)
  have hl45:=clF hL (hclo 45 5 · zbD)
  simp only [hl15,hl16,hl17,hl33,hl44,hl45,cd2] at hT
  replace S:=hT
  refine wd (ldT rfl (S.blk 0)) ?_
  exact w4 rfl (by simp only [pN L 5 15,pN L 5 16,pN L 5 17,pN L 5 33,pN L 5 44,pN L 5 45,hl15,hl16,hl17,hl33,hl44,hl45,cd2]; exact S)
 ·rintro L g v hL hcl hclo hT hv4 hv5 hv3
  refine yO (j:=3) (pol:=true) rfl rfl hv3 zbA (by simpa using hg133) ?_
  have hl15:=clF hL (hclo 15 6 · zbD)
  have hl16:=clF hL (hclo 16 6 · zbD)
  have hl17:=clF hL (hclo 17 6 · zbD)
  have hl33:=clF hL (hclo 33 6 · zbD)
  have hl44:=clF hL (hclo 44 6 · zbD)
  have hl45:=clF hL (hclo 45 6 · zbD)
  simp only [hl15,hl16,hl17,hl33,hl44,hl45,cd2] at hT
  replace S:=hT
  obtain ⟨_,_,T,bk⟩ := S.calln 0 ((.z 9 rfl (.z 0 rfl .nil)))
  refine zu (zF kR (zK hv4 (zK hv5 rfl))) zbA (zbk (a0:=r50.1) (a1:=(ptN 11 r5.2.1 [(ptN 11 r5.2.1 [r93])])) T er134) ?_
  rintro _ w181 ⟨rfl,S2⟩
  replace S:=bk _ _ _ _ S2 rfl
  exact w4 rfl (by simp only [pN L 6 15,pN L 6 16,pN L 6 17,pN L 6 33,pN L 6 44,pN L 6 45,hl15,hl16,hl17,hl33,hl44,hl45,cd2]; exact S)
 ·rintro L g v hL hcl hclo hT hv3 hv6
  have hl15:=clF hL (hclo 15 7 · zbD)
  have hl16:=clF hL (hclo 16 7 · zbD)
  have hl17:=clF hL (hclo 17 7 · zbD)
  have hl33:=clF hL (hclo 33 7 · zbD)
  have hl44:=clF hL (hclo 44 7 · zbD)
  have hl45:=clF hL (hclo 45 7 · zbD)
  simp only [hl15,hl16,hl17,hl33,hl44,hl45,cd2] at hT
  replace S:=hT
  refine wd (zZ hv3 (fun hp=>hv6)) ?_
  exact w4 rfl (by simp only [pN L 7 15,pN L 7 16,pN L 7 17,pN L 7 33,pN L 7 44,pN L 7 45,hl15,hl16,hl17,hl33,hl44,hl45,cd2]; exact S)
 ·rintro L g v hL hcl hclo hT hv7
  have hl15:=clF hL (hclo 15 8 · zbD)
  have hl16:=clF hL (hclo 16 8 · zbD)
  have hl17:=clF hL (hclo 17 8 · zbD)
  have hl33:=clF hL (hclo 33 8 · zbD)
  have hl44:=clF hL (hclo 44 8 · zbD)
  have hl45:=clF hL (hclo 45 8 · zbD)
  simp only [hl15,hl16,hl17,hl33,hl44,hl45,cd2] at hT
  replace S:=hT
  refine wd (zA hv7) ?_
  exact w4 rfl (by simp only [pN L 8 15,pN L 8 16,pN L 8 17,pN L 8 33,pN L 8 44,pN L 8 45,hl15,hl16,hl17,hl33,hl44,hl45,cd2]; exact S)
 ·rintro L g v hL hcl hclo hT hv8
  refine yO (j:=8) (pol:=true) rfl rfl hv8 zbA (by simpa using hg137) ?_
  have hl15:=clF hL (hclo 15 9 · zbD)
  have hl16:=clF hL (hclo 16 9 · zbD)
  have hl17:=clF hL (hclo 17 9 · zbD)
  have hl33:=clF hL (hclo 33 9 · zbD)
  have hl44:=clF hL (hclo 44 9 · zbD)
  have hl45:=clF hL (hclo 45 9 · zbD)
  simp only [hl15,hl16,hl17,hl33,hl44,hl45,cd2] at hT
  replace S:=hT
  refine wd (zi rfl) ?_
  exact w4 rfl (by simp only [pN L 9 15,pN L 9 16,pN L 9 17,pN L 9 33,pN L 9 44,pN L 9 45,hl15,hl16,hl17,hl33,hl44,hl45,cd2]; exact S)
 ·rintro L g v hL hcl hclo hT hv9 hv8
  refine yO (j:=8) (pol:=true) rfl rfl hv8 zbA (by simpa using hg137) ?_
  have hl15:=clF hL (hclo 15 10 · zbD)
  have hl16:=clF hL (hclo 16 10 · zbD)
  have hl17:=clF hL (hclo 17 10 · zbD)
  have hl33:=clF hL (hclo 33 10 · zbD)
  have hl44:=clF hL (hclo 44 10 · zbD)
  have hl45:=clF hL (hclo 45 10 · zbD)
  simp only [hl15,hl16,hl17,hl33,hl44,hl45,cd2] at hT
  replace S:=hT
  obtain ⟨_,_,T,bk⟩ := S.calln 0 ((.nil))
  refine zu (zF yb (zK hv9 rfl)) zbA (yd T er138) ?_
  rintro _ w184 ⟨rfl,S2⟩
  replace S:=bk _ _ _ _ S2 rfl
  exact w4 rfl (by simp only [pN L 10 15,pN L 10 16,pN L 10 17,pN L 10 33,pN L 10 44,pN L 10 45,hl15,hl16,hl17,hl33,hl44,hl45,cd2]; exact S)
 ·rintro L g v hL hcl hclo hT hv10 hv8
  refine yO (j:=8) (pol:=true) rfl rfl hv8 zbA (by simpa using hg137) ?_
  have hl15:=clF hL (hclo 15 11 · zbD)
  have hl16:=clF hL (hclo 16 11 · zbD)
  have hl17:=clF hL (hclo 17 11 · zbD)
  have hl33:=clF hL (hclo 33 11 · zbD)
  have hl44:=clF hL (hclo 44 11 · zbD)
  have hl45:=clF hL (hclo 45 11 · zbD)
  simp only [hl15,hl16,hl17,hl33,hl44,hl45,cd2] at hT
  replace S:=hT
  refine wd (zV hv10 rfl) ?_
  exact w4 rfl (by simp only [pN L 11 15,pN L 11 16,pN L 11 17,pN L 11 33,pN L 11 44,pN L 11 45,hl15,hl16,hl17,hl33,hl44,hl45,cd2]; exact S)
 ·rintro L g v hL hcl hclo hT hv8 hv11
  have hl15:=clF hL (hclo 15 12 · zbD)
  have hl16:=clF hL (hclo 16 12 · zbD)
  have hl17:=clF hL (hclo 17 12 · zbD)
  have hl33:=clF hL (hclo 33 12 · zbD)
  have hl44:=clF hL (hclo 44 12 · zbD)
  have hl45:=clF hL (hclo 45 12 · zbD)
  simp only [hl15,hl16,hl17,hl33,hl44,hl45,cd2] at hT
  replace S:=hT
  refine wd (zZ hv8 (fun hp=>hv11)) ?_
  exact w4 rfl (by simp only [pN L 12 15,pN L 12 16,pN L 12 17,pN L 12 33,pN L 12 44,pN L 12 45,hl15,hl16,hl17,hl33,hl44,hl45,cd2]; exact S)
 ·rintro L g v hL hcl hclo hT hv12
  have hl15:=clF hL (hclo 15 13 · zbD)
  have hl16:=clF hL (hclo 16 13 · zbD)
  have hl17:=clF hL (hclo 17 13 · zbD)
  have hl33:=clF hL (hclo 33 13 · zbD)
  have hl44:=clF hL (hclo 44 13 · zbD)
  have hl45:=clF hL (hclo 45 13 · zbD)
  simp only [hl15,hl16,hl17,hl33,hl44,hl45,cd2] at hT
  replace S:=hT
  refine wd (zA hv12) ?_
  exact w4 rfl (by simp only [pN L 13 15,pN L 13 16,pN L 13 17,pN L 13 33,pN L 13 44,pN L 13 45,hl15,hl16,hl17,hl33,hl44,hl45,cd2]; exact S)
 ·rintro L g v hL hcl hclo hT hv13
  refine yO (j:=13) (pol:=true) rfl rfl hv13 zbA (by simpa using hg141) ?_
  have hl17:=clF hL (hclo 17 14 · zbD)
  have hl33:=clF hL (hclo 33 14 · zbD)
  have hl44:=clF hL (hclo 44 14 · zbD)
  have hl45:=clF hL (hclo 45 14 · zbD)
  cases hl16:L 16 with
  | true =>
   replace hT : ∃ (s144:SlV) (s147:SlV),(L 15=true→g 105=s144.v)∧(L 16=true→g 106=s147.v)∧St A N w v (oS xH 1 LC s147 ([SlV.nil,s144]) :: oS xh 1 IC s144 ([0]) :: LT2) LT1:=by simp only [hl16,hl17,hl33,hl44,hl45,cd2] at hT ⊢; exact hT
   obtain ⟨s144,s147,he15,he16,S⟩ := hT
   refine wd (zP rfl) ?_
   have hT2 : ∃ (s144':SlV) (s147':SlV),((plus L 14) 15=true→(upd g 104 (s60.v)) 105=s144'.v)∧((plus L 14) 16=true→(upd g 104 (s60.v)) 106=s147'.v)∧St A N w v (oS xH 1 LC s147' ([SlV.nil,s144']) :: oS xh 1 IC s144' ([0]) :: LT2) LT1:=⟨s144,s147,kpU he15,kpU he16,S⟩
   exact w4 rfl (by simp only [pN L 14 15,pN L 14 16,pN L 14 17,pN L 14 33,pN L 14 44,pN L 14 45,hl16,hl17,hl33,hl44,hl45,cd2] at hT2 ⊢; exact hT2)
  | false =>
   cases hl15:L 15 with
   | true =>
    replace hT : ∃ (s144:SlV),(L 15=true→g 105=s144.v)∧St A N w v (oS xh 1 IC s144 ([0]) :: LT2) LT1:=by simp only [hl15,hl16,hl17,hl33,hl44,hl45,cd2] at hT ⊢; exact hT
    obtain ⟨s144,he15,S⟩ := hT
    refine wd (zP rfl) ?_
    have hT2 : ∃ (s144':SlV),((plus L 14) 15=true→(upd g 104 (s60.v)) 105=s144'.v)∧St A N w v (oS xh 1 IC s144' ([0]) :: LT2) LT1:=⟨s144,kpU he15,S⟩
    exact w4 rfl (by simp only [pN L 14 15,pN L 14 16,pN L 14 17,pN L 14 33,pN L 14 44,pN L 14 45,hl15,hl16,hl17,hl33,hl44,hl45,cd2] at hT2 ⊢; exact hT2)
   | false =>
    simp only [hl15,hl16,hl17,hl33,hl44,hl45,cd2] at hT
    replace S:=hT
    refine wd (zP rfl) ?_
    exact w4 rfl (by simp only [pN L 14 15,pN L 14 16,pN L 14 17,pN L 14 33,pN L 14 44,pN L 14 45,hl15,hl16,hl17,hl33,hl44,hl45,cd2]; exact S)
 ·rintro L g v hL hcl hclo hT hv13
  refine yO (j:=13) (pol:=true) rfl rfl hv13 zbA (by simpa using hg141) ?_
  have hl15:L 15=false:=hL
  have hl16:=clF hL (hclo 16 15 · zbD)
  have hl17:=clF hL (hclo 17 15 · zbD)
  have hl33:=clF hL (hclo 33 15 · zbD)
  have hl44:=clF hL (hclo 44 15 · zbD)
  have hl45:=clF hL (hclo 45 15 · zbD)
  simp only [hl15,hl16,hl17,hl33,hl44,hl45,cd2] at hT
  replace S:=hT
  refine vD (C:=IC) (l:=[0]) (vs:=[.int .i64 0]) xI zao.zero rfl rfl (fun _ _=>rfl) zbA rfl zbA fun b187 w186 s144 hBw186 hw186=>?_
  replace S:=S.lit hBw186 hw186 zbC
  have hT2 : ∃ (s144':SlV),((plus L 15) 15=true→(upd g 105 (s144.v)) 105=s144'.v)∧St A N w w186 (oS xh 1 IC s144' ([0]) :: LT2) LT1:=⟨s144,fun _=>upd_same _ _ _,S⟩
  exact w4 trivial (by simp only [pN L 15 16,pN L 15 17,pN L 15 33,pN L 15 44,pN L 15 45,x9 (L:=L) (i:=15),hl16,hl17,hl33,hl44,hl45,cd2] at hT2 ⊢; exact hT2)
 ·rintro L g v hL hcl hclo hT hv15 hv13
  refine yO (j:=13) (pol:=true) rfl rfl hv13 zbA (by simpa using hg141) ?_
  have hl15:L 15=true:=hcl 15 zbD
  have hl16:L 16=false:=hL
  have hl17:=clF hL (hclo 17 16 · zbD)
  have hl33:=clF hL (hclo 33 16 · zbD)
  have hl44:=clF hL (hclo 44 16 · zbD)
  have hl45:=clF hL (hclo 45 16 · zbD)
  replace hT : ∃ (s144:SlV),(L 15=true→g 105=s144.v)∧St A N w v (oS xh 1 IC s144 ([0]) :: LT2) LT1:=by simp only [hl15,hl16,hl17,hl33,hl44,hl45,cd2] at hT ⊢; exact hT
  obtain ⟨s144,he15,S⟩ := hT
  refine vD (C:=LC) (l:=[SlV.nil,s144]) (vs:=[SlV.nil.v,s144.v]) y7 el_L_int.zero (xT SlV.nil_eq (xT (he15 (hcl 15 zbD)) rfl)) (by simp only [List.map_cons,List.map_nil,SlV.cells,LC]) (fun _ _=>rfl) zbA rfl zbA fun b190 w189 s147 hBw189 hw189=>?_
  replace S:=S.lit hBw189 hw189 zbC
  have hT2 : ∃ (s144':SlV) (s147':SlV),((plus L 16) 15=true→(upd g 106 (s147.v)) 105=s144'.v)∧((plus L 16) 16=true→(upd g 106 (s147.v)) 106=s147'.v)∧St A N w w189 (oS xH 1 LC s147' ([SlV.nil,s144']) :: oS xh 1 IC s144' ([0]) :: LT2) LT1:=⟨s144,s147,kpU he15,fun _=>upd_same _ _ _,S⟩
  exact w4 trivial (by simp only [pN L 16 15,pN L 16 17,pN L 16 33,pN L 16 44,pN L 16 45,x9 (L:=L) (i:=16),hl17,hl33,hl44,hl45,cd2] at hT2 ⊢; exact hT2)
 ·rintro L g v hL hcl hclo hT hv14 hv16 hv13
  refine yO (j:=13) (pol:=true) rfl rfl hv13 zbA (by simpa using hg141) ?_
  have hl16:L 16=true:=hcl 16 zbD
  have hl17:L 17=false:=hL
  have hl33:=clF hL (hclo 33 17 · zbD)
  have hl44:=clF hL (hclo 44 17 · zbD)
  have hl45:=clF hL (hclo 45 17 · zbD)
  replace hT : ∃ (s144:SlV) (s147:SlV),(L 15=true→g 105=s144.v)∧(L 16=true→g 106=s147.v)∧St A N w v (oS xH 1 LC s147 ([SlV.nil,s144]) :: oS xh 1 IC s144 ([0]) :: LT2) LT1:=by simp only [hl16,hl17,hl33,hl44,hl45,cd2] at hT ⊢; exact hT
  obtain ⟨s144,s147,he15,he16,S⟩ := hT
  replace S:=((S.nil xh 1 IC).putp trivial).front 3
  replace S:=((S.star.front 1).star).front 1
  replace S:St A N w v (zL s147 ([([]:List Int),[0]]) :: LT2) LT1:=St.shutD (ms:=[SlV.nil,s144]) S
  obtain ⟨_,_,T,bk⟩ := S.calln 0 ((.o 5 rfl (.o 0 rfl .nil)))
  refine zu (zF ca_ref14_Ways (zK hv14 (zK (he16 (hcl 16 zbD)) rfl))) zbA (ref14_Ways_st T er148) ?_
  rintro _ w193 ⟨rfl,S2⟩
  replace S:=bk _ _ _ _ S2 rfl
  have hT2 : ∃ (s144':SlV) (s147':SlV),((plus L 17) 15=true→(upd g 107 (Value.bool r148)) 105=s144'.v)∧((plus L 17) 16=true→(upd g 107 (Value.bool r148)) 106=s147'.v)∧St A N w w193 (zL s147' ([([]:List Int),[0]]) :: LT2) LT1:=⟨s144,s147,kpU he15,kpU he16,S⟩
  exact w4 rfl (by simp only [pN L 17 15,pN L 17 16,pN L 17 33,pN L 17 44,pN L 17 45,x9 (L:=L) (i:=17),hl33,hl44,hl45,cd2] at hT2 ⊢; exact hT2)
 ·rintro L g v hL hcl hclo hT hv13 hv17
  have hl17:L 17=true:=hcl 17 zbD
  have hl33:=clF hL (hclo 33 18 · zbD)
  have hl44:=clF hL (hclo 44 18 · zbD)
  have hl45:=clF hL (hclo 45 18 · zbD)
  replace hT : ∃ (s144:SlV) (s147:SlV),(L 15=true→g 105=s144.v)∧(L 16=true→g 106=s147.v)∧St A N w v (zL s147 ([([]:List Int),[0]]) :: LT2) LT1:=by simp only [hl17,hl33,hl44,hl45,cd2] at hT ⊢; exact hT
  obtain ⟨s144,s147,he15,he16,S⟩ := hT
  refine wd (zZ hv13 (fun hp=>hv17)) ?_
  have hT2 : ∃ (s144':SlV) (s147':SlV),((plus L 18) 15=true→(upd g 108 (Value.bool ((((decide (r130=0)) && r134) && (decide (r138=0))) && r148))) 105=s144'.v)∧((plus L 18) 16=true→(upd g 108 (Value.bool ((((decide (r130=0)) && r134) && (decide (r138=0))) && r148))) 106=s147'.v)∧St A N w v (zL s147' ([([]:List Int),[0]]) :: LT2) LT1:=⟨s144,s147,kpU he15,kpU he16,S⟩
  exact w4 rfl (by simp only [pN L 18 15,pN L 18 16,pN L 18 17,pN L 18 33,pN L 18 44,pN L 18 45,hl17,hl33,hl44,hl45,cd2] at hT2 ⊢; exact hT2)
 ·rintro L g v hL hcl hclo hT hv18
  have hl17:L 17=true:=hcl 17 zbD
  have hl33:=clF hL (hclo 33 19 · zbD)
  have hl44:=clF hL (hclo 44 19 · zbD)
  have hl45:=clF hL (hclo 45 19 · zbD)
  replace hT : ∃ (s144:SlV) (s147:SlV),(L 15=true→g 105=s144.v)∧(L 16=true→g 106=s147.v)∧St A N w v (zL s147 ([([]:List Int),[0]]) :: LT2) LT1:=by simp only [hl17,hl33,hl44,hl45,cd2] at hT ⊢; exact hT
  obtain ⟨s144,s147,he15,he16,S⟩ := hT
  refine wd (zA hv18) ?_
  have hT2 : ∃ (s144':SlV) (s147':SlV),((plus L 19) 15=true→(upd g 109 (Value.bool ((((decide (r130=0)) && r134) && (decide (r138=0))) && r148))) 105=s144'.v)∧((plus L 19) 16=true→(upd g 109 (Value.bool ((((decide (r130=0)) && r134) && (decide (r138=0))) && r148))) 106=s147'.v)∧St A N w v (zL s147' ([([]:List Int),[0]]) :: LT2) LT1:=⟨s144,s147,kpU he15,kpU he16,S⟩
  exact w4 rfl (by simp only [pN L 19 15,pN L 19 16,pN L 19 17,pN L 19 33,pN L 19 44,pN L 19 45,hl17,hl33,hl44,hl45,cd2] at hT2 ⊢; exact hT2)
 ·rintro L g v hL hcl hclo hT hv19
  refine yO (j:=19) (pol:=true) rfl rfl hv19 zbA (by simpa using hg151) ?_
  have hl17:L 17=true:=hcl 17 zbD
  have hl33:=clF hL (hclo 33 20 · zbD)
  have hl44:=clF hL (hclo 44 20 · zbD)
  have hl45:=clF hL (hclo 45 20 · zbD)
  replace hT : ∃ (s144:SlV) (s147:SlV),(L 15=true→g 105=s144.v)∧(L 16=true→g 106=s147.v)∧St A N w v (zL s147 ([([]:List Int),[0]]) :: LT2) LT1:=by simp only [hl17,hl33,hl44,hl45,cd2] at hT ⊢; exact hT
  obtain ⟨s144,s147,he15,he16,S⟩ := hT
  refine wd (zi rfl) ?_
  have hT2 : ∃ (s144':SlV) (s147':SlV),((plus L 20) 15=true→(upd g 110 (Value.int .i64 r61.2.2.2)) 105=s144'.v)∧((plus L 20) 16=true→(upd g 110 (Value.int .i64 r61.2.2.2)) 106=s147'.v)∧St A N w v (zL s147' ([([]:List Int),[0]]) :: LT2) LT1:=⟨s144,s147,kpU he15,kpU he16,S⟩
  exact w4 rfl (by simp only [pN L 20 15,pN L 20 16,pN L 20 17,pN L 20 33,pN L 20 44,pN L 20 45,hl17,hl33,hl44,hl45,cd2] at hT2 ⊢; exact hT2)
 ·rintro L g v hL hcl hclo hT hv20 hv19
  refine yO (j:=19) (pol:=true) rfl rfl hv19 zbA (by simpa using hg151) ?_
  have hl17:L 17=true:=hcl 17 zbD
  have hl33:=clF hL (hclo 33 21 · zbD)
  have hl44:=clF hL (hclo 44 21 · zbD)
  have hl45:=clF hL (hclo 45 21 · zbD)
  replace hT : ∃ (s144:SlV) (s147:SlV),(L 15=true→g 105=s144.v)∧(L 16=true→g 106=s147.v)∧St A N w v (zL s147 ([([]:List Int),[0]]) :: LT2) LT1:=by simp only [hl17,hl33,hl44,hl45,cd2] at hT ⊢; exact hT
  obtain ⟨s144,s147,he15,he16,S⟩ := hT
  obtain ⟨_,_,T,bk⟩ := S.calln 0 ((.nil))
  refine zu (zF yb (zK hv20 rfl)) zbA (yd T er152) ?_
  rintro _ w196 ⟨rfl,S2⟩
  replace S:=bk _ _ _ _ S2 rfl
  have hT2 : ∃ (s144':SlV) (s147':SlV),((plus L 21) 15=true→(upd g 111 (Value.int .i64 r152)) 105=s144'.v)∧((plus L 21) 16=true→(upd g 111 (Value.int .i64 r152)) 106=s147'.v)∧St A N w w196 (zL s147' ([([]:List Int),[0]]) :: LT2) LT1:=⟨s144,s147,kpU he15,kpU he16,S⟩
  exact w4 rfl (by simp only [pN L 21 15,pN L 21 16,pN L 21 17,pN L 21 33,pN L 21 44,pN L 21 45,hl17,hl33,hl44,hl45,cd2] at hT2 ⊢; exact hT2)
 ·rintro L g v hL hcl hclo hT hv21 hv19
  refine yO (j:=19) (pol:=true) rfl rfl hv19 zbA (by simpa using hg151) ?_
  have hl17:L 17=true:=hcl 17 zbD
  have hl33:=clF hL (hclo 33 22 · zbD)
  have hl44:=clF hL (hclo 44 22 · zbD)
  have hl45:=clF hL (hclo 45 22 · zbD)
  replace hT : ∃ (s144:SlV) (s147:SlV),(L 15=true→g 105=s144.v)∧(L 16=true→g 106=s147.v)∧St A N w v (zL s147 ([([]:List Int),[0]]) :: LT2) LT1:=by simp only [hl17,hl33,hl44,hl45,cd2] at hT ⊢; exact hT
  obtain ⟨s144,s147,he15,he16,S⟩ := hT
  refine wd (zV hv21 rfl) ?_
  have hT2 : ∃ (s144':SlV) (s147':SlV),((plus L 22) 15=true→(upd g 112 (Value.bool (decide (r152=0)))) 105=s144'.v)∧((plus L 22) 16=true→(upd g 112 (Value.bool (decide (r152=0)))) 106=s147'.v)∧St A N w v (zL s147' ([([]:List Int),[0]]) :: LT2) LT1:=⟨s144,s147,kpU he15,kpU he16,S⟩
  exact w4 rfl (by simp only [pN L 22 15,pN L 22 16,pN L 22 17,pN L 22 33,pN L 22 44,pN L 22 45,hl17,hl33,hl44,hl45,cd2] at hT2 ⊢; exact hT2)
 ·rintro L g v hL hcl hclo hT hv19 hv22
  have hl17:L 17=true:=hcl 17 zbD
  have hl33:=clF hL (hclo 33 23 · zbD)
  have hl44:=clF hL (hclo 44 23 · zbD)
  have hl45:=clF hL (hclo 45 23 · zbD)
  replace hT : ∃ (s144:SlV) (s147:SlV),(L 15=true→g 105=s144.v)∧(L 16=true→g 106=s147.v)∧St A N w v (zL s147 ([([]:List Int),[0]]) :: LT2) LT1:=by simp only [hl17,hl33,hl44,hl45,cd2] at hT ⊢; exact hT
  obtain ⟨s144,s147,he15,he16,S⟩ := hT
  refine wd (zZ hv19 (fun hp=>hv22)) ?_
  have hT2 : ∃ (s144':SlV) (s147':SlV),((plus L 23) 15=true→(upd g 113 (Value.bool (((((decide (r130=0)) && r134) && (decide (r138=0))) && r148) && (decide (r152=0))))) 105=s144'.v)∧((plus L 23) 16=true→(upd g 113 (Value.bool (((((decide (r130=0)) && r134) && (decide (r138=0))) && r148) && (decide (r152=0))))) 106=s147'.v)∧St A N w v (zL s147' ([([]:List Int),[0]]) :: LT2) LT1:=⟨s144,s147,kpU he15,kpU he16,S⟩
  exact w4 rfl (by simp only [pN L 23 15,pN L 23 16,pN L 23 17,pN L 23 33,pN L 23 44,pN L 23 45,hl17,hl33,hl44,hl45,cd2] at hT2 ⊢; exact hT2)
 ·rintro L g v hL hcl hclo hT hv23
  have hl17:L 17=true:=hcl 17 zbD
  have hl33:=clF hL (hclo 33 24 · zbD)
  have hl44:=clF hL (hclo 44 24 · zbD)
  have hl45:=clF hL (hclo 45 24 · zbD)
  replace hT : ∃ (s144:SlV) (s147:SlV),(L 15=true→g 105=s144.v)∧(L 16=true→g 106=s147.v)∧St A N w v (zL s147 ([([]:List Int),[0]]) :: LT2) LT1:=by simp only [hl17,hl33,hl44,hl45,cd2] at hT ⊢; exact hT
  obtain ⟨s144,s147,he15,he16,S⟩ := hT
  refine wd (zA hv23) ?_
  have hT2 : ∃ (s144':SlV) (s147':SlV),((plus L 24) 15=true→(upd g 114 (Value.bool (((((decide (r130=0)) && r134) && (decide (r138=0))) && r148) && (decide (r152=0))))) 105=s144'.v)∧((plus L 24) 16=true→(upd g 114 (Value.bool (((((decide (r130=0)) && r134) && (decide (r138=0))) && r148) && (decide (r152=0))))) 106=s147'.v)∧St A N w v (zL s147' ([([]:List Int),[0]]) :: LT2) LT1:=⟨s144,s147,kpU he15,kpU he16,S⟩
  exact w4 rfl (by simp only [pN L 24 15,pN L 24 16,pN L 24 17,pN L 24 33,pN L 24 44,pN L 24 45,hl17,hl33,hl44,hl45,cd2] at hT2 ⊢; exact hT2)
 ·rintro L g v hL hcl hclo hT hv24
  refine yO (j:=24) (pol:=true) rfl rfl hv24 zbA (by simpa using hg155) ?_
  have hl17:L 17=true:=hcl 17 zbD
  have hl33:=clF hL (hclo 33 25 · zbD)
  have hl44:=clF hL (hclo 44 25 · zbD)
  have hl45:=clF hL (hclo 45 25 · zbD)
  replace hT : ∃ (s144:SlV) (s147:SlV),(L 15=true→g 105=s144.v)∧(L 16=true→g 106=s147.v)∧St A N w v (zL s147 ([([]:List Int),[0]]) :: LT2) LT1:=by simp only [hl17,hl33,hl44,hl45,cd2] at hT ⊢; exact hT
  obtain ⟨s144,s147,he15,he16,S⟩ := hT
  refine wd (zi rfl) ?_
  have hT2 : ∃ (s144':SlV) (s147':SlV),((plus L 25) 15=true→(upd g 115 (Value.int .i64 r61.2.1)) 105=s144'.v)∧((plus L 25) 16=true→(upd g 115 (Value.int .i64 r61.2.1)) 106=s147'.v)∧St A N w v (zL s147' ([([]:List Int),[0]]) :: LT2) LT1:=⟨s144,s147,kpU he15,kpU he16,S⟩
  exact w4 rfl (by simp only [pN L 25 15,pN L 25 16,pN L 25 17,pN L 25 33,pN L 25 44,pN L 25 45,hl17,hl33,hl44,hl45,cd2] at hT2 ⊢; exact hT2)
 ·rintro L g v hL hcl hclo hT hv25 hv24
  refine yO (j:=24) (pol:=true) rfl rfl hv24 zbA (by simpa using hg155) ?_
  have hl17:L 17=true:=hcl 17 zbD
  have hl33:=clF hL (hclo 33 26 · zbD)
  have hl44:=clF hL (hclo 44 26 · zbD)
  have hl45:=clF hL (hclo 45 26 · zbD)
  replace hT : ∃ (s144:SlV) (s147:SlV),(L 15=true→g 105=s144.v)∧(L 16=true→g 106=s147.v)∧St A N w v (zL s147 ([([]:List Int),[0]]) :: LT2) LT1:=by simp only [hl17,hl33,hl44,hl45,cd2] at hT ⊢; exact hT
  obtain ⟨s144,s147,he15,he16,S⟩ := hT
  refine wd (zV hv25 rfl) ?_
  have hT2 : ∃ (s144':SlV) (s147':SlV),((plus L 26) 15=true→(upd g 116 (Value.bool (decide (r61.2.1=3)))) 105=s144'.v)∧((plus L 26) 16=true→(upd g 116 (Value.bool (decide (r61.2.1=3)))) 106=s147'.v)∧St A N w v (zL s147' ([([]:List Int),[0]]) :: LT2) LT1:=⟨s144,s147,kpU he15,kpU he16,S⟩
  exact w4 rfl (by simp only [pN L 26 15,pN L 26 16,pN L 26 17,pN L 26 33,pN L 26 44,pN L 26 45,hl17,hl33,hl44,hl45,cd2] at hT2 ⊢; exact hT2)
 ·rintro L g v hL hcl hclo hT hv24 hv26
  have hl17:L 17=true:=hcl 17 zbD
  have hl33:=clF hL (hclo 33 27 · zbD)
  have hl44:=clF hL (hclo 44 27 · zbD)
  have hl45:=clF hL (hclo 45 27 · zbD)
  replace hT : ∃ (s144:SlV) (s147:SlV),(L 15=true→g 105=s144.v)∧(L 16=true→g 106=s147.v)∧St A N w v (zL s147 ([([]:List Int),[0]]) :: LT2) LT1:=by simp only [hl17,hl33,hl44,hl45,cd2] at hT ⊢; exact hT
  obtain ⟨s144,s147,he15,he16,S⟩ := hT
  refine wd (zZ hv24 (fun hp=>hv26)) ?_
  have hT2 : ∃ (s144':SlV) (s147':SlV),((plus L 27) 15=true→(upd g 117 (Value.bool ((((((decide (r130=0)) && r134) && (decide (r138=0))) && r148) && (decide (r152=0))) && (decide (r61.2.1=3))))) 105=s144'.v)∧((plus L 27) 16=true→(upd g 117 (Value.bool ((((((decide (r130=0)) && r134) && (decide (r138=0))) && r148) && (decide (r152=0))) && (decide (r61.2.1=3))))) 106=s147'.v)∧St A N w v (zL s147' ([([]:List Int),[0]]) :: LT2) LT1:=⟨s144,s147,kpU he15,kpU he16,S⟩
  exact w4 rfl (by simp only [pN L 27 15,pN L 27 16,pN L 27 17,pN L 27 33,pN L 27 44,pN L 27 45,hl17,hl33,hl44,hl45,cd2] at hT2 ⊢; exact hT2)
 ·rintro L g v hL hcl hclo hT hv27
  have hl17:L 17=true:=hcl 17 zbD
  have hl33:=clF hL (hclo 33 28 · zbD)
  have hl44:=clF hL (hclo 44 28 · zbD)
  have hl45:=clF hL (hclo 45 28 · zbD)
  replace hT : ∃ (s144:SlV) (s147:SlV),(L 15=true→g 105=s144.v)∧(L 16=true→g 106=s147.v)∧St A N w v (zL s147 ([([]:List Int),[0]]) :: LT2) LT1:=by simp only [hl17,hl33,hl44,hl45,cd2] at hT ⊢; exact hT
  obtain ⟨s144,s147,he15,he16,S⟩ := hT
  refine wd (zA hv27) ?_
  have hT2 : ∃ (s144':SlV) (s147':SlV),((plus L 28) 15=true→(upd g 118 (Value.bool ((((((decide (r130=0)) && r134) && (decide (r138=0))) && r148) && (decide (r152=0))) && (decide (r61.2.1=3))))) 105=s144'.v)∧((plus L 28) 16=true→(upd g 118 (Value.bool ((((((decide (r130=0)) && r134) && (decide (r138=0))) && r148) && (decide (r152=0))) && (decide (r61.2.1=3))))) 106=s147'.v)∧St A N w v (zL s147' ([([]:List Int),[0]]) :: LT2) LT1:=⟨s144,s147,kpU he15,kpU he16,S⟩
  exact w4 rfl (by simp only [pN L 28 15,pN L 28 16,pN L 28 17,pN L 28 33,pN L 28 44,pN L 28 45,hl17,hl33,hl44,hl45,cd2] at hT2 ⊢; exact hT2)
 ·rintro L g v hL hcl hclo hT hv28
  refine yO (j:=28) (pol:=true) rfl rfl hv28 zbA (by simpa using hg156) ?_
  have hl17:L 17=true:=hcl 17 zbD
  have hl33:=clF hL (hclo 33 29 · zbD)
  have hl44:=clF hL (hclo 44 29 · zbD)
  have hl45:=clF hL (hclo 45 29 · zbD)
  replace hT : ∃ (s144:SlV) (s147:SlV),(L 15=true→g 105=s144.v)∧(L 16=true→g 106=s147.v)∧St A N w v (zL s147 ([([]:List Int),[0]]) :: LT2) LT1:=by simp only [hl17,hl33,hl44,hl45,cd2] at hT ⊢; exact hT
  obtain ⟨s144,s147,he15,he16,S⟩ := hT
  refine wd (zA rfl) ?_
  have hT2 : ∃ (s144':SlV) (s147':SlV),((plus L 29) 15=true→(upd g 119 (Value.bool r61.2.2.1)) 105=s144'.v)∧((plus L 29) 16=true→(upd g 119 (Value.bool r61.2.2.1)) 106=s147'.v)∧St A N w v (zL s147' ([([]:List Int),[0]]) :: LT2) LT1:=⟨s144,s147,kpU he15,kpU he16,S⟩
  exact w4 rfl (by simp only [pN L 29 15,pN L 29 16,pN L 29 17,pN L 29 33,pN L 29 44,pN L 29 45,hl17,hl33,hl44,hl45,cd2] at hT2 ⊢; exact hT2)
 ·rintro L g v hL hcl hclo hT hv28 hv29
  have hl17:L 17=true:=hcl 17 zbD
  have hl33:=clF hL (hclo 33 30 · zbD)
  have hl44:=clF hL (hclo 44 30 · zbD)
  have hl45:=clF hL (hclo 45 30 · zbD)
  replace hT : ∃ (s144:SlV) (s147:SlV),(L 15=true→g 105=s144.v)∧(L 16=true→g 106=s147.v)∧St A N w v (zL s147 ([([]:List Int),[0]]) :: LT2) LT1:=by simp only [hl17,hl33,hl44,hl45,cd2] at hT ⊢; exact hT
  obtain ⟨s144,s147,he15,he16,S⟩ := hT
  refine wd (zZ hv28 (fun hp=>hv29)) ?_
  have hT2 : ∃ (s144':SlV) (s147':SlV),((plus L 30) 15=true→(upd g 120 (Value.bool (((((((decide (r130=0)) && r134) && (decide (r138=0))) && r148) && (decide (r152=0))) && (decide (r61.2.1=3))) && r61.2.2.1))) 105=s144'.v)∧((plus L 30) 16=true→(upd g 120 (Value.bool (((((((decide (r130=0)) && r134) && (decide (r138=0))) && r148) && (decide (r152=0))) && (decide (r61.2.1=3))) && r61.2.2.1))) 106=s147'.v)∧St A N w v (zL s147' ([([]:List Int),[0]]) :: LT2) LT1:=⟨s144,s147,kpU he15,kpU he16,S⟩
  exact w4 rfl (by simp only [pN L 30 15,pN L 30 16,pN L 30 17,pN L 30 33,pN L 30 44,pN L 30 45,hl17,hl33,hl44,hl45,cd2] at hT2 ⊢; exact hT2)
 ·rintro L g v hL hcl hclo hT hv30
  have hl17:L 17=true:=hcl 17 zbD
  have hl33:=clF hL (hclo 33 31 · zbD)
  have hl44:=clF hL (hclo 44 31 · zbD)
  have hl45:=clF hL (hclo 45 31 · zbD)
  replace hT : ∃ (s144:SlV) (s147:SlV),(L 15=true→g 105=s144.v)∧(L 16=true→g 106=s147.v)∧St A N w v (zL s147 ([([]:List Int),[0]]) :: LT2) LT1:=by simp only [hl17,hl33,hl44,hl45,cd2] at hT ⊢; exact hT
  obtain ⟨s144,s147,he15,he16,S⟩ := hT
  refine wd (zA hv30) ?_
  have hT2 : ∃ (s144':SlV) (s147':SlV),((plus L 31) 15=true→(upd g 121 (Value.bool (((((((decide (r130=0)) && r134) && (decide (r138=0))) && r148) && (decide (r152=0))) && (decide (r61.2.1=3))) && r61.2.2.1))) 105=s144'.v)∧((plus L 31) 16=true→(upd g 121 (Value.bool (((((((decide (r130=0)) && r134) && (decide (r138=0))) && r148) && (decide (r152=0))) && (decide (r61.2.1=3))) && r61.2.2.1))) 106=s147'.v)∧St A N w v (zL s147' ([([]:List Int),[0]]) :: LT2) LT1:=⟨s144,s147,kpU he15,kpU he16,S⟩
  exact w4 rfl (by simp only [pN L 31 15,pN L 31 16,pN L 31 17,pN L 31 33,pN L 31 44,pN L 31 45,hl17,hl33,hl44,hl45,cd2] at hT2 ⊢; exact hT2)
 ·rintro L g v hL hcl hclo hT hv31
  refine yO (j:=31) (pol:=true) rfl rfl hv31 zbA (by simpa using hg157) ?_
  have hl17:L 17=true:=hcl 17 zbD
  have hl44:=clF hL (hclo 44 32 · zbD)
  have hl45:=clF hL (hclo 45 32 · zbD)
  cases hl33:L 33 with
  | true =>
   replace hT : ∃ (s144:SlV) (s147:SlV) (s161:SlV),(L 15=true→g 105=s144.v)∧(L 16=true→g 106=s147.v)∧(L 33=true→g 123=Value.agg (tmC r158 s161).toArray)∧St A N w v (zL s147 ([([]:List Int),[0]]) :: LT2) (zg s161 r158.sub :: LT1):=by simp only [hl33,hl44,hl45,cd2] at hT ⊢; exact hT
   obtain ⟨s144,s147,s161,he15,he16,he33,S⟩ := hT
   refine wd (ldT rfl (S.blk 4)) ?_
   have hT2 : ∃ (s144':SlV) (s147':SlV) (s161':SlV),((plus L 32) 15=true→(upd g 122 (Value.agg (tmC r61.1 s64).toArray)) 105=s144'.v)∧((plus L 32) 16=true→(upd g 122 (Value.agg (tmC r61.1 s64).toArray)) 106=s147'.v)∧((plus L 32) 33=true→(upd g 122 (Value.agg (tmC r61.1 s64).toArray)) 123=Value.agg (tmC r158 s161').toArray)∧St A N w v (zL s147' ([([]:List Int),[0]]) :: LT2) (zg s161' r158.sub :: LT1):=⟨s144,s147,s161,kpU he15,kpU he16,kpU he33,S⟩
   exact w4 rfl (by simp only [pN L 32 15,pN L 32 16,pN L 32 17,pN L 32 33,pN L 32 44,pN L 32 45,hl33,hl44,hl45,cd2] at hT2 ⊢; exact hT2)
  | false =>
   replace hT : ∃ (s144:SlV) (s147:SlV),(L 15=true→g 105=s144.v)∧(L 16=true→g 106=s147.v)∧St A N w v (zL s147 ([([]:List Int),[0]]) :: LT2) LT1:=by simp only [hl17,hl33,hl44,hl45,cd2] at hT ⊢; exact hT
   obtain ⟨s144,s147,he15,he16,S⟩ := hT
   refine wd (ldT rfl (S.blk 4)) ?_
   have hT2 : ∃ (s144':SlV) (s147':SlV),((plus L 32) 15=true→(upd g 122 (Value.agg (tmC r61.1 s64).toArray)) 105=s144'.v)∧((plus L 32) 16=true→(upd g 122 (Value.agg (tmC r61.1 s64).toArray)) 106=s147'.v)∧St A N w v (zL s147' ([([]:List Int),[0]]) :: LT2) LT1:=⟨s144,s147,kpU he15,kpU he16,S⟩
   exact w4 rfl (by simp only [pN L 32 15,pN L 32 16,pN L 32 17,pN L 32 33,pN L 32 44,pN L 32 45,hl17,hl33,hl44,hl45,cd2] at hT2 ⊢; exact hT2)
 ·rintro L g v hL hcl hclo hT hv31
  refine yO (j:=31) (pol:=true) rfl rfl hv31 zbA (by simpa using hg157) ?_
  have hl17:L 17=true:=hcl 17 zbD
  have hl33:L 33=false:=hL
  have hl44:=clF hL (hclo 44 33 · zbD)
  have hl45:=clF hL (hclo 45 33 · zbD)
  replace hT : ∃ (s144:SlV) (s147:SlV),(L 15=true→g 105=s144.v)∧(L 16=true→g 106=s147.v)∧St A N w v (zL s147 ([([]:List Int),[0]]) :: LT2) LT1:=by simp only [hl17,hl33,hl44,hl45,cd2] at hT ⊢; exact hT
  obtain ⟨s144,s147,he15,he16,S⟩ := hT
  obtain ⟨_,_,T,bk⟩ := S.sub [] [] (zL s147 ([([]:List Int),[0]]) :: LT2)
  refine zu (zt uh) zbA (uk T er158) ?_
  rintro _ w199 ⟨s161,rfl,S2⟩
  replace S:=bk _ _ _ _ _ S2 rfl rfl
  have hT2 : ∃ (s144':SlV) (s147':SlV) (s161':SlV),((plus L 33) 15=true→(upd g 123 (Value.agg (tmC r158 s161).toArray)) 105=s144'.v)∧((plus L 33) 16=true→(upd g 123 (Value.agg (tmC r158 s161).toArray)) 106=s147'.v)∧((plus L 33) 33=true→(upd g 123 (Value.agg (tmC r158 s161).toArray)) 123=Value.agg (tmC r158 s161').toArray)∧St A N w w199 (zL s147' ([([]:List Int),[0]]) :: LT2) (zg s161' r158.sub :: LT1):=⟨s144,s147,s161,kpU he15,kpU he16,fun _=>upd_same _ _ _,S⟩
  exact w4 trivial (by simp only [pN L 33 15,pN L 33 16,pN L 33 17,pN L 33 44,pN L 33 45,x9 (L:=L) (i:=33),hl44,hl45,cd2] at hT2 ⊢; exact hT2)
 ·rintro L g v hL hcl hclo hT hv32 hv33 hv31
  refine yO (j:=31) (pol:=true) rfl rfl hv31 zbA (by simpa using hg157) ?_
  have hl33:L 33=true:=hcl 33 zbD
  have hl44:=clF hL (hclo 44 34 · zbD)
  have hl45:=clF hL (hclo 45 34 · zbD)
  replace hT : ∃ (s144:SlV) (s147:SlV) (s161:SlV),(L 15=true→g 105=s144.v)∧(L 16=true→g 106=s147.v)∧(L 33=true→g 123=Value.agg (tmC r158 s161).toArray)∧St A N w v (zL s147 ([([]:List Int),[0]]) :: LT2) (zg s161 r158.sub :: LT1):=by simp only [hl33,hl44,hl45,cd2] at hT ⊢; exact hT
  obtain ⟨s144,s147,s161,he15,he16,he33,S⟩ := hT
  obtain ⟨_,_,T,bk⟩ := S.calln 0 ((.z 9 rfl (.z 0 rfl .nil)))
  refine zu (zF kR (zK hv32 (zK (he33 (hcl 33 zbD)) rfl))) zbA (zbk (a0:=r61.1) (a1:=r158) T er162) ?_
  rintro _ w202 ⟨rfl,S2⟩
  replace S:=bk _ _ _ _ S2 rfl
  have hT2 : ∃ (s144':SlV) (s147':SlV) (s161':SlV),((plus L 34) 15=true→(upd g 124 (Value.bool r162)) 105=s144'.v)∧((plus L 34) 16=true→(upd g 124 (Value.bool r162)) 106=s147'.v)∧((plus L 34) 33=true→(upd g 124 (Value.bool r162)) 123=Value.agg (tmC r158 s161').toArray)∧St A N w w202 (zL s147' ([([]:List Int),[0]]) :: LT2) (zg s161' r158.sub :: LT1):=⟨s144,s147,s161,kpU he15,kpU he16,kpU he33,S⟩
  exact w4 rfl (by simp only [pN L 34 15,pN L 34 16,pN L 34 17,pN L 34 33,pN L 34 44,pN L 34 45,hl33,hl44,hl45,cd2] at hT2 ⊢; exact hT2)
 ·rintro L g v hL hcl hclo hT hv31 hv34
  have hl33:L 33=true:=hcl 33 zbD
  have hl44:=clF hL (hclo 44 35 · zbD)
  have hl45:=clF hL (hclo 45 35 · zbD)
  replace hT : ∃ (s144:SlV) (s147:SlV) (s161:SlV),(L 15=true→g 105=s144.v)∧(L 16=true→g 106=s147.v)∧(L 33=true→g 123=Value.agg (tmC r158 s161).toArray)∧St A N w v (zL s147 ([([]:List Int),[0]]) :: LT2) (zg s161 r158.sub :: LT1):=by simp only [hl33,hl44,hl45,cd2] at hT ⊢; exact hT
  obtain ⟨s144,s147,s161,he15,he16,he33,S⟩ := hT
  refine wd (zZ hv31 (fun hp=>hv34)) ?_
  have hT2 : ∃ (s144':SlV) (s147':SlV) (s161':SlV),((plus L 35) 15=true→(upd g 125 (Value.bool ((((((((decide (r130=0)) && r134) && (decide (r138=0))) && r148) && (decide (r152=0))) && (decide (r61.2.1=3))) && r61.2.2.1) && r162))) 105=s144'.v)∧((plus L 35) 16=true→(upd g 125 (Value.bool ((((((((decide (r130=0)) && r134) && (decide (r138=0))) && r148) && (decide (r152=0))) && (decide (r61.2.1=3))) && r61.2.2.1) && r162))) 106=s147'.v)∧((plus L 35) 33=true→(upd g 125 (Value.bool ((((((((decide (r130=0)) && r134) && (decide (r138=0))) && r148) && (decide (r152=0))) && (decide (r61.2.1=3))) && r61.2.2.1) && r162))) 123=Value.agg (tmC r158 s161').toArray)∧St A N w v (zL s147' ([([]:List Int),[0]]) :: LT2) (zg s161' r158.sub :: LT1):=⟨s144,s147,s161,kpU he15,kpU he16,kpU he33,S⟩
  exact w4 rfl (by simp only [pN L 35 15,pN L 35 16,pN L 35 17,pN L 35 33,pN L 35 44,pN L 35 45,hl33,hl44,hl45,cd2] at hT2 ⊢; exact hT2)
 ·rintro L g v hL hcl hclo hT hv35
  have hl33:L 33=true:=hcl 33 zbD
  have hl44:=clF hL (hclo 44 36 · zbD)
  have hl45:=clF hL (hclo 45 36 · zbD)
  replace hT : ∃ (s144:SlV) (s147:SlV) (s161:SlV),(L 15=true→g 105=s144.v)∧(L 16=true→g 106=s147.v)∧(L 33=true→g 123=Value.agg (tmC r158 s161).toArray)∧St A N w v (zL s147 ([([]:List Int),[0]]) :: LT2) (zg s161 r158.sub :: LT1):=by simp only [hl33,hl44,hl45,cd2] at hT ⊢; exact hT
  obtain ⟨s144,s147,s161,he15,he16,he33,S⟩ := hT
  refine wd (zA hv35) ?_
  have hT2 : ∃ (s144':SlV) (s147':SlV) (s161':SlV),((plus L 36) 15=true→(upd g 126 (Value.bool ((((((((decide (r130=0)) && r134) && (decide (r138=0))) && r148) && (decide (r152=0))) && (decide (r61.2.1=3))) && r61.2.2.1) && r162))) 105=s144'.v)∧((plus L 36) 16=true→(upd g 126 (Value.bool ((((((((decide (r130=0)) && r134) && (decide (r138=0))) && r148) && (decide (r152=0))) && (decide (r61.2.1=3))) && r61.2.2.1) && r162))) 106=s147'.v)∧((plus L 36) 33=true→(upd g 126 (Value.bool ((((((((decide (r130=0)) && r134) && (decide (r138=0))) && r148) && (decide (r152=0))) && (decide (r61.2.1=3))) && r61.2.2.1) && r162))) 123=Value.agg (tmC r158 s161').toArray)∧St A N w v (zL s147' ([([]:List Int),[0]]) :: LT2) (zg s161' r158.sub :: LT1):=⟨s144,s147,s161,kpU he15,kpU he16,kpU he33,S⟩
  exact w4 rfl (by simp only [pN L 36 15,pN L 36 16,pN L 36 17,pN L 36 33,pN L 36 44,pN L 36 45,hl33,hl44,hl45,cd2] at hT2 ⊢; exact hT2)
 ·rintro L g v hL hcl hclo hT hv36
  refine yO (j:=36) (pol:=true) rfl rfl hv36 zbA (by simpa using hg165) ?_
  have hl33:L 33=true:=hcl 33 zbD
  have hl44:=clF hL (hclo 44 37 · zbD)
  have hl45:=clF hL (hclo 45 37 · zbD)
  replace hT : ∃ (s144:SlV) (s147:SlV) (s161:SlV),(L 15=true→g 105=s144.v)∧(L 16=true→g 106=s147.v)∧(L 33=true→g 123=Value.agg (tmC r158 s161).toArray)∧St A N w v (zL s147 ([([]:List Int),[0]]) :: LT2) (zg s161 r158.sub :: LT1):=by simp only [hl33,hl44,hl45,cd2] at hT ⊢; exact hT
  obtain ⟨s144,s147,s161,he15,he16,he33,S⟩ := hT
  refine wd (zi rfl) ?_
  have hT2 : ∃ (s144':SlV) (s147':SlV) (s161':SlV),((plus L 37) 15=true→(upd g 127 (Value.int .i64 r68.2)) 105=s144'.v)∧((plus L 37) 16=true→(upd g 127 (Value.int .i64 r68.2)) 106=s147'.v)∧((plus L 37) 33=true→(upd g 127 (Value.int .i64 r68.2)) 123=Value.agg (tmC r158 s161').toArray)∧St A N w v (zL s147' ([([]:List Int),[0]]) :: LT2) (zg s161' r158.sub :: LT1):=⟨s144,s147,s161,kpU he15,kpU he16,kpU he33,S⟩
  exact w4 rfl (by simp only [pN L 37 15,pN L 37 16,pN L 37 17,pN L 37 33,pN L 37 44,pN L 37 45,hl33,hl44,hl45,cd2] at hT2 ⊢; exact hT2)
 ·rintro L g v hL hcl hclo hT hv37 hv36
  refine yO (j:=36) (pol:=true) rfl rfl hv36 zbA (by simpa using hg165) ?_
  have hl33:L 33=true:=hcl 33 zbD
  have hl44:=clF hL (hclo 44 38 · zbD)
  have hl45:=clF hL (hclo 45 38 · zbD)
  replace hT : ∃ (s144:SlV) (s147:SlV) (s161:SlV),(L 15=true→g 105=s144.v)∧(L 16=true→g 106=s147.v)∧(L 33=true→g 123=Value.agg (tmC r158 s161).toArray)∧St A N w v (zL s147 ([([]:List Int),[0]]) :: LT2) (zg s161 r158.sub :: LT1):=by simp only [hl33,hl44,hl45,cd2] at hT ⊢; exact hT
  obtain ⟨s144,s147,s161,he15,he16,he33,S⟩ := hT
  obtain ⟨_,_,T,bk⟩ := S.calln 0 ((.nil))
  refine zu (zF yb (zK hv37 rfl)) zbA (yd T er166) ?_
  rintro _ w205 ⟨rfl,S2⟩
  replace S:=bk _ _ _ _ S2 rfl
  have hT2 : ∃ (s144':SlV) (s147':SlV) (s161':SlV),((plus L 38) 15=true→(upd g 128 (Value.int .i64 r166)) 105=s144'.v)∧((plus L 38) 16=true→(upd g 128 (Value.int .i64 r166)) 106=s147'.v)∧((plus L 38) 33=true→(upd g 128 (Value.int .i64 r166)) 123=Value.agg (tmC r158 s161').toArray)∧St A N w w205 (zL s147' ([([]:List Int),[0]]) :: LT2) (zg s161' r158.sub :: LT1):=⟨s144,s147,s161,kpU he15,kpU he16,kpU he33,S⟩
  exact w4 rfl (by simp only [pN L 38 15,pN L 38 16,pN L 38 17,pN L 38 33,pN L 38 44,pN L 38 45,hl33,hl44,hl45,cd2] at hT2 ⊢; exact hT2)
 ·rintro L g v hL hcl hclo hT hv38 hv36
  refine yO (j:=36) (pol:=true) rfl rfl hv36 zbA (by simpa using hg165) ?_
  have hl33:L 33=true:=hcl 33 zbD
  have hl44:=clF hL (hclo 44 39 · zbD)
  have hl45:=clF hL (hclo 45 39 · zbD)
  replace hT : ∃ (s144:SlV) (s147:SlV) (s161:SlV),(L 15=true→g 105=s144.v)∧(L 16=true→g 106=s147.v)∧(L 33=true→g 123=Value.agg (tmC r158 s161).toArray)∧St A N w v (zL s147 ([([]:List Int),[0]]) :: LT2) (zg s161 r158.sub :: LT1):=by simp only [hl33,hl44,hl45,cd2] at hT ⊢; exact hT
  obtain ⟨s144,s147,s161,he15,he16,he33,S⟩ := hT
  refine wd (zV hv38 rfl) ?_
  have hT2 : ∃ (s144':SlV) (s147':SlV) (s161':SlV),((plus L 39) 15=true→(upd g 129 (Value.bool (decide (r166=0)))) 105=s144'.v)∧((plus L 39) 16=true→(upd g 129 (Value.bool (decide (r166=0)))) 106=s147'.v)∧((plus L 39) 33=true→(upd g 129 (Value.bool (decide (r166=0)))) 123=Value.agg (tmC r158 s161').toArray)∧St A N w v (zL s147' ([([]:List Int),[0]]) :: LT2) (zg s161' r158.sub :: LT1):=⟨s144,s147,s161,kpU he15,kpU he16,kpU he33,S⟩
  exact w4 rfl (by simp only [pN L 39 15,pN L 39 16,pN L 39 17,pN L 39 33,pN L 39 44,pN L 39 45,hl33,hl44,hl45,cd2] at hT2 ⊢; exact hT2)
 ·rintro L g v hL hcl hclo hT hv36 hv39
  have hl33:L 33=true:=hcl 33 zbD
  have hl44:=clF hL (hclo 44 40 · zbD)
  have hl45:=clF hL (hclo 45 40 · zbD)
  replace hT : ∃ (s144:SlV) (s147:SlV) (s161:SlV),(L 15=true→g 105=s144.v)∧(L 16=true→g 106=s147.v)∧(L 33=true→g 123=Value.agg (tmC r158 s161).toArray)∧St A N w v (zL s147 ([([]:List Int),[0]]) :: LT2) (zg s161 r158.sub :: LT1):=by simp only [hl33,hl44,hl45,cd2] at hT ⊢; exact hT
  obtain ⟨s144,s147,s161,he15,he16,he33,S⟩ := hT
  refine wd (zZ hv36 (fun hp=>hv39)) ?_
  have hT2 : ∃ (s144':SlV) (s147':SlV) (s161':SlV),((plus L 40) 15=true→(upd g 130 (Value.bool (((((((((decide (r130=0)) && r134) && (decide (r138=0))) && r148) && (decide (r152=0))) && (decide (r61.2.1=3))) && r61.2.2.1) && r162) && (decide (r166=0))))) 105=s144'.v)∧((plus L 40) 16=true→(upd g 130 (Value.bool (((((((((decide (r130=0)) && r134) && (decide (r138=0))) && r148) && (decide (r152=0))) && (decide (r61.2.1=3))) && r61.2.2.1) && r162) && (decide (r166=0))))) 106=s147'.v)∧((plus L 40) 33=true→(upd g 130 (Value.bool (((((((((decide (r130=0)) && r134) && (decide (r138=0))) && r148) && (decide (r152=0))) && (decide (r61.2.1=3))) && r61.2.2.1) && r162) && (decide (r166=0))))) 123=Value.agg (tmC r158 s161').toArray)∧St A N w v (zL s147' ([([]:List Int),[0]]) :: LT2) (zg s161' r158.sub :: LT1):=⟨s144,s147,s161,kpU he15,kpU he16,kpU he33,S⟩
  exact w4 rfl (by simp only [pN L 40 15,pN L 40 16,pN L 40 17,pN L 40 33,pN L 40 44,pN L 40 45,hl33,hl44,hl45,cd2] at hT2 ⊢; exact hT2)
 ·rintro L g v hL hcl hclo hT hv40
  have hl33:L 33=true:=hcl 33 zbD
  have hl44:=clF hL (hclo 44 41 · zbD)
  have hl45:=clF hL (hclo 45 41 · zbD)
  replace hT : ∃ (s144:SlV) (s147:SlV) (s161:SlV),(L 15=true→g 105=s144.v)∧(L 16=true→g 106=s147.v)∧(L 33=true→g 123=Value.agg (tmC r158 s161).toArray)∧St A N w v (zL s147 ([([]:List Int),[0]]) :: LT2) (zg s161 r158.sub :: LT1):=by simp only [hl33,hl44,hl45,cd2] at hT ⊢; exact hT
  obtain ⟨s144,s147,s161,he15,he16,he33,S⟩ := hT
  refine wd (zA hv40) ?_
  have hT2 : ∃ (s144':SlV) (s147':SlV) (s161':SlV),((plus L 41) 15=true→(upd g 131 (Value.bool (((((((((decide (r130=0)) && r134) && (decide (r138=0))) && r148) && (decide (r152=0))) && (decide (r61.2.1=3))) && r61.2.2.1) && r162) && (decide (r166=0))))) 105=s144'.v)∧((plus L 41) 16=true→(upd g 131 (Value.bool (((((((((decide (r130=0)) && r134) && (decide (r138=0))) && r148) && (decide (r152=0))) && (decide (r61.2.1=3))) && r61.2.2.1) && r162) && (decide (r166=0))))) 106=s147'.v)∧((plus L 41) 33=true→(upd g 131 (Value.bool (((((((((decide (r130=0)) && r134) && (decide (r138=0))) && r148) && (decide (r152=0))) && (decide (r61.2.1=3))) && r61.2.2.1) && r162) && (decide (r166=0))))) 123=Value.agg (tmC r158 s161').toArray)∧St A N w v (zL s147' ([([]:List Int),[0]]) :: LT2) (zg s161' r158.sub :: LT1):=⟨s144,s147,s161,kpU he15,kpU he16,kpU he33,S⟩
  exact w4 rfl (by simp only [pN L 41 15,pN L 41 16,pN L 41 17,pN L 41 33,pN L 41 44,pN L 41 45,hl33,hl44,hl45,cd2] at hT2 ⊢; exact hT2)
 ·rintro L g v hL hcl hclo hT hv41
  refine yO (j:=41) (pol:=true) rfl rfl hv41 zbA (by simpa using hg169) ?_
  have hl33:L 33=true:=hcl 33 zbD
  cases hl45:L 45 with
  | true =>
   replace hT : ∃ (s144:SlV) (s147:SlV) (s161:SlV) (s173:SlV) (s176:SlV),(L 15=true→g 105=s144.v)∧(L 16=true→g 106=s147.v)∧(L 33=true→g 123=Value.agg (tmC r158 s161).toArray)∧(L 44=true→g 134=Value.agg (tmC r158 s173).toArray)∧(L 45=true→g 135=s176.v)∧(L 46=true→g 136=Value.agg (Term.C (tmN 3 0 s176)).toArray)∧St A N w v (zL s147 ([([]:List Int),[0]]) :: LT2) (zg s176 ([(ptM 2 (bA #[120]) [r11]),r158]) :: zg s173 r158.sub :: zg s161 r158.sub :: LT1):=by simp only [hl45,cd2] at hT ⊢; exact hT
   obtain ⟨s144,s147,s161,s173,s176,he15,he16,he33,he44,he45,he46,S⟩ := hT
   refine wd (ldT rfl (S.blk 3)) ?_
   have hT2 : ∃ (s144':SlV) (s147':SlV) (s161':SlV) (s173':SlV) (s176':SlV),((plus L 42) 15=true→(upd g 132 (Value.agg (tmC r68.1 s71).toArray)) 105=s144'.v)∧((plus L 42) 16=true→(upd g 132 (Value.agg (tmC r68.1 s71).toArray)) 106=s147'.v)∧((plus L 42) 33=true→(upd g 132 (Value.agg (tmC r68.1 s71).toArray)) 123=Value.agg (tmC r158 s161').toArray)∧((plus L 42) 44=true→(upd g 132 (Value.agg (tmC r68.1 s71).toArray)) 134=Value.agg (tmC r158 s173').toArray)∧((plus L 42) 45=true→(upd g 132 (Value.agg (tmC r68.1 s71).toArray)) 135=s176'.v)∧((plus L 42) 46=true→(upd g 132 (Value.agg (tmC r68.1 s71).toArray)) 136=Value.agg (Term.C (tmN 3 0 s176')).toArray)∧St A N w v (zL s147' ([([]:List Int),[0]]) :: LT2) (zg s176' ([(ptM 2 (bA #[120]) [r11]),r158]) :: zg s173' r158.sub :: zg s161' r158.sub :: LT1):=⟨s144,s147,s161,s173,s176,kpU he15,kpU he16,kpU he33,kpU he44,kpU he45,kpU he46,S⟩
   exact w4 rfl (by simp only [pN L 42 15,pN L 42 16,pN L 42 17,pN L 42 33,pN L 42 44,pN L 42 45,hl45,cd2] at hT2 ⊢; exact hT2)
  | false =>
   cases hl44:L 44 with
   | true =>
    replace hT : ∃ (s144:SlV) (s147:SlV) (s161:SlV) (s173:SlV),(L 15=true→g 105=s144.v)∧(L 16=true→g 106=s147.v)∧(L 33=true→g 123=Value.agg (tmC r158 s161).toArray)∧(L 44=true→g 134=Value.agg (tmC r158 s173).toArray)∧St A N w v (zL s147 ([([]:List Int),[0]]) :: LT2) (zg s173 r158.sub :: zg s161 r158.sub :: LT1):=by simp only [hl44,hl45,cd2] at hT ⊢; exact hT
    obtain ⟨s144,s147,s161,s173,he15,he16,he33,he44,S⟩ := hT
    refine wd (ldT rfl (S.blk 3)) ?_
    have hT2 : ∃ (s144':SlV) (s147':SlV) (s161':SlV) (s173':SlV),((plus L 42) 15=true→(upd g 132 (Value.agg (tmC r68.1 s71).toArray)) 105=s144'.v)∧((plus L 42) 16=true→(upd g 132 (Value.agg (tmC r68.1 s71).toArray)) 106=s147'.v)∧((plus L 42) 33=true→(upd g 132 (Value.agg (tmC r68.1 s71).toArray)) 123=Value.agg (tmC r158 s161').toArray)∧((plus L 42) 44=true→(upd g 132 (Value.agg (tmC r68.1 s71).toArray)) 134=Value.agg (tmC r158 s173').toArray)∧St A N w v (zL s147' ([([]:List Int),[0]]) :: LT2) (zg s173' r158.sub :: zg s161' r158.sub :: LT1):=⟨s144,s147,s161,s173,kpU he15,kpU he16,kpU he33,kpU he44,S⟩
    exact w4 rfl (by simp only [pN L 42 15,pN L 42 16,pN L 42 17,pN L 42 33,pN L 42 44,pN L 42 45,hl44,hl45,cd2] at hT2 ⊢; exact hT2)
   | false =>
    replace hT : ∃ (s144:SlV) (s147:SlV) (s161:SlV),(L 15=true→g 105=s144.v)∧(L 16=true→g 106=s147.v)∧(L 33=true→g 123=Value.agg (tmC r158 s161).toArray)∧St A N w v (zL s147 ([([]:List Int),[0]]) :: LT2) (zg s161 r158.sub :: LT1):=by simp only [hl33,hl44,hl45,cd2] at hT ⊢; exact hT
    obtain ⟨s144,s147,s161,he15,he16,he33,S⟩ := hT
    refine wd (ldT rfl (S.blk 3)) ?_
    have hT2 : ∃ (s144':SlV) (s147':SlV) (s161':SlV),((plus L 42) 15=true→(upd g 132 (Value.agg (tmC r68.1 s71).toArray)) 105=s144'.v)∧((plus L 42) 16=true→(upd g 132 (Value.agg (tmC r68.1 s71).toArray)) 106=s147'.v)∧((plus L 42) 33=true→(upd g 132 (Value.agg (tmC r68.1 s71).toArray)) 123=Value.agg (tmC r158 s161').toArray)∧St A N w v (zL s147' ([([]:List Int),[0]]) :: LT2) (zg s161' r158.sub :: LT1):=⟨s144,s147,s161,kpU he15,kpU he16,kpU he33,S⟩
    exact w4 rfl (by simp only [pN L 42 15,pN L 42 16,pN L 42 17,pN L 42 33,pN L 42 44,pN L 42 45,hl33,hl44,hl45,cd2] at hT2 ⊢; exact hT2)
 ·rintro L g v hL hcl hclo hT hv41
  refine yO (j:=41) (pol:=true) rfl rfl hv41 zbA (by simpa using hg169) ?_
  have hl33:L 33=true:=hcl 33 zbD
  have hl45:=clF hL (hclo 45 43 · zbD)
  cases hl44:L 44 with
  | true =>
   replace hT : ∃ (s144:SlV) (s147:SlV) (s161:SlV) (s173:SlV),(L 15=true→g 105=s144.v)∧(L 16=true→g 106=s147.v)∧(L 33=true→g 123=Value.agg (tmC r158 s161).toArray)∧(L 44=true→g 134=Value.agg (tmC r158 s173).toArray)∧St A N w v (zL s147 ([([]:List Int),[0]]) :: LT2) (zg s173 r158.sub :: zg s161 r158.sub :: LT1):=by simp only [hl44,hl45,cd2] at hT ⊢; exact hT
   obtain ⟨s144,s147,s161,s173,he15,he16,he33,he44,S⟩ := hT
   refine wd (ldT rfl (S.blk 8)) ?_
   have hT2 : ∃ (s144':SlV) (s147':SlV) (s161':SlV) (s173':SlV),((plus L 43) 15=true→(upd g 133 (Value.agg (Term.C (tmM 2 (bA #[120]) s17)).toArray)) 105=s144'.v)∧((plus L 43) 16=true→(upd g 133 (Value.agg (Term.C (tmM 2 (bA #[120]) s17)).toArray)) 106=s147'.v)∧((plus L 43) 33=true→(upd g 133 (Value.agg (Term.C (tmM 2 (bA #[120]) s17)).toArray)) 123=Value.agg (tmC r158 s161').toArray)∧((plus L 43) 44=true→(upd g 133 (Value.agg (Term.C (tmM 2 (bA #[120]) s17)).toArray)) 134=Value.agg (tmC r158 s173').toArray)∧St A N w v (zL s147' ([([]:List Int),[0]]) :: LT2) (zg s173' r158.sub :: zg s161' r158.sub :: LT1):=⟨s144,s147,s161,s173,kpU he15,kpU he16,kpU he33,kpU he44,S⟩
   exact w4 rfl (by simp only [pN L 43 15,pN L 43 16,pN L 43 17,pN L 43 33,pN L 43 44,pN L 43 45,hl44,hl45,cd2] at hT2 ⊢; exact hT2)
  | false =>
   replace hT : ∃ (s144:SlV) (s147:SlV) (s161:SlV),(L 15=true→g 105=s144.v)∧(L 16=true→g 106=s147.v)∧(L 33=true→g 123=Value.agg (tmC r158 s161).toArray)∧St A N w v (zL s147 ([([]:List Int),[0]]) :: LT2) (zg s161 r158.sub :: LT1):=by simp only [hl33,hl44,hl45,cd2] at hT ⊢; exact hT
   obtain ⟨s144,s147,s161,he15,he16,he33,S⟩ := hT
   refine wd (ldT rfl (S.blk 8)) ?_
   have hT2 : ∃ (s144':SlV) (s147':SlV) (s161':SlV),((plus L 43) 15=true→(upd g 133 (Value.agg (Term.C (tmM 2 (bA #[120]) s17)).toArray)) 105=s144'.v)∧((plus L 43) 16=true→(upd g 133 (Value.agg (Term.C (tmM 2 (bA #[120]) s17)).toArray)) 106=s147'.v)∧((plus L 43) 33=true→(upd g 133 (Value.agg (Term.C (tmM 2 (bA #[120]) s17)).toArray)) 123=Value.agg (tmC r158 s161').toArray)∧St A N w v (zL s147' ([([]:List Int),[0]]) :: LT2) (zg s161' r158.sub :: LT1):=⟨s144,s147,s161,kpU he15,kpU he16,kpU he33,S⟩
   exact w4 rfl (by simp only [pN L 43 15,pN L 43 16,pN L 43 17,pN L 43 33,pN L 43 44,pN L 43 45,hl33,hl44,hl45,cd2] at hT2 ⊢; exact hT2)
 ·rintro L g v hL hcl hclo hT hv41
  refine yO (j:=41) (pol:=true) rfl rfl hv41 zbA (by simpa using hg169) ?_
  have hl33:L 33=true:=hcl 33 zbD
  have hl44:L 44=false:=hL
  have hl45:=clF hL (hclo 45 44 · zbD)
  replace hT : ∃ (s144:SlV) (s147:SlV) (s161:SlV),(L 15=true→g 105=s144.v)∧(L 16=true→g 106=s147.v)∧(L 33=true→g 123=Value.agg (tmC r158 s161).toArray)∧St A N w v (zL s147 ([([]:List Int),[0]]) :: LT2) (zg s161 r158.sub :: LT1):=by simp only [hl33,hl44,hl45,cd2] at hT ⊢; exact hT
  obtain ⟨s144,s147,s161,he15,he16,he33,S⟩ := hT
  obtain ⟨_,_,T,bk⟩ := S.sub [] [] (zL s147 ([([]:List Int),[0]]) :: LT2)
  refine zu (zt uh) zbA (uk T er158) ?_
  rintro _ w208 ⟨s173,rfl,S2⟩
  replace S:=bk _ _ _ _ _ S2 rfl rfl
  have hT2 : ∃ (s144':SlV) (s147':SlV) (s161':SlV) (s173':SlV),((plus L 44) 15=true→(upd g 134 (Value.agg (tmC r158 s173).toArray)) 105=s144'.v)∧((plus L 44) 16=true→(upd g 134 (Value.agg (tmC r158 s173).toArray)) 106=s147'.v)∧((plus L 44) 33=true→(upd g 134 (Value.agg (tmC r158 s173).toArray)) 123=Value.agg (tmC r158 s161').toArray)∧((plus L 44) 44=true→(upd g 134 (Value.agg (tmC r158 s173).toArray)) 134=Value.agg (tmC r158 s173').toArray)∧St A N w w208 (zL s147' ([([]:List Int),[0]]) :: LT2) (zg s173' r158.sub :: zg s161' r158.sub :: LT1):=⟨s144,s147,s161,s173,kpU he15,kpU he16,kpU he33,fun _=>upd_same _ _ _,S⟩
  exact w4 trivial (by simp only [pN L 44 15,pN L 44 16,pN L 44 17,pN L 44 33,pN L 44 45,x9 (L:=L) (i:=44),hl45,cd2] at hT2 ⊢; exact hT2)
 ·rintro L g v hL hcl hclo hT hv43 hv44 hv41
  refine yO (j:=41) (pol:=true) rfl rfl hv41 zbA (by simpa using hg169) ?_
  have hl44:L 44=true:=hcl 44 zbD
  have hl45:L 45=false:=hL
  replace hT : ∃ (s144:SlV) (s147:SlV) (s161:SlV) (s173:SlV),(L 15=true→g 105=s144.v)∧(L 16=true→g 106=s147.v)∧(L 33=true→g 123=Value.agg (tmC r158 s161).toArray)∧(L 44=true→g 134=Value.agg (tmC r158 s173).toArray)∧St A N w v (zL s147 ([([]:List Int),[0]]) :: LT2) (zg s173 r158.sub :: zg s161 r158.sub :: LT1):=by simp only [hl44,hl45,cd2] at hT ⊢; exact hT
  obtain ⟨s144,s147,s161,s173,he15,he16,he33,he44,S⟩ := hT
  refine vD (C:=Term.C) (l:=[(tmM 2 (bA #[120]) s17),(tmT r158 s173)]) (vs:=[.agg (Term.C (tmM 2 (bA #[120]) s17)).toArray,.agg (tmC r158 s173).toArray]) zz jp.zero (xT hv43 (xT (he44 (hcl 44 zbD)) rfl)) rfl (fun a _=>Term.len a) zbA rfl zbA fun b211 w210 s176 hBw210 hw210=>?_
  replace S:=((S.lit hBw210 hw210 zbC).bigTm).consTm (x:=r158) 0
  replace S:=((S.consTm (x:=(ptM 2 (bA #[120]) [r11])) 17).frzTm 0 0).zs ([0] ++ rg 2 20)
  have hT2 : ∃ (s144':SlV) (s147':SlV) (s161':SlV) (s173':SlV) (s176':SlV),((plus L 45) 15=true→(upd g 135 (s176.v)) 105=s144'.v)∧((plus L 45) 16=true→(upd g 135 (s176.v)) 106=s147'.v)∧((plus L 45) 33=true→(upd g 135 (s176.v)) 123=Value.agg (tmC r158 s161').toArray)∧((plus L 45) 44=true→(upd g 135 (s176.v)) 134=Value.agg (tmC r158 s173').toArray)∧((plus L 45) 45=true→(upd g 135 (s176.v)) 135=s176'.v)∧((plus L 45) 46=true→(upd g 135 (s176.v)) 136=Value.agg (Term.C (tmN 3 0 s176')).toArray)∧St A N w w210 (zL s147' ([([]:List Int),[0]]) :: LT2) (zg s176' ([(ptM 2 (bA #[120]) [r11]),r158]) :: zg s173' r158.sub :: zg s161' r158.sub :: LT1):=⟨s144,s147,s161,s173,s176,kpU he15,kpU he16,kpU he33,kpU he44,fun _=>upd_same _ _ _,fun h=>absurd (hclo 46 45 (by rw [xl rfl] at h; exact h) zbD) (by rw [hL]; decide),S⟩
  exact w4 trivial (by simp only [pN L 45 15,pN L 45 16,pN L 45 17,pN L 45 33,pN L 45 44,x9 (L:=L) (i:=45),cd2] at hT2 ⊢; exact hT2)
 ·rintro L g v hL hcl hclo hT hv45 hv41
  refine yO (j:=41) (pol:=true) rfl rfl hv41 zbA (by simpa using hg169) ?_
  have hl45:L 45=true:=hcl 45 zbD
  replace hT : ∃ (s144:SlV) (s147:SlV) (s161:SlV) (s173:SlV) (s176:SlV),(L 15=true→g 105=s144.v)∧(L 16=true→g 106=s147.v)∧(L 33=true→g 123=Value.agg (tmC r158 s161).toArray)∧(L 44=true→g 134=Value.agg (tmC r158 s173).toArray)∧(L 45=true→g 135=s176.v)∧(L 46=true→g 136=Value.agg (Term.C (tmN 3 0 s176)).toArray)∧St A N w v (zL s147 ([([]:List Int),[0]]) :: LT2) (zg s176 ([(ptM 2 (bA #[120]) [r11]),r158]) :: zg s173 r158.sub :: zg s161 r158.sub :: LT1):=by simp only [hl45,cd2] at hT ⊢; exact hT
  obtain ⟨s144,s147,s161,s173,s176,he15,he16,he33,he44,he45,he46,S⟩ := hT
  refine wd (Does.to (v' := .agg (Term.C (tmN 3 0 s176)).toArray) (z1 (vs:=[(0,.int .i64 3),(4,s176.v)]) yP (xT rfl (xT (he45 (hcl 45 zbD)) rfl)) (Bld.one rfl rfl (by rw [Term.len]; decide) (Term.set_kind _ _) (Bld.one rfl (SlV.one _ _ rfl) (by rw [Term.len]; decide) (Term.set_sub _ _) Bld.nil))) rfl) ?_
  have hT2 : ∃ (s144':SlV) (s147':SlV) (s161':SlV) (s173':SlV) (s176':SlV),((plus L 46) 15=true→(upd g 136 (Value.agg (Term.C (tmN 3 0 s176)).toArray)) 105=s144'.v)∧((plus L 46) 16=true→(upd g 136 (Value.agg (Term.C (tmN 3 0 s176)).toArray)) 106=s147'.v)∧((plus L 46) 33=true→(upd g 136 (Value.agg (Term.C (tmN 3 0 s176)).toArray)) 123=Value.agg (tmC r158 s161').toArray)∧((plus L 46) 44=true→(upd g 136 (Value.agg (Term.C (tmN 3 0 s176)).toArray)) 134=Value.agg (tmC r158 s173').toArray)∧((plus L 46) 45=true→(upd g 136 (Value.agg (Term.C (tmN 3 0 s176)).toArray)) 135=s176'.v)∧((plus L 46) 46=true→(upd g 136 (Value.agg (Term.C (tmN 3 0 s176)).toArray)) 136=Value.agg (Term.C (tmN 3 0 s176')).toArray)∧St A N w v (zL s147' ([([]:List Int),[0]]) :: LT2) (zg s176' ([(ptM 2 (bA #[120]) [r11]),r158]) :: zg s173' r158.sub :: zg s161' r158.sub :: LT1):=⟨s144,s147,s161,s173,s176,kpU he15,kpU he16,kpU he33,kpU he44,kpU he45,fun _=>upd_same _ _ _,S⟩
  exact w4 trivial (by simp only [pN L 46 15,pN L 46 16,pN L 46 17,pN L 46 33,pN L 46 44,pN L 46 45,hl45,cd2] at hT2 ⊢; exact hT2)
 rintro L g w213 hLm hT hv214_0 hv214_1 hv214_2 hv214_3 hv214_4 hv214_5 hv214_6 hv214_7 hv214_8 hv214_9 hv214_10 hv214_11 hv214_12 hv214_13 hv214_14 _ _ hv214_17 hv214_18 hv214_19 hv214_20 hv214_21 hv214_22 hv214_23 hv214_24 hv214_25 hv214_26 hv214_27 hv214_28 hv214_29 hv214_30 hv214_31 hv214_32 _ hv214_34 hv214_35 hv214_36 hv214_37 hv214_38 hv214_39 hv214_40 hv214_41 hv214_42 hv214_43 _ _ _
 have hLt : ∀ j,j < 47→L j=true:=fun j hj=>by rw [hLm]; exact decide_eq_true hj
 replace hT : ∃ (s144:SlV) (s147:SlV) (s161:SlV) (s173:SlV) (s176:SlV),(L 15=true→g 105=s144.v)∧(L 16=true→g 106=s147.v)∧(L 33=true→g 123=Value.agg (tmC r158 s161).toArray)∧(L 44=true→g 134=Value.agg (tmC r158 s173).toArray)∧(L 45=true→g 135=s176.v)∧(L 46=true→g 136=Value.agg (Term.C (tmN 3 0 s176)).toArray)∧St A N w w213 (zL s147 ([([]:List Int),[0]]) :: LT2) (zg s176 ([(ptM 2 (bA #[120]) [r11]),r158]) :: zg s173 r158.sub :: zg s161 r158.sub :: LT1):=by simp only [hLt 45 zbA,cond_true] at hT ⊢; exact hT
 obtain ⟨s144,s147,s161,s173,s176,he15,he16,he33,he44,he45,he46,S⟩ := hT
 have hv214_15:=he15 (hLt 15 zbA)
 have hv214_16:=he16 (hLt 16 zbA)
 have hv214_33:=he33 (hLt 33 zbA)
 have hv214_44:=he44 (hLt 44 zbA)
 have hv214_45:=he45 (hLt 45 zbA)
 have hv214_46:=he46 (hLt 46 zbA)
 replace S:=S
 obtain ⟨r215,er215,H⟩ := zq H
 refine xU (j:=41) (pol:=true) rfl rfl hv214_41 zbA (fun hg=>zF kR (zK hv214_42 (zK hv214_46 rfl))) zbA (fun hg=>(have ⟨M,SS⟩ := S.lend ((.z 10 rfl (.z 0 rfl .nil))); quiet (zbk (a0:=r68.1) (a1:=(ptN 3 0 [(ptM 2 (bA #[120]) [r11]),r158])) SS (if_t (by simpa using hg) er215)) (fun v w' h=>⟨h.1,_,_,h.2⟩))) fun w216 hw216=>?_
 replace S:=S.ext hw216
 refine wd (zZ hv214_41 (fun hp=>(zp (xz hp)))) (wd (zA rfl) ?_)
 refine wg (fun hg=>zi rfl) ?_
 obtain ⟨r217,er217,H⟩ := zq H
 refine xU (j:=49) (pol:=true) rfl rfl rfl zbA (fun hg=>zF yb (zK (zp hg) rfl)) zbA (fun hg=>(have ⟨M,SS⟩ := S.lend ((.nil)); quiet (yd SS (if_t (by simpa using hg) er217)) (fun v w' h=>⟨h.1,_,_,h.2⟩))) fun w218 hw218=>?_
 replace S:=S.ext hw218
 refine wg (fun hg=>zV (zp hg) rfl) (wd (zZ rfl (fun hp=>(zp (xz hp)))) (wd (zA rfl) ?_))
 refine wg (fun hg=>zA rfl) (wd (zZ rfl (fun hp=>(zp (xz hp)))) (wd (zA rfl) ?_))
 refine wg (fun hg=>zi rfl) ?_
 obtain ⟨r219,er219,H⟩ := zq H
 refine xU (j:=57) (pol:=true) rfl rfl rfl zbA (fun hg=>zF yb (zK (zp hg) rfl)) zbA (fun hg=>(have ⟨M,SS⟩ := S.lend ((.nil)); quiet (yd SS (if_t (by simpa using hg) er219)) (fun v w' h=>⟨h.1,_,_,h.2⟩))) fun w220 hw220=>?_
 replace S:=S.ext hw220
 refine wg (fun hg=>zV (zp hg) rfl) (wd (zZ rfl (fun hp=>(zp (xz hp)))) (wd (zj rfl) (zd (zr ?_))))
 refine ⟨_,(zS (ze rfl)),?_⟩
 replace S:=S.arr [] []
 obtain rfl:=zbE H
 exact ⟨rfl,S⟩
end
section
namespace Gw
open Go.RowKit
end Gw
end
section
open Gw Go.RowKit
set_option maxHeartbeats 4000000
set_option maxRecDepth 20000
theorem law04_Tables_st {A:Nat→Prop} {N:Oth} {w:World} {a0:List Nd} {s_0:SlV} (S:St A N w w [] [fS 4 Nd.C s_0 a0]) {r:Tb × Tb} (H:zdt.f a0=some r) :
  Calls PP F_law04_Tables #[s_0.v] w <| Rt fun v w'=>(∃ ao0:Option Addr,∃ ao1:Option Addr,v = .tuple #[.pointer ao0,.pointer ao1]∧St A N w w' [oT ao0 r.1,oR ao1 r.2] []):=by
 unfold zdt.f at H
 refine zy (n:=20) Tryz.func9 rfl rfl zbC (zb (za ?_))
 replace S:=S.add (Ext.refl _) (oT.nil _) (fun _ x=>x.elim)
 refine wd (zX rfl) ?_
 replace S:=S.add (Ext.refl _) (oR.nil _) (fun _ x=>x.elim)
 refine wd (zX rfl) (zd (zb (za (wd (zP rfl) ?_))))
 obtain ⟨r1,er1,H⟩ := zq H
 obtain ⟨_,_,T,bk⟩ := S.calln 0 ((.z 0 rfl .nil))
 refine zu (zt ca_law03_Both) zbA (law03_Both_st T er1) ?_
 rintro _ w2 ⟨a4,a5,rfl,S2⟩
 replace S:=bk _ _ _ _ S2 rfl
 refine wd (zU rfl) (wd (zn rfl rfl) (wd (zn rfl rfl) (wd (zn rfl rfl) (wd (zX rfl) (wd (zX rfl) ?_)))))
 refine wd (zj rfl) (zd (zb (zb (za (wd (zA rfl) (wd (xg rfl) (zd ?_)))))))
 refine zJ rfl (fun hc6=>?_) (fun hc6=>?_)
 ·replace H:=if_t hc6 H
  refine zb (za ?_)
  obtain ⟨r7,er7,H⟩ := zq H
  obtain ⟨_,_,T,bk⟩ := S.calln 0 ((.nil))
  refine zu (zt j8) zbA (ki T er7) ?_
  rintro _ w8 ⟨a10,rfl,S2⟩
  replace S:=bk _ _ _ _ S2 rfl
  refine wd (vr bu_RTab Bld.nil) ?_
  refine zE rfl zbA fun b12 w11 hw11=>?_
  replace S:St A N w w11 [oR (some ⟨b12,0,none⟩) (some []),oT a10 r7,oT a4 r1.1,oR a5 r1.2.1,oR none none,oT none none] [fS 4 Nd.C s_0 a0]:=((S.nil T_Nd 4 Nd.C).new hw11).shutR rfl
  refine wd (zX rfl) (wd (zX rfl) (zd (zr ?_)))
  refine ⟨_,(xd (ze rfl) (ze rfl)),?_⟩
  replace S:=S.arr [1,0] []
  obtain rfl:=zbE H
  exact ⟨a10,(some ⟨b12,0,none⟩),rfl,S⟩
 replace H:=if_f hc6 H
 refine zx (zb (za (wd (zw rfl) (wd (zw rfl) (wd (zX rfl) (wd (zX rfl) (zd (zr ?_))))))))
 refine ⟨_,(xd (ze rfl) (ze rfl)),?_⟩
 replace S:=S.arr [0,1] []
 obtain rfl:=zbE H
 exact ⟨a4,a5,rfl,S⟩
theorem ref12_Copy_gst {zee:PTerm→Option PTerm} (zdO : ∀ {A:Nat→Prop} {N:Oth} {w:World} {a0:PTerm} {s_0:SlV} (S:St A N w w [] [zg s_0 a0.sub]) {r:PTerm} (H:zee a0=some r),Calls PP jX #[.agg (tmC a0 s_0).toArray] w <| Rt fun v w'=>(∃ so0:SlV,v = .agg (tmC r so0).toArray∧St A N w w' [] [zg so0 r.sub])) {A:Nat→Prop} {N:Oth} {w:World} {a0:PTerm} {s_0:SlV} (S:St A N w w [] [zg s_0 a0.sub]) {k:Nat} {r:PTerm} (H:zdu.g zee k a0=some r) :
  Calls PP jX #[.agg (tmC a0 s_0).toArray] w <| Rt fun v w'=>(∃ so0:SlV,v = .agg (tmC r so0).toArray∧St A N w w' [] [zg so0 r.sub]):=by
 unfold zdu.g at H
 refine zy (n:=26) Tryz.func10 rfl rfl zbC (zb (za ?_))
 refine zE rfl zbA fun b2 w1 hw1=>?_
 replace S:=S.new hw1
 refine zQ xC zbA fun b4 w3 hw3=>?_
 replace S:=S.new hw3
 refine zd (zb (za (wd (ldT rfl (S.blk 1)) ?_)))
 refine zQ xC zbA fun b6 w5 hw5=>?_
 replace S:=S.new hw5
 refine wsT rfl rfl (S.blk 0) fun w7 B hw7 zw7=>?_
 replace S:=S.store 0 B hw7
 refine zd (zb (za (wd (zf zG rfl (o':=4) rfl) ?_)))
 refine yJ zB rfl SlV.nil_eq (S.blk 0) (by rw [Term.len]; decide) (SlV.one _ _ rfl) (Term.set_sub _ _) fun w8 B hw8 zw8=>?_
 replace S:=S.store 0 B hw8
 refine zd (zb (zb (za (wd (zh rfl) (zd ?_)))))
 replace S:=((S.nil zo 5 Term.C).bigTm).nil zo 5 Term.C
 replace S:=S.bigTm
 obtain ⟨o9,e9,Ho9⟩ := zq H
 clear H
 refine xV ([4] ++ rg 7 18) (fun fr W => ∃ s9:Int × PTerm,o9 = .inl s9 ∧ ∃ s10:SlV,∃ m11:List Term,fr 4 = .int .i64 s9.1∧St A N w W [oS zo 5 Term.C SlV.nil ([]:List Term),oS zo 5 Term.C s10 m11,oB b6 zo (tmC s9.2 s10),oB b4 zo (Term.C tmZ),oB b2 zo (tmC a0 s_0)] [bigA xx ([]:List Term) ([]:List PTerm),bigA xx m11 s9.2.sub,zg s_0 a0.sub]) ?_ ?_
 ·refine zO ?_
  refine xR (α:=Nat × (Int × PTerm)) ([4] ++ rg 7 18) (fun x fr W=>iter (fun s=>zdu.b0 a0 zee s.1 s.2) x.1 x.2=some o9 ∧ ∃ s12:SlV,∃ m13:List Term,fr 4 = .int .i64 (x.2.1)∧St A N w W [oS zo 5 Term.C SlV.nil ([]:List Term),oS zo 5 Term.C s12 m13,oB b6 zo (tmC (x.2.2) s12),oB b4 zo (Term.C tmZ),oB b2 zo (tmC a0 s_0)] [bigA xx ([]:List Term) ([]:List PTerm),bigA xx m13 (x.2.2).sub,zg s_0 a0.sub]) (fun x=>x.1) (k,(0,(⟨a0.kind,a0.name,a0.other,a0.form,([]:List PTerm)⟩ : PTerm))) ⟨(by dsimp only; exact e9),SlV.nil,([]:List Term),rfl,S⟩ ?_
  rintro ⟨m9,⟨x9_0,x9_1⟩⟩ g9 u9 ⟨e9,s14,m15,q9_4,S⟩
  try dsimp only at e9
  try dsimp only at S
  try dsimp only at q9_4
  obtain ⟨m9,rfl⟩ : ∃ m,m9=m + 1:=⟨m9 - 1,by cases m9 with | zero=>cases e9 | succ m=>rfl⟩
  obtain ⟨q9,H,e9⟩ := iter_s e9
  unfold zdu.b0 at H
  try dsimp only at H
  refine zb (zb (za (wd (zi q9_4) (wd (zf zG rfl (o':=4) rfl) (wd (zl zB rfl ((S.blk 4).cell (Term.get_sub _))) (wd (does_lenF zz rfl (S.onZ 2)) (wd (xy rfl rfl) (zd ?_))))))))
  refine zJ rfl (fun hc16=>?_) (fun hc16=>?_)
  rotate_left
  ·replace H:=if_f hc16 H
   refine x0 ?_
   obtain rfl:=zbE H
   exact ⟨rfl,df,(x9_0,x9_1),e9,s14,m15,q9_4,S⟩
  replace H:=if_t hc16 H
  refine zx (zb ?_)
  refine zO ?_
  obtain ⟨hi17,H⟩ := xb H
  obtain ⟨r19,er19,H⟩ := zq H
  obtain ⟨s18,S⟩ := S.viewTermC 2 (zM hi17)
  replace S:=S.zs [2,3,4,0,1]
  let LT1:List OA:=[bigA xx ([]:List Term) ([]:List PTerm),bigA xx m15 x9_1.sub,zg s_0 a0.sub,oCl s_0.blk (s_0.off + Int.toNat x9_0 * 5) (tmC (kd a0 x9_0) s18),zg s18 ((kd a0 x9_0).sub)]
  let LT2:List OA:=[oS zo 5 Term.C SlV.nil ([]:List Term),oS zo 5 Term.C s14 m15,oB b6 zo (tmC x9_1 s14),oB b4 zo (Term.C tmZ),oB b2 zo (tmC a0 s_0)]
  refine vh 9 ⟨fun _ _=>True,fun _ _ _=>True,fun i v _=>match i with
   | 0=>v=Value.pointer (some ⟨b6,4,none⟩)
   | 1=>v=s14.v
   | 2=>v=Value.pointer (some ⟨b2,4,none⟩)
   | 3=>v=s_0.v
   | 4=>v=Value.int .i64 x9_0
   | 5=>v=Value.pointer (some ⟨s_0.blk,s_0.off + Int.toNat x9_0 * 5,none⟩)
   | 6=>v=Value.agg (tmC (kd a0 x9_0) s18).toArray
   | _=>True⟩ (fun L g v=>bif L 8 then (∃ (s22:SlV) (s25:SlV),(L 7=true→g 21=Value.agg (tmC r19 s22).toArray)∧(L 8=true→g 22=s25.v)∧St A N w v (oS zo 5 Term.C s25 ([(tmT r19 s22)]) :: LT2) (zg s22 r19.sub :: LT1)) else bif L 7 then (∃ (s22:SlV),(L 7=true→g 21=Value.agg (tmC r19 s22).toArray)∧St A N w v LT2 (zg s22 r19.sub :: LT1)) else (St A N w v LT2 LT1)) hmix zbD (fun _ _ _ _ _ _ _ hv=>hv) (fun g=>S.ext (Ext.drawn _)) ⟨?_,?_,?_,?_,?_,?_,?_,?_,?_,trivial⟩ ?_
  ·rintro L g v hL hcl hclo hT 
   cases hl8:L 8 with
   | true =>
    replace hT : ∃ (s22:SlV) (s25:SlV),(L 7=true→g 21=Value.agg (tmC r19 s22).toArray)∧(L 8=true→g 22=s25.v)∧St A N w v (oS zo 5 Term.C s25 ([(tmT r19 s22)]) :: LT2) (zg s22 r19.sub :: LT1):=by simp only [hl8,cd2] at hT ⊢; exact hT
    obtain ⟨s22,s25,he7,he8,S⟩ := hT
    refine wd (zf zG rfl (o':=4) rfl) ?_
    have hT2 : ∃ (s22':SlV) (s25':SlV),((plus L 0) 7=true→(upd g 14 (Value.pointer (some ⟨b6,4,none⟩))) 21=Value.agg (tmC r19 s22').toArray)∧((plus L 0) 8=true→(upd g 14 (Value.pointer (some ⟨b6,4,none⟩))) 22=s25'.v)∧St A N w v (oS zo 5 Term.C s25' ([(tmT r19 s22')]) :: LT2) (zg s22' r19.sub :: LT1):=⟨s22,s25,kpU he7,kpU he8,S⟩
    exact w4 rfl (by simp only [pN L 0 7,pN L 0 8,hl8,cd2] at hT2 ⊢; exact hT2)
   | false =>
    cases hl7:L 7 with
    | true =>
     replace hT : ∃ (s22:SlV),(L 7=true→g 21=Value.agg (tmC r19 s22).toArray)∧St A N w v LT2 (zg s22 r19.sub :: LT1):=by simp only [hl7,hl8,cd2] at hT ⊢; exact hT
     obtain ⟨s22,he7,S⟩ := hT
     refine wd (zf zG rfl (o':=4) rfl) ?_
     have hT2 : ∃ (s22':SlV),((plus L 0) 7=true→(upd g 14 (Value.pointer (some ⟨b6,4,none⟩))) 21=Value.agg (tmC r19 s22').toArray)∧St A N w v LT2 (zg s22' r19.sub :: LT1):=⟨s22,kpU he7,S⟩
     exact w4 rfl (by simp only [pN L 0 7,pN L 0 8,hl7,hl8,cd2] at hT2 ⊢; exact hT2)
    | false =>
     simp only [hl7,hl8,cd2] at hT
     replace S:=hT
     refine wd (zf zG rfl (o':=4) rfl) ?_
     exact w4 rfl (by simp only [pN L 0 7,pN L 0 8,hl7,hl8,cd2]; exact S)
  ·rintro L g v hL hcl hclo hT hv0
   cases hl8:L 8 with
   | true =>
    replace hT : ∃ (s22:SlV) (s25:SlV),(L 7=true→g 21=Value.agg (tmC r19 s22).toArray)∧(L 8=true→g 22=s25.v)∧St A N w v (oS zo 5 Term.C s25 ([(tmT r19 s22)]) :: LT2) (zg s22 r19.sub :: LT1):=by simp only [hl8,cd2] at hT ⊢; exact hT
    obtain ⟨s22,s25,he7,he8,S⟩ := hT
    refine wd (zl zB hv0 ((S.blk 3).cell (Term.get_sub _))) ?_
    have hT2 : ∃ (s22':SlV) (s25':SlV),((plus L 1) 7=true→(upd g 15 (s14.v)) 21=Value.agg (tmC r19 s22').toArray)∧((plus L 1) 8=true→(upd g 15 (s14.v)) 22=s25'.v)∧St A N w v (oS zo 5 Term.C s25' ([(tmT r19 s22')]) :: LT2) (zg s22' r19.sub :: LT1):=⟨s22,s25,kpU he7,kpU he8,S⟩
    exact w4 rfl (by simp only [pN L 1 7,pN L 1 8,hl8,cd2] at hT2 ⊢; exact hT2)
   | false =>
    cases hl7:L 7 with
    | true =>
     replace hT : ∃ (s22:SlV),(L 7=true→g 21=Value.agg (tmC r19 s22).toArray)∧St A N w v LT2 (zg s22 r19.sub :: LT1):=by simp only [hl7,hl8,cd2] at hT ⊢; exact hT
     obtain ⟨s22,he7,S⟩ := hT
     refine wd (zl zB hv0 ((S.blk 2).cell (Term.get_sub _))) ?_
     have hT2 : ∃ (s22':SlV),((plus L 1) 7=true→(upd g 15 (s14.v)) 21=Value.agg (tmC r19 s22').toArray)∧St A N w v LT2 (zg s22' r19.sub :: LT1):=⟨s22,kpU he7,S⟩
     exact w4 rfl (by simp only [pN L 1 7,pN L 1 8,hl7,hl8,cd2] at hT2 ⊢; exact hT2)
    | false =>
     simp only [hl7,hl8,cd2] at hT
     replace S:=hT
     refine wd (zl zB hv0 ((S.blk 2).cell (Term.get_sub _))) ?_
     exact w4 rfl (by simp only [pN L 1 7,pN L 1 8,hl7,hl8,cd2]; exact S)
  ·rintro L g v hL hcl hclo hT 
   have hl7:=clF hL (hclo 7 2 · zbD)
   have hl8:=clF hL (hclo 8 2 · zbD)
   simp only [hl7,hl8,cd2] at hT
   replace S:=hT
   refine wd (zf zG rfl (o':=4) rfl) ?_
   exact w4 rfl (by simp only [pN L 2 7,pN L 2 8,hl7,hl8,cd2]; exact S)
  ·rintro L g v hL hcl hclo hT hv2
   have hl7:=clF hL (hclo 7 3 · zbD)
   have hl8:=clF hL (hclo 8 3 · zbD)
   simp only [hl7,hl8,cd2] at hT
   replace S:=hT
   refine wd (zl zB hv2 ((S.blk 4).cell (Term.get_sub _))) ?_
   exact w4 rfl (by simp only [pN L 3 7,pN L 3 8,hl7,hl8,cd2]; exact S)
  ·rintro L g v hL hcl hclo hT 
   have hl7:=clF hL (hclo 7 4 · zbD)
   have hl8:=clF hL (hclo 8 4 · zbD)
   simp only [hl7,hl8,cd2] at hT
   replace S:=hT
   refine wd (zi q9_4) ?_
   exact w4 rfl (by simp only [pN L 4 7,pN L 4 8,hl7,hl8,cd2]; exact S)
  ·rintro L g v hL hcl hclo hT hv3 hv4
   have hl7:=clF hL (hclo 7 5 · zbD)
   have hl8:=clF hL (hclo 8 5 · zbD)
   simp only [hl7,hl8,cd2] at hT
   replace S:=hT
   refine wd (does_indexF zz hv3 hv4 (S.onZ 2) (zM hi17).1 (zM hi17).2) ?_
   exact w4 rfl (by simp only [pN L 5 7,pN L 5 8,hl7,hl8,cd2]; exact S)
  ·rintro L g v hL hcl hclo hT hv5
   have hl7:=clF hL (hclo 7 6 · zbD)
   have hl8:=clF hL (hclo 8 6 · zbD)
   simp only [hl7,hl8,cd2] at hT
   replace S:=hT
   refine wd (zm zR hv5 (S.cl 3) (Term.len _)) ?_
   exact w4 rfl (by simp only [pN L 6 7,pN L 6 8,hl7,hl8,cd2]; exact S)
  ·rintro L g v hL hcl hclo hT hv6
   have hl7:L 7=false:=hL
   have hl8:=clF hL (hclo 8 7 · zbD)
   simp only [hl7,hl8,cd2] at hT
   replace S:=hT
   obtain ⟨_,_,T,bk⟩ := S.sub [4] [] LT2
   refine zu (zF vE (zK hv6 rfl)) zbA (zdO (a0:=(kd a0 x9_0)) T er19) ?_
   rintro _ w28 ⟨s22,rfl,S2⟩
   replace S:=bk _ _ _ _ _ S2 rfl rfl
   have hT2 : ∃ (s22':SlV),((plus L 7) 7=true→(upd g 21 (Value.agg (tmC r19 s22).toArray)) 21=Value.agg (tmC r19 s22').toArray)∧St A N w w28 LT2 (zg s22' r19.sub :: LT1):=⟨s22,fun _=>upd_same _ _ _,S⟩
   exact w4 trivial (by simp only [pN L 7 8,x9 (L:=L) (i:=7),hl8,cd2] at hT2 ⊢; exact hT2)
  ·rintro L g v hL hcl hclo hT hv7
   have hl7:L 7=true:=hcl 7 zbD
   have hl8:L 8=false:=hL
   replace hT : ∃ (s22:SlV),(L 7=true→g 21=Value.agg (tmC r19 s22).toArray)∧St A N w v LT2 (zg s22 r19.sub :: LT1):=by simp only [hl7,hl8,cd2] at hT ⊢; exact hT
   obtain ⟨s22,he7,S⟩ := hT
   refine vD (C:=Term.C) (l:=[(tmT r19 s22)]) (vs:=[.agg (tmC r19 s22).toArray]) zz jp.zero (xT (he7 (hcl 7 zbD)) rfl) rfl (fun a _=>Term.len a) zbA rfl zbA fun b31 w30 s25 hBw30 hw30=>?_
   replace S:=S.lit hBw30 hw30 zbC
   have hT2 : ∃ (s22':SlV) (s25':SlV),((plus L 8) 7=true→(upd g 22 (s25.v)) 21=Value.agg (tmC r19 s22').toArray)∧((plus L 8) 8=true→(upd g 22 (s25.v)) 22=s25'.v)∧St A N w w30 (oS zo 5 Term.C s25' ([(tmT r19 s22')]) :: LT2) (zg s22' r19.sub :: LT1):=⟨s22,s25,kpU he7,fun _=>upd_same _ _ _,S⟩
   exact w4 trivial (by simp only [pN L 8 7,x9 (L:=L) (i:=8),cd2] at hT2 ⊢; exact hT2)
  rintro L g w33 hLm hT hv34_0 hv34_1 hv34_2 hv34_3 hv34_4 hv34_5 hv34_6 _ _
  have hLt : ∀ j,j < 9→L j=true:=fun j hj=>by rw [hLm]; exact decide_eq_true hj
  replace hT : ∃ (s22:SlV) (s25:SlV),(L 7=true→g 21=Value.agg (tmC r19 s22).toArray)∧(L 8=true→g 22=s25.v)∧St A N w w33 (oS zo 5 Term.C s25 ([(tmT r19 s22)]) :: LT2) (zg s22 r19.sub :: LT1):=by simp only [hLt 8 zbA,cond_true] at hT ⊢; exact hT
  obtain ⟨s22,s25,he7,he8,S⟩ := hT
  have hv34_7:=he7 (hLt 7 zbA)
  have hv34_8:=he8 (hLt 8 zbA)
  replace S:=S
  obtain ⟨ha37,H⟩ := xb H
  have ha37:=of_decide_eq_true ha37
  have hmha37:((m15).length + ([(tmT r19 s22)]).length) * 72 ≤ 140737488355328:=by rw [S.lenTm 2 (l:=x9_1.sub)]; exact ha37
  refine wl_appends (C:=Term.C) zz jp hv34_1 hv34_8 (S.sl 2) (S.rdO 0) zbC (fun a _=>Term.one a) hmha37 zbB zbA fun s36 w35 O hw35 gw35=>?_
  replace S:=S.push 2 O (by first | (simp; done) | (simp; omega) | (simp only [List.length_append]; omega)) hw35 gw35
  clear O
  replace S:=S.snocTm (x:=r19) 2 0
  refine wd (zf zG rfl (o':=4) rfl) ?_
  refine yJ zB rfl rfl (S.blk 3) (by rw [Term.len]; decide) (SlV.one _ _ rfl) (Term.set_sub _ _) fun w38 B hw38 zw38=>?_
  replace S:=S.store 3 B hw38
  refine zd (za (wd (zi q9_4) (wd (vQ rfl rfl) (wd (zh rfl) (zd ?_)))))
  replace S:=S.arr [3,1,0,4,5] [2,0,4]
  obtain rfl:=zbE H
  exact ⟨rfl,df,(m9,(IntKind.i64.wrap (x9_0 + 1),(⟨x9_1.kind,x9_1.name,x9_1.other,x9_1.form,x9_1.sub ++ [r19]⟩ : PTerm))),⟨e9,s36,m15 ++ [(tmT r19 s22)],rfl,S⟩,by dsimp only; omega⟩
 rintro g39 u40 ⟨s9,rfl,s10,m11,p9_4,S⟩
 have H:=Ho9
 dsimp only [aft] at H
 refine zb (za ?_)
 replace S:=S.frzTm 1 1
 refine wd (ldT rfl (S.blk 1)) ?_
 refine wsT rfl rfl (S.blk 2) fun w41 B hw41 zw41=>?_
 replace S:=S.store 2 B hw41
 refine zd (zr ?_)
 refine ⟨_,(zS (rtT rfl (S.blk 0))),?_⟩
 replace S:=S.arr [] [0]
 obtain rfl:=zbE H
 exact ⟨s10,rfl,S⟩
theorem um {A:Nat→Prop} {N:Oth} {w:World} {a0:PTerm} {s_0:SlV} (S:St A N w w [] [zg s_0 a0.sub]) {k:Nat} {r:PTerm} (H:zdu.f k a0=some r) :
  Calls PP jX #[.agg (tmC a0 s_0).toArray] w <| Rt fun v w'=>(∃ so0:SlV,v = .agg (tmC r so0).toArray∧St A N w w' [] [zg so0 r.sub]):=by
 have main : ∀ (k:Nat) {A:Nat→Prop} {N:Oth} {w:World} {a0:PTerm} {s_0:SlV} (S:St A N w w [] [zg s_0 a0.sub]) {r:PTerm} (H:zdu.f k a0=some r),Calls PP jX #[.agg (tmC a0 s_0).toArray] w <| Rt fun v w'=>(∃ so0:SlV,v = .agg (tmC r so0).toArray∧St A N w w' [] [zg so0 r.sub]):=by
  intro k
  induction k with
  | zero=>intro A N w a0 s_0 S r H; cases H
  | succ k ih=>intro A N w a0 s_0 S r H; exact ref12_Copy_gst ih S H
 exact main k S H
end
section
open Gw Go.RowKit
set_option maxHeartbeats 4000000
set_option maxRecDepth 20000
theorem types_at_st {A:Nat→Prop} {N:Oth} {w:World} {a0:Int} {a1:Option (Int × List Int)} {v_1:Value} (S:St A N w w [oE v_1 a1] [oEt]) {r:(Option (Int × List Int))} (H:zdv.f a0 a1=some r) :
  Calls PP F_types_at #[.int .i64 a0,v_1] w fun e w' => ∃ v,e = .returned v∧(∃ vo0:Value,v=vo0∧St A N w w' [oE vo0 r] []):=by
 unfold zdv.f at H
 refine zy (n:=20) Tryz.func156 rfl rfl zbC ?_
 rcases a1 with _ | ⟨c0,up0⟩
 ·obtain rfl:=S.seeE 0
  replace S:=S
  refine zb (za (wd (zI rfl) (zd (zb (za ?_)))))
  refine zQ uH zbA fun b2 w1 hw1=>?_
  replace S:=S.new hw1
  refine zd (zb (zb (za (wd (z7 rfl) (wd (does_mkIface zbD rfl) ?_)))))
  refine zu (zF zax (zK rfl (zK rfl rfl))) zbA (errors_As_no _ _) ?_
  rintro _ w3 ⟨rfl,hx⟩
  replace S:=S.ext hx
  clear hx
  refine zd ?_
  refine ku rfl (zx (zb (za (wd (z7 rfl) (wd (zI rfl) (zd (zr ?_)))))))
  refine ⟨_,(zS (ze rfl)),?_⟩
  replace S:=S.arr [1] []
  obtain rfl:=zbE H
  exact ⟨.nilIface,rfl,S⟩
 ·obtain ⟨b0,s0,rfl,S⟩ := S.openE 0
  replace S:=S
  refine zb (za (wd (zI rfl) (zd (zb (za ?_)))))
  refine zQ uH zbA fun b6 w5 hw5=>?_
  replace S:=S.new hw5
  refine zd (zb (zb (za (wd (z7 rfl) (wd (does_mkIface zbD rfl) ?_)))))
  refine zu (zF zax (zK rfl (zK rfl rfl))) zbA (errors_As_yes _ (S.et 0) (S.blk 0)) ?_
  rintro _ w7 ⟨rfl,hc,hb⟩
  replace S:=S.store 0 hb hc
  clear hc hb
  refine zd ?_
  refine uV rfl ?_
  obtain ⟨ha9,H⟩ := xb H
  have ha9:=of_decide_eq_true ha9
  have hSO:=S.sl 2
  have hSlt:=hSO.lt
  have SH : ∀ v,Chg s0.fp w7 v→St A (N.or s0.fp) w v [oB b6 T_P_types_refusal [.pointer (some ⟨b0,0,none⟩)],oB b0 zaA (Refusal.C (⟨c0,s0⟩ : Refusal))] [oEt]:=fun v hc=>S.away 2 (hc:=hc)
  refine wc_draw 8 ⟨fun L v=>Chg s0.fp w7 v∧(L 7=false→Ext w7 v),fun L a b=>Chg s0.fp a b∧(L 7=true→Ext a b),fun i v u=>match i with
   | 0=>v=Value.pointer (some ⟨b0,0,none⟩)
   | 1=>v=Value.pointer (some ⟨b0,0,none⟩)
   | 2=>v=Value.pointer (some ⟨b0,0,none⟩)
   | 3=>v=Value.pointer (some ⟨b0,1,none⟩)
   | 4=>v=s0.v
   | 5=>v=Value.int .i64 a0
   | 6 => ∃ b sl,v=SlV.v sl∧sl=⟨some ⟨b,0,none⟩,1,1⟩ ∧ Blk u b xh (IC a0)∧¬ s0.fp b
   | 7 => ∃ s',v=SlV.v s'∧Own u 0 xh 1 s' ((up0 ++ [a0]).map IC) ∧ ∀ i,s'.fp i→s0.fp i∨w7.heap.size ≤ i
   | _=>True⟩ hmix zbD ?_ ⟨(Ext.drawn _).mono (fun _ _ x=>x.elim),fun _=>Ext.drawn _⟩ ⟨?_,?_,?_,?_,?_,?_,?_,?_,trivial⟩ ?_
  ·intro L i v a b hLi hle hv
   match i,hLi,hv with
   | 0,_,hv=>exact hv
   | 1,_,hv=>exact hv
   | 2,_,hv=>exact hv
   | 3,_,hv=>exact hv
   | 4,_,hv=>exact hv
   | 5,_,hv=>exact hv
   | 6,_,⟨b,sl,e1,e2,hb,hn⟩ => exact ⟨b,sl,e1,e2,hb.chg hle.1 hn,hn⟩
   | 7,hLi,⟨s',e1,ho,hg⟩ => exact ⟨s',e1,ho.ext (hle.2 hLi),hg⟩
   | _ + 8,_,_=>exact trivial
  ·rintro L g v hL hT 
   refine wd (zl vS rfl (((SH v hT.1).blk 0).cell rfl)) (zd (ob ⟨hT.1,fun h=>hT.2 h⟩ ⟨Chg.refl _ _,fun _=>Ext.refl _⟩ rfl))
  ·rintro L g v hL hT 
   refine wd (zl vS rfl (((SH v hT.1).blk 0).cell rfl)) (zd (ob ⟨hT.1,fun h=>hT.2 h⟩ ⟨Chg.refl _ _,fun _=>Ext.refl _⟩ rfl))
  ·rintro L g v hL hT hv1
   refine wd (zW hv1) (zd (ob ⟨hT.1,fun h=>hT.2 h⟩ ⟨Chg.refl _ _,fun _=>Ext.refl _⟩ rfl))
  ·rintro L g v hL hT hv2
   refine wd (zf kg hv2 (o':=1) rfl) (zd (ob ⟨hT.1,fun h=>hT.2 h⟩ ⟨Chg.refl _ _,fun _=>Ext.refl _⟩ rfl))
  ·rintro L g v hL hT hv3
   refine wd (zl kk hv3 (((SH v hT.1).blk 1).cell (Refusal.get_up_ _))) (zd (ob ⟨hT.1,fun h=>hT.2 h⟩ ⟨Chg.refl _ _,fun _=>Ext.refl _⟩ rfl))
  ·rintro L g v hL hT 
   refine wd (zi rfl) (zd (ob ⟨hT.1,fun h=>hT.2 h⟩ ⟨Chg.refl _ _,fun _=>Ext.refl _⟩ rfl))
  ·rintro L g v hL hT hv5
   refine wl_lit1 xI zao.zero hv5 rfl rfl zbA zbA fun b v' sl hn hq=>zd (ob ⟨hT.1.thenExt hn.ext,fun h=>(hT.2 h).trans hn.ext⟩ ⟨hn.ext.mono (fun _ _ x=>x.elim),fun _=>hn.ext⟩ ⟨b,sl,rfl,hq,hn.blk,fun e=>by have:=hSlt _ e; have:=hn.at_; have:=hT.1.size; omega⟩)
  ·rintro L g v hL hT hv4 ⟨b,sl,hv6,hq,hb,hnb⟩
   refine wl_push (C:=IC) xI zao hv4 hv6 (hSO.ext (hT.2 hL)) hb hq rfl (fun v hv=>by rw [List.mem_singleton.1 hv]; rfl) ha9 zbB zbA fun s' v' ho hc hg=>zd (ob ⟨hT.1.trans hc,fun h=>(by cases h)⟩ ⟨hc,fun h=>(by rw [hL] at h; cases h)⟩ ⟨s',rfl,ho,fun i e=>(hg i e).imp id (fun h=>Nat.le_trans hT.1.size h)⟩)
  rintro L g w10 hLm hT hv12_0 hv12_1 hv12_2 hv12_3 hv12_4 hv12_5 ⟨b,sl,hv12_6,hq,hb,hnb⟩ ⟨s11,hv12_7,O,gO⟩
  replace S:=S.push 2 O (by rw [List.length_append,List.length_singleton]; omega) hT.1 gO
  clear O gO SH hSO hSlt
  refine wd (zW hv12_0) (wd (zf kg rfl (o':=1) rfl) ?_)
  refine yJ kk rfl hv12_7 (S.blk 2) (by rw [Refusal.len]; decide) (SlV.one _ _ rfl) (Refusal.set_up_ _ _) fun w13 B hw13 zw13=>?_
  replace S:=S.store 2 B hw13
  clear B
  refine zd (zb (za (wd (z7 rfl) (wd (zI rfl) (zd (zr ?_))))))
  replace S:=((S.front 1).front 1).mkE
  refine ⟨_,(zS (ze rfl)),?_⟩
  replace S:=S.arr [0] []
  obtain rfl:=zbE H
  exact ⟨(.iface xS (.pointer (some ⟨b0,0,none⟩))),rfl,S⟩
theorem types_code_st {A:Nat→Prop} {N:Oth} {w:World} {a0:Option (Int × List Int)} {v_0:Value} (S:St A N w w [oE v_0 a0] [oEt]) {r:List Int × Int} (H:zdw.f a0=some r) :
  Calls PP F_types_code #[v_0] w fun e w' => ∃ v,e = .returned v∧(∃ so0:SlV,v = .tuple #[so0.v,.int .i64 r.2]∧St A N w w' [oS xh 1 IC so0 r.1] []):=by
 unfold zdw.f at H
 refine zy (n:=22) Tryz.func62 rfl rfl zbC ?_
 rcases a0 with _ | ⟨c0,up0⟩
 ·obtain rfl:=S.seeE 0
  replace S:=S
  refine zb (za (wd (x7) (wd (zh rfl) (zd (zb (za ?_))))))
  refine zQ uH zbA fun b2 w1 hw1=>?_
  replace S:=S.new hw1
  refine zd (zb (zb (za (wd (z7 rfl) (wd (does_mkIface zbD rfl) ?_)))))
  refine zu (zF zax (zK rfl (zK rfl rfl))) zbA (errors_As_no _ _) ?_
  rintro _ w3 ⟨rfl,hx⟩
  replace S:=S.ext hx
  clear hx
  refine wd (xg rfl) (zd ?_)
  refine uV rfl (zb (za (wd (x7) (wd (zh rfl) (zd (zr ?_))))))
  replace S:=S.nil xh 1 IC
  refine ⟨_,(xd (ze rfl) (ze rfl)),?_⟩
  replace S:=S.arr [0] []
  obtain rfl:=zbE H
  exact ⟨SlV.nil,rfl,S⟩
 ·obtain ⟨b0,s0,rfl,S⟩ := S.openE 0
  replace S:=S
  refine zb (za (wd (x7) (wd (zh rfl) (zd (zb (za ?_))))))
  refine zQ uH zbA fun b6 w5 hw5=>?_
  replace S:=S.new hw5
  refine zd (zb (zb (za (wd (z7 rfl) (wd (does_mkIface zbD rfl) ?_)))))
  refine zu (zF zax (zK rfl (zK rfl rfl))) zbA (errors_As_yes _ (S.et 0) (S.blk 0)) ?_
  rintro _ w7 ⟨rfl,hc,hb⟩
  replace S:=S.store 0 hb hc
  clear hc hb
  refine wd (xg rfl) (zd ?_)
  refine ku rfl (zx (zb (za (wd (zl vS rfl ((S.blk 0).cell rfl)) (wd (zW rfl) (wd (zf kg rfl (o':=1) rfl) ?_))))))
  refine wd (zl kk rfl ((S.blk 1).cell (Refusal.get_up_ _))) ?_
  obtain ⟨r9,er9,H⟩ := zq H
  replace S:=S.front 2
  obtain ⟨B11,MB11,SB11,back⟩ := S.calln 1 ((.nil))
  refine zu (zt zaU) zbA (zaW SB11 er9) ?_
  rintro _ w10 ⟨rfl,S2⟩
  replace S:=back _ _ _ _ S2 rfl
  clear back S2 SB11
  refine zd (zb ?_)
  refine yt 9 (Ext w10) hmix zbD zbD (Ext.drawn _) (zD (fun v K=>zl vS rfl (((S.ext K).blk 1).cell rfl)) (zD (fun v K=>zW rfl) (zD (fun v K=>zf kg rfl (o':=1) rfl) (zD (fun v K=>zl kk rfl (((S.ext K).blk 2).cell (Refusal.get_up_ _))) (zD (fun v K=>zl vS rfl (((S.ext K).blk 1).cell rfl)) ?_)))))
  refine zD (fun v K=>zW rfl) (zD (fun v K=>zf fl_Refusal_code rfl (o':=0) rfl) (zD (fun v K=>zl on_api_Errno rfl (((S.ext K).blk 2).cell (Refusal.get_code _))) (zD (fun v K=>y4 rfl) ?_)))
  refine vY fun w12 K=>?_
  replace S:=S.ext K
  clear K
  refine wd (zh rfl) (zd (zr ?_))
  refine ⟨_,(xd (ze rfl) (ze rfl)),?_⟩
  replace S:=S.arr [0] []
  obtain rfl:=zbE H
  exact ⟨s0,rfl,S⟩
end
end Go.Proofs.YtmggdbbmmkkplaaGreatDoor
