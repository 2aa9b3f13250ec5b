/- Texts put together. -/
import Derived.Test.YtmggdbbmmkkplaaGreatDoorMRKeeps2
set_option linter.unusedVariables false
set_option linter.unusedSimpArgs false
namespace Go.Proofs.YtmggdbbmmkkplaaGreatDoor
section
open Gw Go.RowKit
set_option maxHeartbeats 4000000
set_option maxRecDepth 20000
variable {A:Nat→Prop} {N:Oth} {w:World}
theorem kS {a0:PTerm} {s_0:SlV} {a1:Int} (S:St A N w w [] [zg s_0 a0.sub]) {r:PTerm} (H:zce.f a0 a1=some r) :
  Calls PP F_reduce_the #[.agg (tmC a0 s_0).toArray,.int .i64 a1] w <| Rt fun v w'=>(∃ so0:SlV,v = .agg (tmC r so0).toArray∧St A N w w' [] [zg so0 r.sub]):=by
 unfold zce.f at H
 refine zy (n:=9) Tryz.func110 rfl rfl zbC (zb (za ?_))
 refine zE rfl zbA fun b2 w1 hw1=>?_
 replace S:=S.new hw1
 refine zQ xC zbA fun b4 w3 hw3=>?_
 replace S:=S.new hw3
 refine zd (zb (za (wd (zi rfl) (wd (ldT rfl (S.blk 1)) ?_))))
 refine vD (C:=Term.C) (l:=[(tmT a0 s_0)]) (vs:=[.agg (tmC a0 s_0).toArray]) zz jp.zero rfl rfl (fun a _=>Term.len a) zbA rfl zbA fun b6 w5 s7 hBw5 hw5=>?_
 replace S:=((S.lit hBw5 hw5 zbC).bigTm).consTm (x:=a0) 0
 replace S:=(S.frzTm 0 0).zs [0,2]
 refine wd (Does.to (v' := .agg (Term.C (tmN 11 a1 s7)).toArray) (z1 (vs:=[(0,.int .i64 11),(3,.int .i64 a1),(4,s7.v)]) yP (xT rfl (xT rfl (xT rfl rfl))) (Bld.one rfl rfl (by rw [Term.len]; decide) (Term.set_kind _ _) (Bld.one rfl rfl (by rw [Term.len]; decide) (Term.set_form _ _) (Bld.one rfl (SlV.one _ _ rfl) (by rw [Term.len]; decide) (Term.set_sub _ _) Bld.nil)))) rfl) ?_
 refine wsT rfl rfl (S.blk 0) fun w8 B hw8 zw8=>?_
 replace S:=S.store 0 B hw8
 refine zd (zr ?_)
 refine ⟨_,(zS (rtT rfl (S.blk 0))),?_⟩
 replace S:=S.arr [] [0]
 obtain rfl:=zbE H
 exact ⟨s7,rfl,S⟩
theorem y6 {a0:PTerm} {s_0:SlV} {a1:Int} (S:St A N w w [] [zg s_0 a0.sub]) {r:Bool} (H:zcf.f a0 a1=some r) :
  Calls PP F_reduce_headed #[.agg (tmC a0 s_0).toArray,.int .i64 a1] w <| Rt fun v w'=>(v = .bool r∧St A N w w' [] []):=by
 unfold zcf.f at H
 refine zy (n:=18) Tryz.func104 rfl rfl zbC (zb (za ?_))
 refine zE rfl zbA fun b2 w1 hw1=>?_
 replace S:=S.new hw1
 refine wd (zj rfl) (zd (zb (za (wd (zf zG rfl (o':=4) rfl) (wd (zl zB rfl ((S.blk 0).cell (Term.get_sub _))) (wd (does_lenF zz rfl (S.onZ 0)) ?_))))))
 refine wd (zaz rfl rfl) (wd (zA rfl) ?_)
 refine wg (fun hg=>zf zG rfl (o':=4) rfl) ?_
 refine wg (fun hg=>zl zB (zp hg) ((S.blk 0).cell (Term.get_sub _))) ?_
 obtain ⟨hi3,H⟩ := chk_g H
 refine wg (fun hg=>does_indexF zz (zp hg) rfl (S.onZ 0) (zM (hi3 (by simpa using hg))).1 (zM (hi3 (by simpa using hg))).2) ?_
 refine wg (fun hg=>zf xj (zp hg) (o':=_) rfl) ?_
 refine wg (fun hg=>zl zY (zp hg) (vd.get_kind (S.onZ 0) (zM (hi3 (by simpa using hg))))) ?_
 refine wg (fun hg=>zi rfl) ?_
 refine wg (fun hg=>zV (zp hg) (zp hg)) (wd (zZ rfl (fun hp=>(zp (xz hp)))) (wd (zj rfl) (zd (zr ?_))))
 refine ⟨_,(zS (ze rfl)),?_⟩
 replace S:=S.arr [] []
 obtain rfl:=zbE H
 exact ⟨rfl,S⟩
theorem jr {a0:Tb} {a_0:Option Addr} {a1:PTerm} {s_1:SlV} {a2:Int} {a3:Int} (S:St A N w w [] [oT a_0 a0,zg s_1 a1.sub]) {r:Bool} (H:zcg.f a0 a1 a2 a3=some r) :
  Calls PP F_reduce_beside #[.pointer a_0,.agg (tmC a1 s_1).toArray,.int .i64 a2,.int .i64 a3] w <| Rt fun v w'=>(v = .bool r∧St A N w w' [] []):=by
 unfold zcg.f at H
 refine zy (n:=37) Tryz.func108 rfl rfl zbC (zb (za ?_))
 refine zE rfl zbA fun b2 w1 hw1=>?_
 replace S:=S.new hw1
 refine wd (zj rfl) (zd (zb (zb (za (wd (ldT rfl (S.blk 0)) ?_)))))
 obtain ⟨r3,er3,H⟩ := zq H
 obtain ⟨_,_,T,bk⟩ := S.calln 0 ((.z 1 rfl .nil))
 refine zu (zt y0) zbA (y6 (a0:=a1) T er3) ?_
 rintro _ w4 ⟨rfl,S2⟩
 replace S:=bk _ _ _ _ S2 rfl
 refine wd (xg rfl) (wd (zA rfl) ?_)
 refine wg (fun hg=>zf zG rfl (o':=4) rfl) ?_
 refine wg (fun hg=>zl zB (zp hg) ((S.blk 0).cell (Term.get_sub _))) ?_
 obtain ⟨hi6,H⟩ := chk_g H
 refine wg (fun hg=>does_indexF zz (zp hg) rfl (S.onZ 1) (zM (hi6 (by simpa using hg))).1 (zM (hi6 (by simpa using hg))).2) ?_
 obtain ⟨s7,hc8,S⟩ := S.viewTermG (i:=0) 1
 replace S:=S
 refine wg (fun hg=>zm zR (zp hg) (hc8 (zM (hi6 (by simpa using hg)))) (Term.len _)) ?_
 refine wg (fun hg=>zi rfl) ?_
 obtain ⟨r9,er9,H⟩ := zq H
 refine xU (j:=3) (pol:=false) rfl rfl rfl zbA (fun hg=>zF y0 (zK (zp hg) (zK (zp hg) rfl))) zbA (fun hg=>(have ⟨M,SS⟩ := S.lend ((.z 0 rfl .nil)); quiet (y6 (a0:=(kd a1 0)) SS (if_t (by simpa using hg) er9)) (fun v w' h=>⟨h.1,_,_,h.2⟩))) fun w10 hw10=>?_
 replace S:=S.ext hw10
 refine wg (fun hg=>xg (zp hg)) (wd (xJ rfl (fun hp=>(zp (xz hp)))) (zd ?_))
 refine zJ rfl (fun hc11=>?_) (fun hc11=>?_)
 ·replace H:=if_t hc11 H
  refine zb (za (wd (zj rfl) (zd (zr ?_))))
  refine ⟨_,(zS (ze rfl)),?_⟩
  replace S:=S.arr [] []
  obtain rfl:=zbE H
  exact ⟨rfl,S⟩
 replace H:=if_f hc11 H
 refine zx (zb (za (wd (zw rfl) (wd (zf zG rfl (o':=4) rfl) (wd (zl zB rfl ((S.blk 0).cell (Term.get_sub _))) ?_)))))
 obtain ⟨hi12,H⟩ := xb H
 refine wd (does_indexF zz rfl rfl (S.onZ 2) (zM hi12).1 (zM hi12).2) (wd (zf yG rfl (o':=_) rfl) (wd (zl xv rfl (vd.get_form (S.onZ 2) (zM hi12))) ?_))
 obtain ⟨r13,er13,H⟩ := zq H
 obtain ⟨_,_,T,bk⟩ := S.calln 0 ((.z 1 rfl .nil))
 refine zu (zt yT) zbA (yZ T er13) ?_
 rintro _ w14 ⟨rfl,S2⟩
 replace S:=bk _ _ _ _ S2 rfl
 refine wd (zU rfl) (wd (zn rfl rfl) (wd (zn rfl rfl) ?_))
 refine zQ kw zbA fun b17 w16 hw16=>?_
 replace S:=S.new hw16
 refine zT yo rfl rfl (S.blk 0) (Nd.len _) (by rw [Nd.len]; decide) (Nd.one _) (xe (Nd.len _)) fun w18 B hw18 zw18=>?_
 replace S:=S.store 0 B hw18
 refine wd (zj rfl) (zd (zb (za (wd (zf fl_Nd_kind rfl (o':=0) rfl) (wd (zl jS rfl ((S.blk 0).cell (Nd.get_kind _))) (wd (zi rfl) ?_))))))
 refine wd (zV rfl rfl) (wd (zj rfl) (zd (zr ?_)))
 refine ⟨_,(zS (ze rfl)),?_⟩
 replace S:=S.arr [] []
 obtain rfl:=zbE H
 exact ⟨rfl,S⟩
theorem kn {a0:Tb} {a_0:Option Addr} {a1:PTerm} {s_1:SlV} {a2:Bool} (S:St A N w w [] [oT a_0 a0,zg s_1 a1.sub]) {r:Int} (H:zch.f a0 a1 a2=some r) :
  Calls PP F_reduce_half #[.pointer a_0,.agg (tmC a1 s_1).toArray,.bool a2] w <| Rt fun v w'=>(v = .int .i64 r∧St A N w w' [] []):=by
 unfold zch.f at H
 refine zy (n:=24) Tryz.func111 rfl rfl zbC (zb (za ?_))
 refine zE rfl zbA fun b2 w1 hw1=>?_
 replace S:=S.new hw1
 refine wd (zh rfl) (zd (zb (za (wd (zw rfl) (wd (zf zG rfl (o':=4) rfl) (wd (zl zB rfl ((S.blk 0).cell (Term.get_sub _))) ?_))))))
 obtain ⟨hi3,H⟩ := xb H
 refine wd (does_indexF zz rfl rfl (S.onZ 1) (zM hi3).1 (zM hi3).2) (wd (zf yG rfl (o':=_) rfl) (wd (zl xv rfl (vd.get_form (S.onZ 1) (zM hi3))) ?_))
 obtain ⟨r4,er4,H⟩ := zq H
 obtain ⟨_,_,T,bk⟩ := S.calln 0 ((.z 0 rfl .nil))
 refine zu (zt yT) zbA (yZ T er4) ?_
 rintro _ w5 ⟨rfl,S2⟩
 replace S:=bk _ _ _ _ S2 rfl
 refine wd (zU rfl) (wd (zn rfl rfl) (wd (zn rfl rfl) ?_))
 refine zQ kw zbA fun b8 w7 hw7=>?_
 replace S:=S.new hw7
 refine zT yo rfl rfl (S.blk 0) (Nd.len _) (by rw [Nd.len]; decide) (Nd.one _) (xe (Nd.len _)) fun w9 B hw9 zw9=>?_
 replace S:=S.store 0 B hw9
 refine wd (zj rfl) (zd (zb (zb (za (wd (zA rfl) (zd ?_))))))
 refine zJ rfl (fun hc10=>?_) (fun hc10=>?_)
 ·replace H:=if_t hc10 H
  refine zb (za (wd (zf uE rfl (o':=3) rfl) (wd (zl xv rfl ((S.blk 0).cell (Nd.get_r _))) (wd (zh rfl) (zd (zr ?_))))))
  refine ⟨_,(zS (ze rfl)),?_⟩
  replace S:=S.arr [] []
  obtain rfl:=zbE H
  exact ⟨rfl,S⟩
 replace H:=if_f hc10 H
 refine zx (zb (za (wd (zf uD rfl (o':=2) rfl) (wd (zl xv rfl ((S.blk 0).cell (Nd.get_l _))) (wd (zh rfl) (zd (zr ?_)))))))
 refine ⟨_,(zS (ze rfl)),?_⟩
 replace S:=S.arr [] []
 obtain rfl:=zbE H
 exact ⟨rfl,S⟩
theorem reduce_takes_st {a0:PTerm} {s_0:SlV} (S:St A N w w [] [zg s_0 a0.sub]) {r:Bool} (H:zci.f a0=some r) :
  Calls PP F_reduce_takes #[.agg (tmC a0 s_0).toArray] w <| Rt fun v w'=>(v = .bool r∧St A N w w' [] []):=by
 unfold zci.f at H
 refine zy (n:=11) Tryz.func113 rfl rfl zbC (zb (za ?_))
 refine zE rfl zbA fun b2 w1 hw1=>?_
 replace S:=S.new hw1
 refine wd (zj rfl) (zd (zb (za (wd (zf xj rfl (o':=0) rfl) (wd (zl zY rfl ((S.blk 0).cell (Term.get_kind _))) (wd (zV rfl rfl) ?_))))))
 refine wd (zA rfl) ?_
 refine wg (fun hg=>zf xj rfl (o':=0) rfl) ?_
 refine wg (fun hg=>zl zY (zp hg) ((S.blk 0).cell (Term.get_kind _))) ?_
 refine wg (fun hg=>zV (zp hg) rfl) (wd (xJ rfl (fun hp=>(zp (xz hp)))) (wd (zj rfl) (zd (zr ?_))))
 refine ⟨_,(zS (ze rfl)),?_⟩
 replace S:=S.arr [] []
 obtain rfl:=zbE H
 exact ⟨rfl,S⟩
theorem reduce_side_st {a0:PTerm} {s_0:SlV} {a1:PTerm} {s_1:SlV} (S:St A N w w [] [zg s_0 a0.sub,zg s_1 a1.sub]) {r:PTerm} (H:zcj.f a0 a1=some r) :
  Calls PP F_reduce_side #[.agg (tmC a0 s_0).toArray,.agg (tmC a1 s_1).toArray] w <| Rt fun v w'=>(∃ so0:SlV,v = .agg (tmC r so0).toArray∧St A N w w' [] [zg so0 r.sub]):=by
 unfold zcj.f at H
 refine zy (n:=16) Tryz.func115 rfl rfl zbC (zb (za ?_))
 refine zE rfl zbA fun b2 w1 hw1=>?_
 replace S:=S.new hw1
 refine zE rfl zbA fun b4 w3 hw3=>?_
 replace S:=S.new hw3
 refine zQ xC zbA fun b6 w5 hw5=>?_
 replace S:=S.new hw5
 refine zd (zb (zb (za (wd (zf xj rfl (o':=0) rfl) (wd (zl zY rfl ((S.blk 2).cell (Term.get_kind _))) (wd (zV rfl rfl) (zd ?_)))))))
 refine zJ rfl (fun hc7=>?_) (fun hc7=>?_)
 ·replace H:=if_t hc7 H
  refine zb (za (wd (zf zG rfl (o':=4) rfl) (wd (zl zB rfl ((S.blk 1).cell (Term.get_sub _))) ?_)))
  obtain ⟨hi8,H⟩ := xb H
  refine wd (does_indexF zz rfl rfl (S.onZ 1) (zM hi8).1 (zM hi8).2) ?_
  obtain ⟨s9,hc10,S⟩ := S.viewTerm 1 (zM hi8)
  replace S:=S
  refine wd (ldC rfl hc10) ?_
  refine wsT rfl rfl (S.blk 0) fun w11 B hw11 zw11=>?_
  replace S:=S.store 0 B hw11
  refine zd (zr ?_)
  refine ⟨_,(zS (rtT rfl (S.blk 0))),?_⟩
  replace S:=S.arr [] [0]
  obtain rfl:=zbE H
  exact ⟨s9,rfl,S⟩
 replace H:=if_f hc7 H
 refine zx (zb (za (wd (zf zG rfl (o':=4) rfl) (wd (zl zB rfl ((S.blk 1).cell (Term.get_sub _))) ?_))))
 obtain ⟨hi12,H⟩ := xb H
 refine wd (does_indexF zz rfl rfl (S.onZ 1) (zM hi12).1 (zM hi12).2) ?_
 obtain ⟨s13,hc14,S⟩ := S.viewTerm 1 (zM hi12)
 replace S:=S
 refine wd (ldC rfl hc14) ?_
 refine wsT rfl rfl (S.blk 0) fun w15 B hw15 zw15=>?_
 replace S:=S.store 0 B hw15
 refine zd (zr ?_)
 refine ⟨_,(zS (rtT rfl (S.blk 0))),?_⟩
 replace S:=S.arr [] [0]
 obtain rfl:=zbE H
 exact ⟨s13,rfl,S⟩
theorem zaS {a0:PTerm} {s_0:SlV} (S:St A N w w [] [zg s_0 a0.sub]) {r:Bool × Bool} (H:zck.f a0=some r) :
  Calls PP zaY #[.agg (tmC a0 s_0).toArray] w <| Rt fun v w'=>(v = .tuple #[.bool r.1,.bool r.2]∧St A N w w' [] []):=by
 unfold zck.f at H
 refine zy (n:=17) Tryz.func119 rfl rfl zbC (zb (za ?_))
 refine zE rfl zbA fun b2 w1 hw1=>?_
 replace S:=S.new hw1
 refine wd (zj rfl) (wd (zj rfl) (zd (zb ?_)))
 refine yt 14 (Ext w1) hmix zbD zbD (Ext.drawn _) (zD (fun v K=>zm zR rfl (((S.ext K).blk 0).all _ (Term.len _)) (Term.len _)) ?_)
 obtain ⟨r3,er3,H⟩ := zq H
 refine wq_call (fun v=>zt y0) (fun v K=>(have ⟨M,SS⟩ := (S.ext K).lend ((.z 0 rfl .nil)); quiet (y6 (a0:=a0) SS er3) (fun v w' h=>⟨h.1,_,_,h.2⟩))) (fun v v' K h=>K.thenExt h) (zD (fun v K=>zf xj rfl (o':=0) rfl) (zD (fun v K=>zl zY rfl (((S.ext K).blk 0).cell (Term.get_kind _))) (zD (fun v K=>zV rfl rfl) (zD (fun v K=>zA rfl) (zbz (j:=5) (pol:=true) rfl rfl rfl (fun hg v K=>zm zR rfl (((S.ext K).blk 0).all _ (Term.len _)) (Term.len _)) ?_)))))
 obtain ⟨r4,er4,H⟩ := zq H
 refine wq_gcall (j:=5) (pol:=true) rfl rfl rfl (fun hg v=>zF y0 (zK (zp hg) (zK rfl rfl))) (fun hg v K=>(have ⟨M,SS⟩ := (S.ext K).lend ((.z 0 rfl .nil)); quiet (y6 (a0:=a0) SS (if_t (by simpa using hg) er4)) (fun v w' h=>⟨h.1,_,_,h.2⟩))) (fun v v' K h=>K.thenExt h) (zbz (j:=5) (pol:=true) rfl rfl rfl (fun hg v K=>zA (zp hg)) (wq_guard2 (j:=8) (pol:=false) rfl rfl rfl (fun hg v K=>zm zR rfl (((S.ext K).blk 0).all _ (Term.len _)) (Term.len _)) ?_))
 obtain ⟨r5,er5,H⟩ := zq H
 refine wq_gcall2 (j:=8) (pol:=false) rfl rfl rfl (fun hg v=>zF y0 (zK (zp hg) (zK rfl rfl))) (fun hg v K=>(have ⟨M,SS⟩ := (S.ext K).lend ((.z 0 rfl .nil)); quiet (y6 (a0:=a0) SS (if_t (by simpa using hg) er5)) (fun v w' h=>⟨h.1,_,_,h.2⟩))) (fun v v' K h=>K.thenExt h) (zbz (j:=5) (pol:=true) rfl rfl rfl (fun hg v K=>xJ (zp hg) (fun hp=>(zp (and_b hg hp)))) (zD (fun v K=>zZ rfl (fun hp=>(zp (xz hp)))) (zD (fun v K=>zj rfl) ?_)))
 refine vY fun w6 K=>?_
 replace S:=S.ext K
 clear K
 refine wd (zj rfl) (zd (zr ?_))
 refine ⟨_,(xd (ze rfl) (ze rfl)),?_⟩
 replace S:=S.arr [] []
 obtain rfl:=zbE H
 exact ⟨rfl,S⟩
theorem reduce_told_st {a0:Tb} {a_0:Option Addr} {a1:PTerm} {s_1:SlV} (S:St A N w w [] [oT a_0 a0,zg s_1 a1.sub]) {r:Bool × Bool} (H:zcl.f a0 a1=some r) :
  Calls PP F_reduce_told #[.pointer a_0,.agg (tmC a1 s_1).toArray] w <| Rt fun v w'=>(v = .tuple #[.bool r.1,.bool r.2]∧St A N w w' [] []):=by
 unfold zcl.f at H
 refine zy (n:=22) Tryz.func123 rfl rfl zbC (zb (za ?_))
 refine zE rfl zbA fun b2 w1 hw1=>?_
 replace S:=S.new hw1
 refine wd (zj rfl) (wd (zj rfl) (zd (zb (za (wd (zw rfl) (wd (ldT rfl (S.blk 0)) ?_))))))
 obtain ⟨r3,er3,H⟩ := zq H
 obtain ⟨_,_,T,bk⟩ := S.calln 0 ((.z 0 rfl (.z 1 rfl .nil)))
 refine zu (zt jn) zbA (jr (a1:=a1) T er3) ?_
 rintro _ w4 ⟨rfl,S2⟩
 replace S:=bk _ _ _ _ S2 rfl
 refine wd (zj rfl) (zd (zb (za (wd (zA rfl) (wd (zf xj rfl (o':=0) rfl) (wd (zl zY rfl ((S.blk 0).cell (Term.get_kind _))) ?_))))))
 refine wd (zV rfl rfl) (wd (zA rfl) ?_)
 refine wg (fun hg=>zA rfl) ?_
 refine wg (fun hg=>zA (zp hg)) (xq (j:=6) (pol:=false) rfl rfl rfl zbA (fun hg=>zw rfl) zbA (xq (j:=6) (pol:=false) rfl rfl rfl zbA (fun hg=>ldT rfl (S.blk 0)) zbA ?_))
 obtain ⟨r6,er6,H⟩ := zq H
 refine wl_gcall2 (j:=6) (pol:=false) rfl rfl rfl zbA (fun hg=>zF jn (zK (zp hg) (zK (zp hg) (zK rfl (zK rfl rfl))))) zbA (fun hg=>(have ⟨M,SS⟩ := S.lend ((.z 0 rfl (.z 1 rfl .nil))); quiet (jr (a1:=a1) SS (if_t (by simpa using hg) er6)) (fun v w' h=>⟨h.1,_,_,h.2⟩))) fun w7 hw7=>?_
 replace S:=S.ext hw7
 refine wg (fun hg=>xJ (zp hg) (fun hp=>(zp (and_b hg hp)))) (wd (zZ rfl (fun hp=>(zp (xz hp)))) (wd (zj rfl) (wd (zj rfl) (zd (zr ?_)))))
 refine ⟨_,(xd (ze rfl) (ze rfl)),?_⟩
 replace S:=S.arr [] []
 obtain rfl:=zbE H
 exact ⟨rfl,S⟩
theorem reduce_rules_1_st {a0:Tb} {a_0:Option Addr} {a1:PTerm} {s_1:SlV} (S:St A N w w [] [oT a_0 a0,zg s_1 a1.sub]) {r:Bool} (H:zcm.f a0 a1=some r) :
  Calls PP ur #[.pointer a_0,.agg (tmC a1 s_1).toArray] w <| Rt fun v w'=>(v = .bool r∧St A N w w' [] []):=by
 unfold zcm.f at H
 refine zy (n:=12) Tryz.func103 rfl rfl zbC (zb (za ?_))
 refine zE rfl zbA fun b2 w1 hw1=>?_
 replace S:=S.new hw1
 refine wd (zj rfl) (zd (zb (za (wd (zf xj rfl (o':=0) rfl) (wd (zl zY rfl ((S.blk 0).cell (Term.get_kind _))) (wd (zV rfl rfl) ?_))))))
 refine wd (zA rfl) ?_
 refine wg (fun hg=>ldT rfl (S.blk 0)) ?_
 obtain ⟨r3,er3,H⟩ := zq H
 refine xU (j:=3) (pol:=true) rfl rfl rfl zbA (fun hg=>zF y0 (zK (zp hg) (zK rfl rfl))) zbA (fun hg=>(have ⟨M,SS⟩ := S.lend ((.z 1 rfl .nil)); quiet (y6 (a0:=a1) SS (if_t (by simpa using hg) er3)) (fun v w' h=>⟨h.1,_,_,h.2⟩))) fun w4 hw4=>?_
 replace S:=S.ext hw4
 refine wd (zZ rfl (fun hp=>(zp (xz hp)))) (wd (zj rfl) (zd (zr ?_)))
 refine ⟨_,(zS (ze rfl)),?_⟩
 replace S:=S.arr [] []
 obtain rfl:=zbE H
 exact ⟨rfl,S⟩
theorem reduce_rules_3_st {a0:Tb} {a_0:Option Addr} {a1:PTerm} {s_1:SlV} (S:St A N w w [] [oT a_0 a0,zg s_1 a1.sub]) {r:Bool} (H:zcn.f a0 a1=some r) :
  Calls PP ut #[.pointer a_0,.agg (tmC a1 s_1).toArray] w <| Rt fun v w'=>(v = .bool r∧St A N w w' [] []):=by
 unfold zcn.f at H
 refine zy (n:=13) Tryz.func107 rfl rfl zbC (zb (za ?_))
 refine zE rfl zbA fun b2 w1 hw1=>?_
 replace S:=S.new hw1
 refine wd (zj rfl) (zd (zb (za (wd (zf xj rfl (o':=0) rfl) (wd (zl zY rfl ((S.blk 0).cell (Term.get_kind _))) (wd (zV rfl rfl) ?_))))))
 refine wd (zA rfl) ?_
 refine wg (fun hg=>zw rfl) ?_
 refine wg (fun hg=>ldT rfl (S.blk 0)) ?_
 obtain ⟨r3,er3,H⟩ := zq H
 refine xU (j:=3) (pol:=true) rfl rfl rfl zbA (fun hg=>zF jn (zK (zp hg) (zK (zp hg) (zK rfl (zK rfl rfl))))) zbA (fun hg=>(have ⟨M,SS⟩ := S.lend ((.z 0 rfl (.z 1 rfl .nil))); quiet (jr (a1:=a1) SS (if_t (by simpa using hg) er3)) (fun v w' h=>⟨h.1,_,_,h.2⟩))) fun w4 hw4=>?_
 replace S:=S.ext hw4
 refine wd (zZ rfl (fun hp=>(zp (xz hp)))) (wd (zj rfl) (zd (zr ?_)))
 refine ⟨_,(zS (ze rfl)),?_⟩
 replace S:=S.arr [] []
 obtain rfl:=zbE H
 exact ⟨rfl,S⟩
theorem reduce_rules_5_st {a0:Tb} {a_0:Option Addr} {a1:PTerm} {s_1:SlV} (S:St A N w w [] [oT a_0 a0,zg s_1 a1.sub]) {r:Bool} (H:zco.f a0 a1=some r) :
  Calls PP uu #[.pointer a_0,.agg (tmC a1 s_1).toArray] w <| Rt fun v w'=>(v = .bool r∧St A N w w' [] []):=by
 unfold zco.f at H
 refine zy (n:=11) Tryz.func112 rfl rfl zbC (zb (za ?_))
 refine zE rfl zbA fun b2 w1 hw1=>?_
 replace S:=S.new hw1
 refine wd (zj rfl) (zd (zb (za (wd (ldT rfl (S.blk 0)) ?_))))
 obtain ⟨r3,er3,H⟩ := zq H
 obtain ⟨_,_,T,bk⟩ := S.calln 0 ((.z 1 rfl .nil))
 refine zu (zt ca_reduce_takes) zbA (reduce_takes_st (a0:=a1) T er3) ?_
 rintro _ w4 ⟨rfl,S2⟩
 replace S:=bk _ _ _ _ S2 rfl
 refine wd (zA rfl) ?_
 refine wg (fun hg=>ldT rfl (S.blk 0)) ?_
 obtain ⟨r6,er6,H⟩ := zq H
 refine xU (j:=2) (pol:=true) rfl rfl rfl zbA (fun hg=>zF y0 (zK (zp hg) (zK rfl rfl))) zbA (fun hg=>(have ⟨M,SS⟩ := S.lend ((.z 1 rfl .nil)); quiet (y6 (a0:=a1) SS (if_t (by simpa using hg) er6)) (fun v w' h=>⟨h.1,_,_,h.2⟩))) fun w7 hw7=>?_
 replace S:=S.ext hw7
 refine wd (zZ rfl (fun hp=>(zp (xz hp)))) (wd (zj rfl) (zd (zr ?_)))
 refine ⟨_,(zS (ze rfl)),?_⟩
 replace S:=S.arr [] []
 obtain rfl:=zbE H
 exact ⟨rfl,S⟩
theorem reduce_rules_6_st {a0:Tb} {a_0:Option Addr} {a1:PTerm} {s_1:SlV} (S:St A N w w [] [oT a_0 a0,zg s_1 a1.sub]) {r:PTerm × Int} (H:zcp.f a0 a1=some r) :
  Calls PP vK #[.pointer a_0,.agg (tmC a1 s_1).toArray] w <| Rt fun v w'=>(∃ so0:SlV,v = .tuple #[.agg (tmC r.1 so0).toArray,.int .i64 r.2]∧St A N w w' [] [zg so0 r.1.sub]):=by
 unfold zcp.f at H
 refine zy (n:=12) Tryz.func114 rfl rfl zbC (zb (za ?_))
 refine zE rfl zbA fun b2 w1 hw1=>?_
 replace S:=S.new hw1
 refine zQ xC zbA fun b4 w3 hw3=>?_
 replace S:=S.new hw3
 refine wd (zh rfl) (zd (zb ?_))
 refine yt 5 (Ext w3) hmix zbD zbD (Ext.drawn _) (zD (fun v K=>zm zR rfl (((S.ext K).blk 1).all _ (Term.len _)) (Term.len _)) (zD (fun v K=>zf zG rfl (o':=4) rfl) (zD (fun v K=>zl zB rfl (((S.ext K).blk 1).cell (Term.get_sub _))) ?_)))
 obtain ⟨hi5,H⟩ := xb H
 refine zD (fun v K=>does_indexF zz rfl rfl ((S.ext K).onZ 1) (zM hi5).1 (zM hi5).2) ?_
 obtain ⟨s6,hc7,S⟩ := S.viewTerm 1 (zM hi5)
 replace S:=S
 refine zD (fun v K=>zm zR rfl (hc7.chg K (fun x=>x)) (Term.len _)) ?_
 refine vY fun w8 K=>?_
 replace S:=S.ext K
 clear K
 obtain ⟨r9,er9,H⟩ := zq H
 obtain ⟨_,_,T,bk⟩ := S.sub [2,0] [] [oB b4 zo (Term.C tmZ),oB b2 zo (tmC a1 s_1)]
 refine zu (zt ca_reduce_side) zbA (reduce_side_st (a0:=a1) (a1:=(kd a1 0)) T er9) ?_
 rintro _ w10 ⟨s12,rfl,S2⟩
 replace S:=bk _ _ _ _ _ S2 rfl rfl
 refine wsT rfl rfl (S.blk 0) fun w13 B hw13 zw13=>?_
 replace S:=S.store 0 B hw13
 refine wd (zh rfl) (zd (zr ?_))
 refine ⟨_,(xd (rtT rfl (S.blk 0)) (ze rfl)),?_⟩
 replace S:=S.arr [] [0]
 obtain rfl:=zbE H
 exact ⟨s12,rfl,S⟩
theorem reduce_rules_7_st {a0:Tb} {a_0:Option Addr} {a1:PTerm} {s_1:SlV} (S:St A N w w [] [oT a_0 a0,zg s_1 a1.sub]) {r:Bool} (H:zcq.f a0 a1=some r) :
  Calls PP uv #[.pointer a_0,.agg (tmC a1 s_1).toArray] w <| Rt fun v w'=>(v = .bool r∧St A N w w' [] []):=by
 unfold zcq.f at H
 refine zy (n:=12) Tryz.func116 rfl rfl zbC (zb (za ?_))
 refine zE rfl zbA fun b2 w1 hw1=>?_
 replace S:=S.new hw1
 refine wd (zj rfl) (zd (zb (za (wd (ldT rfl (S.blk 0)) ?_))))
 obtain ⟨r3,er3,H⟩ := zq H
 obtain ⟨_,_,T,bk⟩ := S.calln 0 ((.z 1 rfl .nil))
 refine zu (zt ca_reduce_takes) zbA (reduce_takes_st (a0:=a1) T er3) ?_
 rintro _ w4 ⟨rfl,S2⟩
 replace S:=bk _ _ _ _ S2 rfl
 refine wd (zA rfl) ?_
 refine wg (fun hg=>zw rfl) ?_
 refine wg (fun hg=>ldT rfl (S.blk 0)) ?_
 obtain ⟨r6,er6,H⟩ := zq H
 refine xU (j:=2) (pol:=true) rfl rfl rfl zbA (fun hg=>zF jn (zK (zp hg) (zK (zp hg) (zK rfl (zK rfl rfl))))) zbA (fun hg=>(have ⟨M,SS⟩ := S.lend ((.z 0 rfl (.z 1 rfl .nil))); quiet (jr (a1:=a1) SS (if_t (by simpa using hg) er6)) (fun v w' h=>⟨h.1,_,_,h.2⟩))) fun w7 hw7=>?_
 replace S:=S.ext hw7
 refine wd (zZ rfl (fun hp=>(zp (xz hp)))) (wd (zj rfl) (zd (zr ?_)))
 refine ⟨_,(zS (ze rfl)),?_⟩
 replace S:=S.arr [] []
 obtain rfl:=zbE H
 exact ⟨rfl,S⟩
theorem reduce_rules_8_st {a0:Tb} {a_0:Option Addr} {a1:PTerm} {s_1:SlV} (S:St A N w w [] [oT a_0 a0,zg s_1 a1.sub]) {r:PTerm × Int} (H:zcr.f a0 a1=some r) :
  Calls PP vM #[.pointer a_0,.agg (tmC a1 s_1).toArray] w <| Rt fun v w'=>(∃ so0:SlV,v = .tuple #[.agg (tmC r.1 so0).toArray,.int .i64 r.2]∧St A N w w' [] [zg so0 r.1.sub]):=by
 unfold zcr.f at H
 refine zy (n:=22) Tryz.func117 rfl rfl zbC (zb (za ?_))
 refine zE rfl zbA fun b2 w1 hw1=>?_
 replace S:=S.new hw1
 refine zQ xC zbA fun b4 w3 hw3=>?_
 replace S:=S.new hw3
 refine wd (zh rfl) (zd (zb ?_))
 obtain ⟨hi12,H⟩ := xb H
 obtain ⟨hi14,H⟩ := xb H
 obtain ⟨r16,er16,H⟩ := zq H
 obtain ⟨s13,S⟩ := S.viewTermC 1 (zM hi12)
 replace S:=S
 obtain ⟨s15,S⟩ := S.viewTermC 1 (zM hi14)
 replace S:=S.zs [4,5,2,3,0,1]
 refine vh 14 ⟨fun _ _=>True,fun _ _ _=>True,fun i v _=>match i with
  | 0=>v=Value.agg (tmC a1 s_1).toArray
  | 1=>v=Value.pointer (some ⟨b2,4,none⟩)
  | 2=>v=s_1.v
  | 3=>v=Value.pointer (some ⟨s_1.blk,s_1.off + Int.toNat 0 * 5,none⟩)
  | 4=>v=Value.pointer (some ⟨s_1.blk,s_1.off + Int.toNat 0 * 5 + 4,none⟩)
  | 5=>v=s13.v
  | 6=>v=Value.pointer (some ⟨s13.blk,s13.off + Int.toNat 0 * 5,none⟩)
  | 7=>v=Value.agg (tmC (kd (kd a1 0) 0) s15).toArray
  | 9=>v=Value.pointer a_0
  | 10=>v=Value.agg (tmC a1 s_1).toArray
  | 11=>v=Value.pointer (some ⟨b2,0,none⟩)
  | 12=>v=Value.int .i64 a1.kind
  | 13=>v=Value.bool (decide (a1.kind=6))
  | _=>True⟩ (fun L g v => ∃ Z20:List OA,(∀ z ∈ [oT a_0 a0,zg s_1 a1.sub,oCl s_1.blk (s_1.off + Int.toNat 0 * 5) (tmC (kd a1 0) s13),zg s13 ((kd a1 0).sub),oCl s13.blk (s13.off + Int.toNat 0 * 5) (tmC (kd (kd a1 0) 0) s15),zg s15 ((kd (kd a1 0) 0).sub)],z ∈ Z20)∧Made L g Z20 8 14 (fun (c:SlV)=>Value.agg (tmC r16 c).toArray) (fun (c:SlV)=>[zg c r16.sub])∧St A N w v [oB b4 zo (Term.C tmZ),oB b2 zo (tmC a1 s_1)] Z20) hmix zbD (fun _ _ _ _ _ _ _ hv=>hv) (fun g=>⟨_,fun _ h=>h,Made.no,S.ext (Ext.drawn _)⟩) ⟨?_,?_,?_,?_,?_,?_,?_,?_,?_,?_,?_,?_,?_,?_,trivial⟩ ?_
 ·rintro L g v hL hcl hclo ⟨Z20,hZ,hm8,S⟩ 
  refine wd (ldT rfl (S.blk 1)) ?_
  exact w4 rfl ⟨_,hZ,hm8.keep rfl rfl tl0,S⟩
 ·rintro L g v hL hcl hclo ⟨Z20,hZ,hm8,S⟩ 
  refine wd (zf zG rfl (o':=4) rfl) ?_
  exact w4 rfl ⟨_,hZ,hm8.keep rfl rfl tl0,S⟩
 ·rintro L g v hL hcl hclo ⟨Z20,hZ,hm8,S⟩ hv1
  refine wd (zl zB hv1 ((S.blk 1).cell (Term.get_sub _))) ?_
  exact w4 rfl ⟨_,hZ,hm8.keep rfl rfl tl0,S⟩
 ·rintro L g v hL hcl hclo ⟨Z20,hZ,hm8,S⟩ hv2
  replace S:=(S.zneed hZ)
  refine wd (does_indexF zz hv2 rfl (S.onZ 1) (zM hi12).1 (zM hi12).2) ?_
  exact w4 rfl ⟨_,(fun z h=>tl6 z (hZ z h)),hm8.keep rfl rfl tl6,S⟩
 ·rintro L g v hL hcl hclo ⟨Z20,hZ,hm8,S⟩ hv3
  refine wd (zf zG hv3 (o':=_) rfl) ?_
  exact w4 rfl ⟨_,hZ,hm8.keep rfl rfl tl0,S⟩
 ·rintro L g v hL hcl hclo ⟨Z20,hZ,hm8,S⟩ hv4
  replace S:=(S.zneed hZ)
  refine wd (zl zB hv4 ((S.cl 2).get (Term.get_sub _))) ?_
  exact w4 rfl ⟨_,(fun z h=>tl6 z (hZ z h)),hm8.keep rfl rfl tl6,S⟩
 ·rintro L g v hL hcl hclo ⟨Z20,hZ,hm8,S⟩ hv5
  replace S:=(S.zneed hZ)
  refine wd (does_indexF zz hv5 rfl (S.onZ 3) (zM hi14).1 (zM hi14).2) ?_
  exact w4 rfl ⟨_,(fun z h=>tl6 z (hZ z h)),hm8.keep rfl rfl tl6,S⟩
 ·rintro L g v hL hcl hclo ⟨Z20,hZ,hm8,S⟩ hv6
  replace S:=(S.zneed hZ)
  refine wd (zm zR hv6 (S.cl 4) (Term.len _)) ?_
  exact w4 rfl ⟨_,(fun z h=>tl6 z (hZ z h)),hm8.keep rfl rfl tl6,S⟩
 ·rintro L g v hL hcl hclo ⟨Z20,hZ,hm8,S⟩ hv0 hv7
  replace S:=(S.zneed hZ)
  obtain ⟨_,_,T,bk⟩ := S.sub [1,5] [] [oB b4 zo (Term.C tmZ),oB b2 zo (tmC a1 s_1)]
  refine zu (zF ca_reduce_side (zK hv0 (zK hv7 rfl))) zbA (reduce_side_st (a0:=a1) (a1:=(kd (kd a1 0) 0)) T er16) ?_
  rintro _ w25 ⟨s27,rfl,S2⟩
  replace S:=bk _ _ _ _ _ S2 rfl rfl
  exact w4 trivial ⟨_,(fun z h=>tl7 z (hZ z h)),Made.one (val:=(fun (c:SlV)=>Value.agg (tmC r16 c).toArray)) (ps:=(fun (c:SlV)=>[zg c r16.sub])) s27 (yf List.mem_cons_self yC),S⟩
 ·rintro L g v hL hcl hclo ⟨Z20,hZ,hm8,S⟩ 
  refine wd (zw rfl) ?_
  exact w4 rfl ⟨_,hZ,hm8.keep rfl rfl tl0,S⟩
 ·rintro L g v hL hcl hclo ⟨Z20,hZ,hm8,S⟩ 
  refine wd (ldT rfl (S.blk 1)) ?_
  exact w4 rfl ⟨_,hZ,hm8.keep rfl rfl tl0,S⟩
 ·rintro L g v hL hcl hclo ⟨Z20,hZ,hm8,S⟩ 
  refine wd (zf xj rfl (o':=0) rfl) ?_
  exact w4 rfl ⟨_,hZ,hm8.keep rfl rfl tl0,S⟩
 ·rintro L g v hL hcl hclo ⟨Z20,hZ,hm8,S⟩ hv11
  refine wd (zl zY hv11 ((S.blk 1).cell (Term.get_kind _))) ?_
  exact w4 rfl ⟨_,hZ,hm8.keep rfl rfl tl0,S⟩
 ·rintro L g v hL hcl hclo ⟨Z20,hZ,hm8,S⟩ hv12
  refine wd (zV hv12 rfl) ?_
  exact w4 rfl ⟨_,hZ,hm8.keep rfl rfl tl0,S⟩
 rintro L g w28 hLm ⟨Z20,hZ,hm8,S⟩ hv29_0 hv29_1 hv29_2 hv29_3 hv29_4 hv29_5 hv29_6 hv29_7 _ hv29_9 hv29_10 hv29_11 hv29_12 hv29_13
 have hLt : ∀ j,j < 14→L j=true:=fun j hj=>by rw [hLm]; exact decide_eq_true hj
 obtain ⟨s19,hv29_8,hp8⟩ := hm8 (hLt 8 zbA)
 replace S:=S.pickZ (xG (l1:=[zg s19 r16.sub]) hp8 hZ)
 clear hp8 hZ hm8
 obtain ⟨r30,er30,H⟩ := zq H
 obtain ⟨_,_,T,bk⟩ := S.calln 0 ((.z 1 rfl (.z 2 rfl .nil)))
 refine zu (zF ka (zK hv29_9 (zK hv29_10 (zK hv29_13 rfl)))) zbA (kn (a1:=a1) T er30) ?_
 rintro _ w31 ⟨rfl,S2⟩
 replace S:=bk _ _ _ _ S2 rfl
 obtain ⟨r33,er33,H⟩ := zq H
 obtain ⟨_,_,T,bk⟩ := S.sub [0] [] [oB b4 zo (Term.C tmZ),oB b2 zo (tmC a1 s_1)]
 refine zu (zF kQ (zK hv29_8 (zK rfl rfl))) zbA (kS (a0:=r16) T er33) ?_
 rintro _ w34 ⟨s36,rfl,S2⟩
 replace S:=bk _ _ _ _ _ S2 rfl rfl
 refine wsT rfl rfl (S.blk 0) fun w37 B hw37 zw37=>?_
 replace S:=S.store 0 B hw37
 refine wd (zh rfl) (zd (zr ?_))
 refine ⟨_,(xd (rtT rfl (S.blk 0)) (ze rfl)),?_⟩
 replace S:=S.arr [] [0]
 obtain rfl:=zbE H
 exact ⟨s36,rfl,S⟩
theorem reduce_rules_9_st {a0:Tb} {a_0:Option Addr} {a1:PTerm} {s_1:SlV} (S:St A N w w [] [oT a_0 a0,zg s_1 a1.sub]) {r:Bool} (H:zcs.f a0 a1=some r) :
  Calls PP uw #[.pointer a_0,.agg (tmC a1 s_1).toArray] w <| Rt fun v w'=>(v = .bool r∧St A N w w' [] []):=by
 unfold zcs.f at H
 refine zy (n:=13) Tryz.func118 rfl rfl zbC (zb (za ?_))
 refine zE rfl zbA fun b2 w1 hw1=>?_
 replace S:=S.new hw1
 refine wd (zj rfl) (zd (zb (za (wd (ldT rfl (S.blk 0)) ?_))))
 obtain ⟨r3,er3,H⟩ := zq H
 obtain ⟨_,_,T,bk⟩ := S.calln 0 ((.z 1 rfl .nil))
 refine zu (zt zaK) zbA (zaS (a0:=a1) T er3) ?_
 rintro _ w4 ⟨rfl,S2⟩
 replace S:=bk _ _ _ _ S2 rfl
 refine wd (zU rfl) (wd (zn rfl rfl) (wd (zn rfl rfl) (wd (zj rfl) (wd (zj rfl) (zd (zb (za ?_)))))))
 refine wd (zA rfl) (wd (zj rfl) (zd (zr ?_)))
 refine ⟨_,(zS (ze rfl)),?_⟩
 replace S:=S.arr [] []
 obtain rfl:=zbE H
 exact ⟨rfl,S⟩
theorem reduce_rules_11_st {a0:Tb} {a_0:Option Addr} {a1:PTerm} {s_1:SlV} (S:St A N w w [] [oT a_0 a0,zg s_1 a1.sub]) {r:Bool} (H:zct.f a0 a1=some r) :
  Calls PP vZ #[.pointer a_0,.agg (tmC a1 s_1).toArray] w <| Rt fun v w'=>(v = .bool r∧St A N w w' [] []):=by
 unfold zct.f at H
 refine zy (n:=14) Tryz.func122 rfl rfl zbC (zb (za ?_))
 refine zE rfl zbA fun b2 w1 hw1=>?_
 replace S:=S.new hw1
 refine wd (zj rfl) (zd (zb (za (wd (zw rfl) (wd (ldT rfl (S.blk 0)) ?_)))))
 obtain ⟨r3,er3,H⟩ := zq H
 obtain ⟨_,_,T,bk⟩ := S.calln 0 ((.z 0 rfl (.z 1 rfl .nil)))
 refine zu (zt ca_reduce_told) zbA (reduce_told_st (a1:=a1) T er3) ?_
 rintro _ w4 ⟨rfl,S2⟩
 replace S:=bk _ _ _ _ S2 rfl
 refine wd (zU rfl) (wd (zn rfl rfl) (wd (zn rfl rfl) (wd (zj rfl) (wd (zj rfl) (zd (zb (za ?_)))))))
 refine wd (zA rfl) (wd (zj rfl) (zd (zr ?_)))
 refine ⟨_,(zS (ze rfl)),?_⟩
 replace S:=S.arr [] []
 obtain rfl:=zbE H
 exact ⟨rfl,S⟩
theorem reduce_rules_13_st {a0:Tb} {a_0:Option Addr} {a1:PTerm} {s_1:SlV} (S:St A N w w [] [oT a_0 a0,zg s_1 a1.sub]) {r:Bool} (H:zcu.f a0 a1=some r) :
  Calls PP v6 #[.pointer a_0,.agg (tmC a1 s_1).toArray] w <| Rt fun v w'=>(v = .bool r∧St A N w w' [] []):=by
 unfold zcu.f at H
 refine zy (n:=8) Tryz.func125 rfl rfl zbC (zb (za ?_))
 refine zE rfl zbA fun b2 w1 hw1=>?_
 replace S:=S.new hw1
 refine wd (zj rfl) (zd (zb (za (wd (zf xj rfl (o':=0) rfl) (wd (zl zY rfl ((S.blk 0).cell (Term.get_kind _))) (wd (zV rfl rfl) ?_))))))
 refine wd (zj rfl) (zd (zr ?_))
 refine ⟨_,(zS (ze rfl)),?_⟩
 replace S:=S.arr [] []
 obtain rfl:=zbE H
 exact ⟨rfl,S⟩
theorem reduce_rules_15_st {a0:Tb} {a_0:Option Addr} {a1:PTerm} {s_1:SlV} (S:St A N w w [] [oT a_0 a0,zg s_1 a1.sub]) {r:Bool} (H:zcv.f a0 a1=some r) :
  Calls PP v7 #[.pointer a_0,.agg (tmC a1 s_1).toArray] w <| Rt fun v w'=>(v = .bool r∧St A N w w' [] []):=by
 unfold zcv.f at H
 refine zy (n:=19) Tryz.func127 rfl rfl zbC (zb (za ?_))
 refine zE rfl zbA fun b2 w1 hw1=>?_
 replace S:=S.new hw1
 refine wd (zj rfl) (zd (zb (zb (za (wd (zf xj rfl (o':=0) rfl) (wd (zl zY rfl ((S.blk 0).cell (Term.get_kind _))) (wd (xr rfl rfl) (zd ?_))))))))
 refine zJ rfl (fun hc3=>?_) (fun hc3=>?_)
 ·replace H:=if_t hc3 H
  refine zb (za (wd (zj rfl) (zd (zr ?_))))
  refine ⟨_,(zS (ze rfl)),?_⟩
  replace S:=S.arr [] []
  obtain rfl:=zbE H
  exact ⟨rfl,S⟩
 replace H:=if_f hc3 H
 refine zx (zb (zb (za (wd (zf zG rfl (o':=4) rfl) (wd (zl zB rfl ((S.blk 0).cell (Term.get_sub _))) ?_)))))
 obtain ⟨hi4,H⟩ := xb H
 refine wd (does_indexF zz rfl rfl (S.onZ 1) (zM hi4).1 (zM hi4).2) (wd (zf xj rfl (o':=_) rfl) (wd (zl zY rfl (vd.get_kind (S.onZ 1) (zM hi4))) (zd ?_)))
 refine zO (zb (zb (za (wd (zV rfl rfl) (wd (zj rfl) (zd ?_))))))
 refine zJ rfl (fun hc5=>?_) (fun hc5=>?_)
 ·replace H:=if_t hc5 H
  refine zx ?_
  refine zJ rfl (fun hc6=>?_) (fun hc6=>?_)
  ·replace H:=if_t hc6 H
   refine zb (za (wd (zj rfl) (zd (zr ?_))))
   refine ⟨_,(zS (ze rfl)),?_⟩
   replace S:=S.arr [] []
   obtain rfl:=zbE H
   exact ⟨rfl,S⟩
  replace H:=if_f hc6 H
  refine zx (zb (za (wd (zj rfl) (zd (zr ?_)))))
  refine ⟨_,(zS (ze rfl)),?_⟩
  replace S:=S.arr [] []
  obtain rfl:=zbE H
  exact ⟨rfl,S⟩
 ·replace H:=if_f hc5 H
  refine zb (za (wd (zV rfl rfl) (wd (zj rfl) (zd ?_))))
  refine zJ rfl (fun hc7=>?_) (fun hc7=>?_)
  ·replace H:=if_t hc7 H
   refine zx ?_
   refine zJ rfl (fun hc8=>?_) (fun hc8=>?_)
   ·replace H:=if_t hc8 H
    refine zb (za (wd (zj rfl) (zd (zr ?_))))
    refine ⟨_,(zS (ze rfl)),?_⟩
    replace S:=S.arr [] []
    obtain rfl:=zbE H
    exact ⟨rfl,S⟩
   replace H:=if_f hc8 H
   refine zx (zb (za (wd (zj rfl) (zd (zr ?_)))))
   refine ⟨_,(zS (ze rfl)),?_⟩
   replace S:=S.arr [] []
   obtain rfl:=zbE H
   exact ⟨rfl,S⟩
  ·replace H:=if_f hc7 H
   refine zb (za (wd (zV rfl rfl) (wd (zj rfl) (zd ?_))))
   refine zJ rfl (fun hc9=>?_) (fun hc9=>?_)
   ·replace H:=if_t hc9 H
    refine zx ?_
    refine zJ rfl (fun hc10=>?_) (fun hc10=>?_)
    ·replace H:=if_t hc10 H
     refine zb (za (wd (zj rfl) (zd (zr ?_))))
     refine ⟨_,(zS (ze rfl)),?_⟩
     replace S:=S.arr [] []
     obtain rfl:=zbE H
     exact ⟨rfl,S⟩
    replace H:=if_f hc10 H
    refine zx (zb (za (wd (zj rfl) (zd (zr ?_)))))
    refine ⟨_,(zS (ze rfl)),?_⟩
    replace S:=S.arr [] []
    obtain rfl:=zbE H
    exact ⟨rfl,S⟩
   ·replace H:=if_f hc9 H
    refine zb (za (wd (zV rfl rfl) (wd (zj rfl) (zd ?_))))
    refine zJ rfl (fun hc11=>?_) (fun hc11=>?_)
    ·replace H:=if_t hc11 H
     refine zx ?_
     refine zJ rfl (fun hc12=>?_) (fun hc12=>?_)
     ·replace H:=if_t hc12 H
      refine zb (za (wd (zj rfl) (zd (zr ?_))))
      refine ⟨_,(zS (ze rfl)),?_⟩
      replace S:=S.arr [] []
      obtain rfl:=zbE H
      exact ⟨rfl,S⟩
     replace H:=if_f hc12 H
     refine zx (zb (za (wd (zj rfl) (zd (zr ?_)))))
     refine ⟨_,(zS (ze rfl)),?_⟩
     replace S:=S.arr [] []
     obtain rfl:=zbE H
     exact ⟨rfl,S⟩
    ·replace H:=if_f hc11 H
     refine za (wd (zV rfl rfl) (wd (zj rfl) (zd ?_)))
     refine zJ rfl (fun hc13=>?_) (fun hc13=>?_)
     ·replace H:=if_t hc13 H
      refine zb (za (wd (zj rfl) (zd (zr ?_))))
      refine ⟨_,(zS (ze rfl)),?_⟩
      replace S:=S.arr [] []
      obtain rfl:=zbE H
      exact ⟨rfl,S⟩
     replace H:=if_f hc13 H
     refine zx (zb (za (wd (zj rfl) (zd (zr ?_)))))
     refine ⟨_,(zS (ze rfl)),?_⟩
     replace S:=S.arr [] []
     obtain rfl:=zbE H
     exact ⟨rfl,S⟩
theorem reduce_rules_16_st {a0:Tb} {a_0:Option Addr} {a1:PTerm} {s_1:SlV} (S:St A N w w [] [oT a_0 a0,zg s_1 a1.sub]) {r:PTerm × Int} (H:zcw.f a0 a1=some r) :
  Calls PP vm #[.pointer a_0,.agg (tmC a1 s_1).toArray] w <| Rt fun v w'=>(∃ so0:SlV,v = .tuple #[.agg (tmC r.1 so0).toArray,.int .i64 r.2]∧St A N w w' [] [zg so0 r.1.sub]):=by
 unfold zcw.f at H
 refine zy (n:=10) Tryz.func128 rfl rfl zbC (zb (za ?_))
 refine zE rfl zbA fun b2 w1 hw1=>?_
 replace S:=S.new hw1
 refine zQ xC zbA fun b4 w3 hw3=>?_
 replace S:=S.new hw3
 refine wd (zh rfl) (zd (zb (za (wd (zf zG rfl (o':=4) rfl) (wd (zl zB rfl ((S.blk 1).cell (Term.get_sub _))) ?_)))))
 obtain ⟨hi5,H⟩ := xb H
 refine wd (does_indexF zz rfl rfl (S.onZ 1) (zM hi5).1 (zM hi5).2) ?_
 obtain ⟨s6,hc7,S⟩ := S.viewTerm 1 (zM hi5)
 replace S:=S
 refine wd (ldC rfl hc7) ?_
 refine wsT rfl rfl (S.blk 0) fun w8 B hw8 zw8=>?_
 replace S:=S.store 0 B hw8
 refine wd (zh rfl) (zd (zr ?_))
 refine ⟨_,(xd (rtT rfl (S.blk 0)) (ze rfl)),?_⟩
 replace S:=S.arr [] [0]
 obtain rfl:=zbE H
 exact ⟨s6,rfl,S⟩
theorem reduce_known_1_gst {zdZ:Tb→PTerm→Option Bool} (zdJ : ∀ {A:Nat→Prop} {N:Oth} {w:World} {a0:Tb} {a_0:Option Addr} {a1:PTerm} {s_1:SlV} (S:St A N w w [] [oT a_0 a0,zg s_1 a1.sub]) {r:Bool} (H:zdZ a0 a1=some r),Calls PP vb #[.pointer a_0,.agg (tmC a1 s_1).toArray] w <| Rt fun v w'=>(v = .bool r∧St A N w w' [] [])) {A:Nat→Prop} {N:Oth} {w:World} {a0:PTerm} {s_0:SlV} {a1:Tb} {b_1:Nat} {a_1_1:Option Addr} (S:St A N w w [] [zg s_0 a0.sub,oB b_1 vc [.pointer a_1_1],oT a_1_1 a1]) {r:Bool} (H:zcx.g zdZ a0 a1=some r) :
  Calls PP jk #[.agg (tmC a0 s_0).toArray,.pointer (some ⟨b_1,0,none⟩)] w <| Rt fun v w'=>(v = .bool r∧St A N w w' [] []):=by
 unfold zcx.g at H
 refine zy (n:=8) Tryz.func102 rfl rfl zbC (zb (za ?_))
 refine zE rfl zbA fun b2 w1 hw1=>?_
 replace S:=S.new hw1
 refine wd (zj rfl) (zd (zb (za (wd (zl xp rfl ((S.blkZ 1).cell rfl)) (wd (ldT rfl (S.blk 0)) ?_)))))
 obtain ⟨r3,er3,H⟩ := zq H
 obtain ⟨_,_,T,bk⟩ := S.calln 0 ((.z 2 rfl (.z 0 rfl .nil)))
 refine zu (zt ca_reduce_known) zbA (zdJ (a1:=a0) T er3) ?_
 rintro _ w4 ⟨rfl,S2⟩
 replace S:=bk _ _ _ _ S2 rfl
 refine wd (xg rfl) (wd (zj rfl) (zd (zr ?_)))
 refine ⟨_,(zS (ze rfl)),?_⟩
 replace S:=S.arr [] []
 obtain rfl:=zbE H
 exact ⟨rfl,S⟩
theorem vv {zdZ:Tb→PTerm→Option Bool} (zdJ : ∀ {A:Nat→Prop} {N:Oth} {w:World} {a0:Tb} {a_0:Option Addr} {a1:PTerm} {s_1:SlV} (S:St A N w w [] [oT a_0 a0,zg s_1 a1.sub]) {r:Bool} (H:zdZ a0 a1=some r),Calls PP vb #[.pointer a_0,.agg (tmC a1 s_1).toArray] w <| Rt fun v w'=>(v = .bool r∧St A N w w' [] [])) {A:Nat→Prop} {N:Oth} {w:World} {a0:List PTerm} {s_0:SlV} {a1_0:Tb} {b_1:Nat} {a_1_1:Option Addr} (S:St A N w w [] [zg s_0 a0,oB b_1 vc [.pointer a_1_1],oT a_1_1 a1_0]) {r:Int} (H:zcy.g zdZ a0 a1_0=some r) :
  Calls PP yv #[s_0.v,.func (.func jk) #[] #[.pointer (some ⟨b_1,0,none⟩)]] w <| Rt fun v w'=>(v = .int .i64 r∧St A N w w' [] []):=by
 unfold zcy.g at H
 refine zy (n:=19) Tryz.func162 rfl rfl zbC (zb (za (wd (zh rfl) (zd (zb (zb (za (wd (zP rfl) ?_))))))))
 refine wd (does_lenF zz rfl (S.onZ 0)) (wd (zi rfl) (zd ?_))
 obtain ⟨o1,e1,Ho1⟩ := zq H
 clear H
 refine xV ([4,5] ++ rg 8 11) (fun fr W => ∃ s1:Unit,o1 = .inl s1∧St A N w W [] [zg s_0 a0,oB b_1 vc [.pointer a_1_1],oT a_1_1 a1_0]) ?_ ?_
 ·refine zO ?_
  refine xR (α:=Nat × Int × Unit) ([4,5] ++ rg 8 11) (fun x fr W=>(x.1:Int)=(a0.length:Int) - x.2.1∧0 ≤ x.2.1∧forN (fun i s=>zcy.b0 zdZ a0 a1_0 i) x.1 x.2.1 x.2.2=some o1∧fr 8 = .int .i64 x.2.1∧St A N w W [] [zg s_0 a0,oB b_1 vc [.pointer a_1_1],oT a_1_1 a1_0]) (fun x=>x.1) (((a0.length:Int) - 0).toNat,0,()) ⟨(by dsimp only; have hle:=Int.natCast_nonneg (a0.length); omega),(Int.le_refl _),(by dsimp only; exact e1),rfl,S⟩ ?_
  rintro ⟨m1,i1,_⟩ g1 u1 ⟨hm1,hl1,e1,q1_i,S⟩
  try dsimp only at hm1
  try dsimp only at hl1
  try dsimp only at e1
  try dsimp only at S
  try dsimp only at q1_i
  refine zb (za (wd (xy q1_i rfl) (zd (zb ?_))))
  refine zJ rfl (fun hc2=>?_) (fun hc2=>?_)
  rotate_left
  ·refine x0 ?_
   have hge:(a0.length:Int) ≤ i1:=Int.not_lt.1 (of_decide_eq_false hc2)
   obtain rfl:m1=0:=by omega
   replace e1:=zbf e1
   exact ⟨rfl,df,(),e1,S⟩
  refine zx ?_
  have hlt1:i1 < (a0.length:Int):=of_decide_eq_true hc2
  obtain ⟨m1,rfl⟩ : ∃ m,m1=m + 1:=⟨m1 - 1,by omega⟩
  obtain ⟨q1,H,e1⟩ := zbg e1
  unfold zcy.b0 at H
  try dsimp only at H
  have hb1:=(S.lenFZ 0)
  refine zb ?_
  refine zO (zb (za (wd (zi q1_i) (wd (zh rfl) (zd (zb (za ?_)))))))
  refine wd (jR rfl) (wd (zP rfl) (wd (zi rfl) (wd (does_indexF zz rfl rfl (S.onZ 0) (And.intro (show 0 ≤ i1 by omega) (show i1 < (a0.length:Int) from hlt1)).1 (And.intro (show 0 ≤ i1 by omega) (show i1 < (a0.length:Int) from hlt1)).2) ?_)))
  obtain ⟨s4,hc5,S⟩ := S.viewTerm 0 (And.intro (show 0 ≤ i1 by omega) (show i1 < (a0.length:Int) from hlt1))
  replace S:=S
  refine wd (ldC rfl hc5) ?_
  obtain ⟨r6,er6,H⟩ := zq H
  obtain ⟨_,_,T,bk⟩ := S.calln 0 ((.z 0 rfl (.z 2 rfl (.z 3 rfl .nil))))
  refine zu (y5 ca_reduce_known_1 rfl) zbA (reduce_known_1_gst zdJ (a0:=(at_ PTerm.z a0 i1)) T er6) ?_
  rintro _ w7 ⟨rfl,S2⟩
  replace S:=bk _ _ _ _ S2 rfl
  refine zd ?_
  refine zJ rfl (fun hc9=>?_) (fun hc9=>?_)
  ·replace H:=if_t hc9 H
   refine zb (za (wd (zi rfl) (wd (zh rfl) (zd (zr ?_)))))
   refine ⟨_,(zS (ze rfl)),?_⟩
   replace S:=S.arr [] []
   obtain rfl:=zbE H
   obtain rfl:=e1
   obtain rfl:=uI Ho1
   exact ⟨rfl,S⟩
  replace H:=if_f hc9 H
  refine zx (za (wd (xt q1_i rfl (c:=i1 + 1) rfl zbB zbB) (wd (zi rfl) (zd ?_))))
  replace S:=S.arr [] [1,2,3]
  obtain rfl:=zbE H
  exact ⟨rfl,df,(m1,i1 + 1,()),⟨(by dsimp only; omega),(by dsimp only; omega),e1,rfl,S⟩,by dsimp only; omega⟩
 rintro g10 u11 ⟨s1,rfl,S⟩
 have H:=Ho1
 dsimp only [aft] at H
 refine zb (za (wd (zh rfl) (zd (zr ?_))))
 refine ⟨_,(zS (ze rfl)),?_⟩
 replace S:=S.arr [] []
 obtain rfl:=zbE H
 exact ⟨rfl,S⟩
theorem va {zdZ:Tb→PTerm→Option Bool} (zdJ : ∀ {A:Nat→Prop} {N:Oth} {w:World} {a0:Tb} {a_0:Option Addr} {a1:PTerm} {s_1:SlV} (S:St A N w w [] [oT a_0 a0,zg s_1 a1.sub]) {r:Bool} (H:zdZ a0 a1=some r),Calls PP vb #[.pointer a_0,.agg (tmC a1 s_1).toArray] w <| Rt fun v w'=>(v = .bool r∧St A N w w' [] [])) {A:Nat→Prop} {N:Oth} {w:World} {a0:List PTerm} {s_0:SlV} {a1_0:Tb} {b_1:Nat} {a_1_1:Option Addr} (S:St A N w w [] [zg s_0 a0,oB b_1 vc [.pointer a_1_1],oT a_1_1 a1_0]) {r:Bool} (H:zcz.g zdZ a0 a1_0=some r) :
  Calls PP yl #[s_0.v,.func (.func jk) #[] #[.pointer (some ⟨b_1,0,none⟩)]] w <| Rt fun v w'=>(v = .bool r∧St A N w w' [] []):=by
 unfold zcz.g at H
 refine zy (n:=9) Tryz.func101 rfl rfl zbC (zb (za (wd (zj rfl) (zd (zb (za (wd (zP rfl) ?_)))))))
 refine wd (jR rfl) ?_
 obtain ⟨r1,er1,H⟩ := zq H
 obtain ⟨_,_,T,bk⟩ := S.calln 0 ((.z 0 rfl (.z 1 rfl (.z 2 rfl .nil))))
 refine zu (zt vn) zbA (vv zdJ T er1) ?_
 rintro _ w2 ⟨rfl,S2⟩
 replace S:=bk _ _ _ _ S2 rfl
 refine wd (jo rfl rfl) (wd (zj rfl) (zd (zr ?_)))
 refine ⟨_,(zS (ze rfl)),?_⟩
 replace S:=S.arr [] []
 obtain rfl:=zbE H
 exact ⟨rfl,S⟩
theorem reduce_known_gst {zdZ:Tb→PTerm→Option Bool} (zdJ : ∀ {A:Nat→Prop} {N:Oth} {w:World} {a0:Tb} {a_0:Option Addr} {a1:PTerm} {s_1:SlV} (S:St A N w w [] [oT a_0 a0,zg s_1 a1.sub]) {r:Bool} (H:zdZ a0 a1=some r),Calls PP vb #[.pointer a_0,.agg (tmC a1 s_1).toArray] w <| Rt fun v w'=>(v = .bool r∧St A N w w' [] [])) {A:Nat→Prop} {N:Oth} {w:World} {a0:Tb} {a_0:Option Addr} {a1:PTerm} {s_1:SlV} (S:St A N w w [] [oT a_0 a0,zg s_1 a1.sub]) {r:Bool} (H:zcA.g zdZ a0 a1=some r) :
  Calls PP vb #[.pointer a_0,.agg (tmC a1 s_1).toArray] w <| Rt fun v w'=>(v = .bool r∧St A N w w' [] []):=by
 unfold zcA.g at H
 refine zy (n:=20) Tryz.func67 rfl rfl zbC (zb (za ?_))
 refine wl_box_p rfl zbA fun b2 w1 hw1=>?_
 replace S:=S.new hw1
 refine zE rfl zbA fun b4 w3 hw3=>?_
 replace S:=S.new hw3
 refine wd (zj rfl) (zd (zb (zb ?_)))
 refine yt 8 (Ext w3) hmix zbD zbD (Ext.drawn _) (zD (fun v K=>zf xj rfl (o':=0) rfl) (zD (fun v K=>zl zY rfl (((S.ext K).blk 0).cell (Term.get_kind _))) (zD (fun v K=>zV rfl rfl) (zD (fun v K=>zA rfl) (zbz (j:=3) (pol:=true) rfl rfl rfl (fun hg v K=>zf yG rfl (o':=3) rfl) ?_)))))
 refine zbz (j:=3) (pol:=true) rfl rfl rfl (fun hg v K=>zl xv (zp hg) (((S.ext K).blk 0).cell (Term.get_form _))) (zbz (j:=3) (pol:=true) rfl rfl rfl (fun hg v K=>zl xp rfl (((S.ext K).blk 1).cell rfl)) ?_)
 obtain ⟨r5,er5,H⟩ := zq H
 refine wq_gcall (j:=3) (pol:=true) rfl rfl rfl (fun hg v=>zF ca_formula_Table_Len (zK (zp hg) rfl)) (fun hg v K=>(have ⟨M,SS⟩ := (S.ext K).lend ((.z 0 rfl .nil)); quiet (formula_Table_Len_st SS (if_t (by simpa using hg) er5)) (fun v w' h=>⟨h.1,_,_,h.2⟩))) (fun v v' K h=>K.thenExt h) ?_
 refine vY fun w6 K=>?_
 replace S:=S.ext K
 clear K
 refine wg (fun hg=>jo (zp hg) (zp hg)) (wd (zZ rfl (fun hp=>(zp (xz hp)))) (zd ?_))
 refine zJ rfl (fun hc7=>?_) (fun hc7=>?_)
 ·replace H:=if_t hc7 H
  refine zb (za (wd (zj rfl) (zd (zr ?_))))
  refine ⟨_,(zS (ze rfl)),?_⟩
  replace S:=S.arr [] []
  obtain rfl:=zbE H
  exact ⟨rfl,S⟩
 replace H:=if_f hc7 H
 refine zx (zb (za (wd (zf zG rfl (o':=4) rfl) (wd (zl zB rfl ((S.blk 0).cell (Term.get_sub _))) (wd (does_funcl) ?_)))))
 obtain ⟨r8,er8,H⟩ := zq H
 obtain ⟨_,_,T,bk⟩ := S.calln 0 ((.z 1 rfl (.o 1 rfl (.z 0 rfl .nil))))
 refine zu (zt yU) zbA (va zdJ T er8) ?_
 rintro _ w9 ⟨rfl,S2⟩
 replace S:=bk _ _ _ _ S2 rfl
 refine wd (xg rfl) (wd (zj rfl) (zd (zr ?_)))
 refine ⟨_,(zS (ze rfl)),?_⟩
 replace S:=S.arr [] []
 obtain rfl:=zbE H
 exact ⟨rfl,S⟩
theorem reduce_known_st {a0:Tb} {a_0:Option Addr} {a1:PTerm} {s_1:SlV} (S:St A N w w [] [oT a_0 a0,zg s_1 a1.sub]) {k:Nat} {r:Bool} (H:zcA.f k a0 a1=some r) :
  Calls PP vb #[.pointer a_0,.agg (tmC a1 s_1).toArray] w <| Rt fun v w'=>(v = .bool r∧St A N w w' [] []):=by
 have main : ∀ (k:Nat) {A:Nat→Prop} {N:Oth} {w:World} {a0:Tb} {a_0:Option Addr} {a1:PTerm} {s_1:SlV} (S:St A N w w [] [oT a_0 a0,zg s_1 a1.sub]) {r:Bool} (H:zcA.f k a0 a1=some r),Calls PP vb #[.pointer a_0,.agg (tmC a1 s_1).toArray] w <| Rt fun v w'=>(v = .bool r∧St A N w w' [] []):=by
  intro k
  induction k with
  | zero=>intro A N w a0 a_0 a1 s_1 S r H; cases H
  | succ k ih=>intro A N w a0 a_0 a1 s_1 S r H; exact reduce_known_gst ih S H
 exact main k S H
theorem reduce_rules_st  (S:St A N w w [] [oPw]) {r:Unit} (H:zcB.f  = some r) :
  Calls PP F_reduce_rules #[] w <| Rt fun v w'=>(∃ so0:SlV,v=so0.v∧St A N w w' [oS jF 2 RRule.C so0 zby] []):=by
 unfold zcB.f at H
 refine zy (n:=10) Tryz.func68 rfl rfl zbC (zb (za (wd (x7) (zd (zb (za (wd (Does.to (v':=Value.agg (RRule.C (ju 0)).toArray) (z1 (vs:=[(0,.func (.func ur) #[] #[]),(1,.func (.func vI) #[] #[])]) j7 (xT rfl (xT rfl rfl)) (Bld.one rfl rfl (by rw [RRule.len]; decide) (RRule.set_fits _ (.mk (.func ur) #[] #[])) (Bld.one rfl rfl (by rw [RRule.len]; decide) (RRule.set_does _ (.mk (.func vI) #[] #[])) Bld.nil))) rfl) ?_)))))))
 refine wd (Does.to (v':=Value.agg (RRule.C (ju 1)).toArray) (z1 (vs:=[(0,.func (.func ut) #[] #[]),(1,.func (.func vJ) #[] #[])]) j7 (xT rfl (xT rfl rfl)) (Bld.one rfl rfl (by rw [RRule.len]; decide) (RRule.set_fits _ (.mk (.func ut) #[] #[])) (Bld.one rfl rfl (by rw [RRule.len]; decide) (RRule.set_does _ (.mk (.func vJ) #[] #[])) Bld.nil))) rfl) (wd (Does.to (v':=Value.agg (RRule.C (ju 2)).toArray) (z1 (vs:=[(0,.func (.func uu) #[] #[]),(1,.func (.func vK) #[] #[])]) j7 (xT rfl (xT rfl rfl)) (Bld.one rfl rfl (by rw [RRule.len]; decide) (RRule.set_fits _ (.mk (.func uu) #[] #[])) (Bld.one rfl rfl (by rw [RRule.len]; decide) (RRule.set_does _ (.mk (.func vK) #[] #[])) Bld.nil))) rfl) (wd (Does.to (v':=Value.agg (RRule.C (ju 3)).toArray) (z1 (vs:=[(0,.func (.func uv) #[] #[]),(1,.func (.func vM) #[] #[])]) j7 (xT rfl (xT rfl rfl)) (Bld.one rfl rfl (by rw [RRule.len]; decide) (RRule.set_fits _ (.mk (.func uv) #[] #[])) (Bld.one rfl rfl (by rw [RRule.len]; decide) (RRule.set_does _ (.mk (.func vM) #[] #[])) Bld.nil))) rfl) (wd (Does.to (v':=Value.agg (RRule.C (ju 4)).toArray) (z1 (vs:=[(0,.func (.func uw) #[] #[]),(1,.func (.func vj) #[] #[])]) j7 (xT rfl (xT rfl rfl)) (Bld.one rfl rfl (by rw [RRule.len]; decide) (RRule.set_fits _ (.mk (.func uw) #[] #[])) (Bld.one rfl rfl (by rw [RRule.len]; decide) (RRule.set_does _ (.mk (.func vj) #[] #[])) Bld.nil))) rfl) (wd (Does.to (v':=Value.agg (RRule.C (ju 5)).toArray) (z1 (vs:=[(0,.func (.func vZ) #[] #[]),(1,.func (.func vk) #[] #[])]) j7 (xT rfl (xT rfl rfl)) (Bld.one rfl rfl (by rw [RRule.len]; decide) (RRule.set_fits _ (.mk (.func vZ) #[] #[])) (Bld.one rfl rfl (by rw [RRule.len]; decide) (RRule.set_does _ (.mk (.func vk) #[] #[])) Bld.nil))) rfl) (wd (Does.to (v':=Value.agg (RRule.C (ju 6)).toArray) (z1 (vs:=[(0,.func (.func v6) #[] #[]),(1,.func (.func vl) #[] #[])]) j7 (xT rfl (xT rfl rfl)) (Bld.one rfl rfl (by rw [RRule.len]; decide) (RRule.set_fits _ (.mk (.func v6) #[] #[])) (Bld.one rfl rfl (by rw [RRule.len]; decide) (RRule.set_does _ (.mk (.func vl) #[] #[])) Bld.nil))) rfl) ?_)))))
 refine wd (Does.to (v':=Value.agg (RRule.C (ju 7)).toArray) (z1 (vs:=[(0,.func (.func v7) #[] #[]),(1,.func (.func vm) #[] #[])]) j7 (xT rfl (xT rfl rfl)) (Bld.one rfl rfl (by rw [RRule.len]; decide) (RRule.set_fits _ (.mk (.func v7) #[] #[])) (Bld.one rfl rfl (by rw [RRule.len]; decide) (RRule.set_does _ (.mk (.func vm) #[] #[])) Bld.nil))) rfl) ?_
 refine vD (C:=RRule.C) (l:=zby) (vs:=[.agg (RRule.C (ju 0)).toArray,.agg (RRule.C (ju 1)).toArray,.agg (RRule.C (ju 2)).toArray,.agg (RRule.C (ju 3)).toArray,.agg (RRule.C (ju 4)).toArray,.agg (RRule.C (ju 5)).toArray,.agg (RRule.C (ju 6)).toArray,.agg (RRule.C (ju 7)).toArray]) yh el_RRule.zero rfl rfl (fun a _=>RRule.len a) zbA rfl zbA fun b2 w1 s3 hBw1 hw1=>?_
 replace S:=S.lit hBw1 hw1 zbA
 refine wd (y4 rfl) (zd (zr ?_))
 refine ⟨_,(zS (ze rfl)),?_⟩
 replace S:=S.arr [0] []
 obtain rfl:=zbE H
 exact ⟨s3,rfl,S⟩
theorem zaq {a0:Tb} {a_0:Option Addr} {a1:PTerm} {s_1:SlV} (S:St A N w w [] [oT a_0 a0,zg s_1 a1.sub,oPw]) {k:Nat} {r:Bool × Int} (H:zcC.f k a0 a1=some r) :
  Calls PP F_reduce_begun #[.pointer a_0,.agg (tmC a1 s_1).toArray] w <| Rt fun v w'=>(∃ ao0:Option Addr,v = .tuple #[.pointer ao0,.int .i64 r.2]∧St A N w w' [] [oMa ao0 a_0 r.1]):=by
 unfold zcC.f at H
 refine zy (n:=23) Tryz.func38 rfl rfl zbC ?_
 refine zb (za ?_)
 refine zE rfl zbA fun b2 w1 hw1=>?_
 replace S:St A N w w1 [oB b2 zo (tmC a1 s_1)] [oT a_0 a0,zg s_1 a1.sub,oPw]:=S.new hw1
 refine wd (zX rfl) ?_
 replace S:St A N w w1 [oB b2 zo (tmC a1 s_1)] [oMa none a_0 false,oT a_0 a0,zg s_1 a1.sub,oPw]:=S.nil_oMaZ
 refine wd (zh rfl) ?_
 refine zd ?_
 refine zb (zb (za ?_))
 refine wd (zw rfl) ?_
 obtain ⟨r3,er3,H⟩ := zq H
 obtain ⟨_,_,T,bk⟩ := S.calln 0 ((.z 1 rfl .nil))
 refine zu (zt ca_formula_Table_Copy) zbA (formula_Table_Copy_st T er3) ?_
 rintro _ w4 ⟨a6,rfl,hnilw4,S2⟩
 replace S:St A N w w4 [oT a6 r3,oB b2 zo (tmC a1 s_1)] [oMa none a_0 false,oT a_0 a0,zg s_1 a1.sub,oPw]:=bk _ _ _ _ S2 rfl
 refine wd (does_isnilp vW rfl rfl hnilw4) ?_
 refine zd ?_
 refine zJ rfl (fun hc7=>?_) (fun hc7=>?_)
 ·replace H:=if_t hc7 H
  refine zb (za ?_)
  refine wd (zX rfl) ?_
  replace S:St A N w w4 [oT a6 r3,oB b2 zo (tmC a1 s_1)] [oMa none a_0 false,oMa none a_0 false,oT a_0 a0,zg s_1 a1.sub,oPw]:=S.nil_oMaZ
  refine wd (zh rfl) ?_
  refine zd ?_
  refine zr ?_
  refine ⟨_,(xd (ze rfl) (ze rfl)),?_⟩
  replace S:St A N w w4 [] [oMa none a_0 false]:=S.arr [] [0]
  obtain rfl:=zbE H
  exact ⟨none,rfl,S⟩
 replace H:=if_f hc7 H
 refine zx ?_
 refine zb (zb (za ?_))
 refine wd (ldT rfl (S.blk 1)) ?_
 obtain ⟨r8,er8,H⟩ := zq H
 obtain ⟨_,_,T,bk⟩ := S.calln 0 ((.z 2 rfl .nil))
 refine zu (zt uM) zbA (uO (a0:=a1) T er8) ?_
 rintro _ w9 ⟨rfl,S2⟩
 replace S:St A N w w9 [oT a6 r3,oB b2 zo (tmC a1 s_1)] [oMa none a_0 false,oT a_0 a0,zg s_1 a1.sub,oPw]:=bk _ _ _ _ S2 rfl
 refine wd (zh rfl) ?_
 refine zd ?_
 refine zb (za ?_)
 refine wd (zi rfl) ?_
 refine wd (xr rfl rfl) ?_
 refine zd ?_
 refine zJ rfl (fun hc11=>?_) (fun hc11=>?_)
 ·replace H:=if_t hc11 H
  refine zb (za ?_)
  refine wd (zi rfl) ?_
  refine wd (zX rfl) ?_
  replace S:St A N w w9 [oT a6 r3,oB b2 zo (tmC a1 s_1)] [oMa none a_0 false,oMa none a_0 false,oT a_0 a0,zg s_1 a1.sub,oPw]:=S.nil_oMaZ
  refine wd (zh rfl) ?_
  refine zd ?_
  refine zr ?_
  refine ⟨_,(xd (ze rfl) (ze rfl)),?_⟩
  replace S:St A N w w9 [] [oMa none a_0 false]:=S.arr [] [0]
  obtain rfl:=zbE H
  exact ⟨none,rfl,S⟩
 replace H:=if_f hc11 H
 refine zx ?_
 refine zb (zb (za ?_))
 refine wd (zw rfl) ?_
 refine wd (ldT rfl (S.blk 1)) ?_
 obtain ⟨r12,er12,H⟩ := zq H
 obtain ⟨_,_,T,bk⟩ := S.calln 0 ((.z 1 rfl (.z 2 rfl .nil)))
 refine zu (zt ca_reduce_known) zbA (reduce_known_st (a1:=a1) T er12) ?_
 rintro _ w13 ⟨rfl,S2⟩
 replace S:St A N w w13 [oT a6 r3,oB b2 zo (tmC a1 s_1)] [oMa none a_0 false,oT a_0 a0,zg s_1 a1.sub,oPw]:=bk _ _ _ _ S2 rfl
 refine wd (xg rfl) ?_
 refine zd ?_
 refine zJ rfl (fun hc15=>?_) (fun hc15=>?_)
 ·replace H:=if_t hc15 H
  refine zb (za ?_)
  refine wd (zX rfl) ?_
  replace S:St A N w w13 [oT a6 r3,oB b2 zo (tmC a1 s_1)] [oMa none a_0 false,oMa none a_0 false,oT a_0 a0,zg s_1 a1.sub,oPw]:=S.nil_oMaZ
  refine wd (zh rfl) ?_
  refine zd ?_
  refine zr ?_
  refine ⟨_,(xd (ze rfl) (ze rfl)),?_⟩
  replace S:St A N w w13 [] [oMa none a_0 false]:=S.arr [] [0]
  obtain rfl:=zbE H
  exact ⟨none,rfl,S⟩
 replace H:=if_f hc15 H
 refine zx ?_
 refine zb (za ?_)
 refine wd (zw rfl) ?_
 obtain ⟨r16,er16,H⟩ := zq H
 obtain ⟨_,_,T,bk⟩ := S.calln 0 ((.z 3 rfl .nil))
 refine zu (zt ca_reduce_rules) zbA (reduce_rules_st T er16) ?_
 rintro _ w17 ⟨s19,rfl,S2⟩
 replace S:St A N w w17 [oS jF 2 RRule.C s19 zby,oT a6 r3,oB b2 zo (tmC a1 s_1)] [oMa none a_0 false,oT a_0 a0,zg s_1 a1.sub,oPw]:=bk _ _ _ _ S2 rfl
 refine wd (Does.to (v' := .agg (Machine.C (⟨a_0,s19⟩ : Machine)).toArray) (z1 (vs:=[(0,.pointer a_0),(1,s19.v)]) bu_Machine (xT rfl (xT rfl rfl)) (Bld.one rfl rfl (by rw [Machine.len]; decide) (Machine.set_t _ _) (Bld.one rfl (SlV.one _ _ rfl) (by rw [Machine.len]; decide) (Machine.set_rules _ _) Bld.nil))) rfl) ?_
 refine zE rfl zbA fun b21 w20 hw20=>?_
 replace S:St A N w w20 [oB b21 kB (Machine.C (⟨a_0,s19⟩ : Machine)),oS jF 2 RRule.C s19 zby,oT a6 r3,oB b2 zo (tmC a1 s_1)] [oMa none a_0 false,oT a_0 a0,zg s_1 a1.sub,oPw]:=S.new hw20
 replace S:=S.front 1
 replace S:=S.front 1
 replace S:St A N w w20 [oMa (some ⟨b21,0,none⟩) a_0 true,oT a6 r3,oB b2 zo (tmC a1 s_1)] [oMa none a_0 false,oT a_0 a0,zg s_1 a1.sub,oPw]:=S.shut_oMa rfl
 replace S:St A N w w20 [oT a6 r3,oB b2 zo (tmC a1 s_1)] [oMa (some ⟨b21,0,none⟩) a_0 true,oMa none a_0 false,oT a_0 a0,zg s_1 a1.sub,oPw]:=S.frzO 0
 refine wd (zX rfl) ?_
 refine wd (zh rfl) ?_
 refine zd ?_
 refine zr ?_
 refine ⟨_,(xd (ze rfl) (ze rfl)),?_⟩
 replace S:St A N w w20 [] [oMa (some ⟨b21,0,none⟩) a_0 true]:=S.arr [] [0]
 obtain rfl:=zbE H
 exact ⟨(some ⟨b21,0,none⟩),rfl,S⟩
end
section
open Go.RowKit
namespace Gw
variable {Z:List OA}
theorem tl10 {a0 a1 a2 a3 a4 a5 a6 a7 a8 a9:OA} : ∀ z ∈ Z,z ∈ a0 :: a1 :: a2 :: a3 :: a4 :: a5 :: a6 :: a7 :: a8 :: a9 :: Z:=fun z q => .tail _ (.tail _ (.tail _ (.tail _ (.tail _ (.tail _ (.tail _ (.tail _ (.tail _ (.tail _ (q))))))))))
theorem tl11 {a0 a1 a2 a3 a4 a5 a6 a7 a8 a9 a10:OA} : ∀ z ∈ Z,z ∈ a0 :: a1 :: a2 :: a3 :: a4 :: a5 :: a6 :: a7 :: a8 :: a9 :: a10 :: Z:=fun z q => .tail _ (.tail _ (.tail _ (.tail _ (.tail _ (.tail _ (.tail _ (.tail _ (.tail _ (.tail _ (.tail _ (q)))))))))))
theorem tl14 {a0 a1 a2 a3 a4 a5 a6 a7 a8 a9 a10 a11 a12 a13:OA} : ∀ z ∈ Z,z ∈ a0 :: a1 :: a2 :: a3 :: a4 :: a5 :: a6 :: a7 :: a8 :: a9 :: a10 :: a11 :: a12 :: a13 :: Z:=fun z q => .tail _ (.tail _ (.tail _ (.tail _ (.tail _ (.tail _ (.tail _ (.tail _ (.tail _ (.tail _ (.tail _ (.tail _ (.tail _ (.tail _ (q))))))))))))))
theorem tl15 {a0 a1 a2 a3 a4 a5 a6 a7 a8 a9 a10 a11 a12 a13 a14:OA} : ∀ z ∈ Z,z ∈ a0 :: a1 :: a2 :: a3 :: a4 :: a5 :: a6 :: a7 :: a8 :: a9 :: a10 :: a11 :: a12 :: a13 :: a14 :: Z:=fun z q => .tail _ (.tail _ (.tail _ (.tail _ (.tail _ (.tail _ (.tail _ (.tail _ (.tail _ (.tail _ (.tail _ (.tail _ (.tail _ (.tail _ (.tail _ (q)))))))))))))))
end Gw
end
section
open Gw
theorem term_clone_nil {zeg:PTerm→Option PTerm} {a0 r:PTerm} (h:a0.sub=[]) (H:zcH.g zeg a0=some r):some a0=some r:=by
 unfold zcH.g at H
 rw [h] at H
 cases a0
 simp only [PTerm.sub] at h
 subst h
 exact H
end
section
open Gw Go.RowKit
set_option maxHeartbeats 4000000
set_option maxRecDepth 20000
variable {A:Nat→Prop} {N:Oth} {w:World}
theorem zbl {a0:PTerm} {s_0:SlV} {a1:Int} (S:St A N w w [] [zg s_0 a0.sub]) {r:ByteArray} (H:zcD.f a0 a1=some r) :
  Calls PP F_term_binds #[.agg (tmC a0 s_0).toArray,.int .i64 a1] w <| Rt fun v w'=>(v = .string r∧St A N w w' [] []):=by
 unfold zcD.f at H
 refine zy (n:=35) Tryz.func84 rfl rfl zbC (zb (za ?_))
 refine zE rfl zbA fun b2 w1 hw1=>?_
 replace S:=S.new hw1
 refine wd (uN rfl) (zd (zb ?_))
 refine zO (zb (za (wd (zf xj rfl (o':=0) rfl) (wd (zl zY rfl ((S.blk 0).cell (Term.get_kind _))) (wd (zV rfl rfl) (wd (zA rfl) ?_))))))
 refine wg (fun hg=>zi rfl) ?_
 refine wg (fun hg=>zV (zp hg) rfl) ?_
 refine wg (fun hg=>zA (zp hg)) (xq (j:=6) (pol:=true) rfl rfl rfl zbA (fun hg=>zf xj rfl (o':=0) rfl) zbA (xq (j:=6) (pol:=true) rfl rfl rfl zbA (fun hg=>zl zY (zp hg) ((S.blk 0).cell (Term.get_kind _))) zbA (xq (j:=6) (pol:=true) rfl rfl rfl zbA (fun hg=>zV (zp hg) rfl) zbA (xq (j:=6) (pol:=true) rfl rfl rfl zbA (fun hg=>zA (zp hg)) zbA (xq (j:=10) (pol:=false) rfl rfl rfl zbA (fun hg=>zf xj rfl (o':=0) rfl) zbA ?_)))))
 refine xq (j:=10) (pol:=false) rfl rfl rfl zbA (fun hg=>zl zY (zp hg) ((S.blk 0).cell (Term.get_kind _))) zbA (xq (j:=10) (pol:=false) rfl rfl rfl zbA (fun hg=>zV (zp hg) rfl) zbA (xq (j:=6) (pol:=true) rfl rfl rfl zbA (fun hg=>xJ (zp hg) (fun hp=>(zp (and_b hg hp)))) zbA ?_))
 refine wg (fun hg=>zZ (zp hg) (fun hp=>(zp (and_b hg hp)))) (wd (xJ rfl (fun hp=>(zp (xz hp)))) (wd (zj rfl) (zd ?_)))
 refine zJ rfl (fun hc3=>?_) (fun hc3=>?_)
 ·replace H:=if_t hc3 H
  refine zb (za (wd (zf xK rfl (o':=1) rfl) (wd (zl xk rfl ((S.blk 0).cell (Term.get_name _))) (wd (uN rfl) (zd (zr ?_))))))
  refine ⟨_,(zS (ze rfl)),?_⟩
  replace S:=S.arr [] []
  obtain rfl:=zbE H
  exact ⟨rfl,S⟩
 replace H:=if_f hc3 H
 refine zb (za (wd (zf xj rfl (o':=0) rfl) (wd (zl zY rfl ((S.blk 0).cell (Term.get_kind _))) (wd (zV rfl rfl) (wd (zA rfl) ?_)))))
 refine wg (fun hg=>zi rfl) ?_
 refine wg (fun hg=>zV (zp hg) rfl) (wd (zZ rfl (fun hp=>(zp (xz hp)))) (wd (zj rfl) (zd ?_)))
 refine zJ rfl (fun hc4=>?_) (fun hc4=>?_)
 ·replace H:=if_t hc4 H
  refine zb (za (wd (zf vH rfl (o':=2) rfl) (wd (zl xk rfl ((S.blk 0).cell (Term.get_other _))) (wd (uN rfl) (zd (zr ?_))))))
  refine ⟨_,(zS (ze rfl)),?_⟩
  replace S:=S.arr [] []
  obtain rfl:=zbE H
  exact ⟨rfl,S⟩
 replace H:=if_f hc4 H
 refine zx (zb (za (wd (uN rfl) (zd (zr ?_)))))
 refine ⟨_,(zS (ze rfl)),?_⟩
 replace S:=S.arr [] []
 obtain rfl:=zbE H
 exact ⟨rfl,S⟩
theorem term_grown_gst {zei:PTerm→ByteArray→Int→Int→Option (Int × Int)} (zdS : ∀ {A:Nat→Prop} {N:Oth} {w:World} {a0:PTerm} {s_0:SlV} {a1:ByteArray} {a2:Int} {a3:Int} (S:St A N w w [] [zg s_0 a0.sub]) {r:Int × Int} (H:zei a0 a1 a2 a3=some r),Calls PP j1 #[.agg (tmC a0 s_0).toArray,.string a1,.int .i64 a2,.int .i64 a3] w <| Rt fun v w'=>(v = .tuple #[.int .i64 r.1,.int .i64 r.2]∧St A N w w' [] [])) {A:Nat→Prop} {N:Oth} {w:World} {a0:PTerm} {s_0:SlV} {a1:ByteArray} {a2:Int} {a3:Int} (S:St A N w w [] [zg s_0 a0.sub]) {k:Nat} {r:Int × Int} (H:zcE.g zei k a0 a1 a2 a3=some r) :
  Calls PP j1 #[.agg (tmC a0 s_0).toArray,.string a1,.int .i64 a2,.int .i64 a3] w <| Rt fun v w'=>(v = .tuple #[.int .i64 r.1,.int .i64 r.2]∧St A N w w' [] []):=by
 unfold zcE.g at H
 refine zy (n:=60) Tryz.func164 rfl rfl zbC (zb (za ?_))
 refine zE rfl zbA fun b2 w1 hw1=>?_
 replace S:=S.new hw1
 refine wd (zh rfl) (wd (zh rfl) (zd (zb (zb (za (wd (zf xj rfl (o':=0) rfl) (wd (zl zY rfl ((S.blk 0).cell (Term.get_kind _))) ?_)))))))
 refine wd (zV rfl rfl) (zd ?_)
 refine zJ rfl (fun hc3=>?_) (fun hc3=>?_)
 ·replace H:=if_t hc3 H
  refine zb (zb (za (wd (zf xK rfl (o':=1) rfl) (wd (zl xk rfl ((S.blk 0).cell (Term.get_name _))) (wd (xa rfl) (wd (yX rfl rfl) (zd ?_)))))))
  refine zJ rfl (fun hc4=>?_) (fun hc4=>?_)
  ·replace H:=if_t hc4 H
   refine zb (za (wd (zi rfl) (wd (zi rfl) (wd (zh rfl) (wd (zh rfl) (zd (zr ?_)))))))
   refine ⟨_,(xd (ze rfl) (ze rfl)),?_⟩
   replace S:=S.arr [] []
   obtain rfl:=zbE H
   exact ⟨rfl,S⟩
  replace H:=if_f hc4 H
  refine zx (zb (za (wd (zh rfl) (wd (zh rfl) (zd (zr ?_))))))
  refine ⟨_,(xd (ze rfl) (ze rfl)),?_⟩
  replace S:=S.arr [] []
  obtain rfl:=zbE H
  exact ⟨rfl,S⟩
 replace H:=if_f hc3 H
 refine zx (zb (za (wd (zh rfl) (wd (zh rfl) (zd (zb (zb (za ?_))))))))
 refine wd (zf zG rfl (o':=4) rfl) (wd (zl zB rfl ((S.blk 0).cell (Term.get_sub _))) (wd (does_lenF zz rfl (S.onZ 0)) (wd (zi rfl) (zd ?_))))
 obtain ⟨o5,e5,Ho5⟩ := zq H
 clear H
 refine xV ([10,11,12,13,14,15] ++ rg 28 29) (fun fr W=>fr 10 = .int .i64 o5.1∧fr 11 = .int .i64 o5.2∧St A N w W [oB b2 zo (tmC a0 s_0)] [zg s_0 a0.sub]) ?_ ?_
 ·refine zO ?_
  refine xR (α:=Nat × Int × (Int × Int)) ([10,11,12,13,14,15] ++ rg 28 29) (fun x fr W=>(x.1:Int)=(a0.sub.length:Int) - x.2.1∧0 ≤ x.2.1∧forS (fun i s=>zcE.b0 a0 k a1 zei a2 a3 i s.1 s.2) x.1 x.2.1 x.2.2=some o5∧fr 28 = .int .i64 x.2.1∧fr 10 = .int .i64 (x.2.2.1)∧fr 11 = .int .i64 (x.2.2.2)∧St A N w W [oB b2 zo (tmC a0 s_0)] [zg s_0 a0.sub]) (fun x=>x.1) (((a0.sub.length:Int) - 0).toNat,0,(1,0)) ⟨(by dsimp only; have hle:=Int.natCast_nonneg (a0.sub.length); omega),(Int.le_refl _),(by dsimp only; exact e5),rfl,rfl,rfl,S⟩ ?_
  rintro ⟨m5,i5,⟨x5_0,x5_1⟩⟩ g5 u5 ⟨hm5,hl5,e5,q5_i,q5_10,q5_11,S⟩
  try dsimp only at hm5
  try dsimp only at hl5
  try dsimp only at e5
  try dsimp only at S
  try dsimp only at q5_i
  try dsimp only at q5_10
  try dsimp only at q5_11
  refine zb (za (wd (xy q5_i rfl) (zd (zb ?_))))
  refine zJ rfl (fun hc6=>?_) (fun hc6=>?_)
  rotate_left
  ·refine x0 ?_
   have hge:(a0.sub.length:Int) ≤ i5:=Int.not_lt.1 (of_decide_eq_false hc6)
   obtain rfl:m5=0:=by omega
   replace e5:=forS_0 e5
   obtain rfl:=e5
   exact ⟨rfl,df,q5_10,q5_11,S⟩
  refine zx ?_
  have hlt5:i5 < (a0.sub.length:Int):=of_decide_eq_true hc6
  obtain ⟨m5,rfl⟩ : ∃ m,m5=m + 1:=⟨m5 - 1,by omega⟩
  obtain ⟨q5,H,e5⟩ := forS_s e5
  unfold zcE.b0 at H
  try dsimp only at H
  have hb5:=(S.lenFZ 0)
  refine zb ?_
  refine zO (zb (za (wd (zi q5_i) (wd (does_indexF zz rfl q5_i (S.onZ 0) (And.intro (show 0 ≤ i5 by omega) (show i5 < (a0.sub.length:Int) from hlt5)).1 (And.intro (show 0 ≤ i5 by omega) (show i5 < (a0.sub.length:Int) from hlt5)).2) ?_))))
  obtain ⟨s8,hc9,S⟩ := S.viewTerm 0 (And.intro (show 0 ≤ i5 by omega) (show i5 < (a0.sub.length:Int) from hlt5))
  replace S:=S
  refine wd (ldC rfl hc9) ?_
  refine zQ xC zbA fun b11 w10 hw10=>?_
  replace S:=S.new hw10
  refine wd (zh rfl) ?_
  refine wsT rfl rfl (S.blk 0) fun w12 B hw12 zw12=>?_
  replace S:=S.store 0 B hw12
  refine zd (zb ?_)
  refine yt 3 (Ext w12) hmix zbD zbD (Ext.drawn _) (zD (fun v K=>zm zR rfl (((S.ext K).blk 0).all _ (Term.len _)) (Term.len _)) ?_)
  obtain ⟨r13,er13,H⟩ := zq H
  refine wq_call (fun v=>zt ca_term_Size) (fun v K=>(have ⟨M,SS⟩ := (S.ext K).lend ((.z 0 rfl .nil)); quiet (term_Size_st (a0:=(kd a0 i5)) SS er13) (fun v w' h=>⟨h.1,_,_,h.2⟩))) (fun v v' K h=>K.thenExt h) (zD (fun v K=>zm zR rfl (((S.ext K).blk 0).all _ (Term.len _)) (Term.len _)) ?_)
  refine vY fun w14 K=>?_
  replace S:=S.ext K
  clear K
  obtain ⟨r15,er15,H⟩ := zq H
  obtain ⟨_,_,T,bk⟩ := S.calln 0 ((.z 0 rfl .nil))
  refine zu (zt ca_term_Deep) zbA (term_Deep_st (a0:=(kd a0 i5)) T er15) ?_
  rintro _ w16 ⟨rfl,S2⟩
  replace S:=bk _ _ _ _ S2 rfl
  refine wd (zh rfl) (wd (zh rfl) (zd (zb (zb (za (wd (ldT rfl (S.blk 1)) (wd (zi rfl) ?_)))))))
  obtain ⟨r18,er18,H⟩ := zq H
  obtain ⟨_,_,T,bk⟩ := S.calln 0 ((.z 1 rfl .nil))
  refine zu (zt zbc) zbA (zbl (a0:=a0) T er18) ?_
  rintro _ w19 ⟨rfl,S2⟩
  replace S:=bk _ _ _ _ S2 rfl
  refine wd (xa rfl) (wd (jh rfl rfl) (zd ?_))
  refine zJ rfl (fun hc21=>?_) (fun hc21=>?_)
  ·replace H:=if_t hc21 H
   refine za (wd (ldT rfl (S.blk 0)) (wd (xa rfl) (wd (zi rfl) (wd (zi rfl) ?_))))
   obtain ⟨r22,er22,H⟩ := zq H
   obtain ⟨_,_,T,bk⟩ := S.calln 0 ((.z 0 rfl .nil))
   refine zu (zt ca_term_grown) zbA (zdS (a0:=(kd a0 i5)) T er22) ?_
   rintro _ w23 ⟨rfl,S2⟩
   replace S:=bk _ _ _ _ S2 rfl
   refine wd (zU rfl) (wd (zn rfl rfl) (wd (zn rfl rfl) (wd (zh rfl) (wd (zh rfl) (zd (za ?_))))))
   refine wd (zi q5_10) (wd (zi rfl) (wd (vQ rfl rfl) (wd (zi q5_11) (wd (zi rfl) (wd (does_max rfl rfl) ?_)))))
   refine wd (zh rfl) (wd (zh rfl) (zd (za (wd (xt q5_i rfl (c:=i5 + 1) rfl zbB zbB) (wd (zi rfl) (zd ?_))))))
   replace S:=S.arr [1] [1]
   obtain rfl:=zbE H
   exact ⟨rfl,df,(m5,i5 + 1,(IntKind.i64.wrap (x5_0 + r22.1),(if x5_1 < r22.2 then r22.2 else x5_1))),⟨(by dsimp only; omega),(by dsimp only; omega),e5,rfl,rfl,rfl,S⟩,by dsimp only; omega⟩
  ·replace H:=if_f hc21 H
   refine zx (za (wd (zi q5_10) (wd (zi rfl) (wd (vQ rfl rfl) (wd (zi q5_11) ?_)))))
   refine wd (zi rfl) (wd (does_max rfl rfl) (wd (zh rfl) (wd (zh rfl) (zd (za ?_)))))
   refine wd (xt q5_i rfl (c:=i5 + 1) rfl zbB zbB) (wd (zi rfl) (zd ?_))
   replace S:=S.arr [1] [1]
   obtain rfl:=zbE H
   exact ⟨rfl,df,(m5,i5 + 1,(IntKind.i64.wrap (x5_0 + r13),(if x5_1 < r15 then r15 else x5_1))),⟨(by dsimp only; omega),(by dsimp only; omega),e5,rfl,rfl,rfl,S⟩,by dsimp only; omega⟩
 rintro g25 u26 ⟨p5_10,p5_11,S⟩
 have H:=Ho5
 refine zb (za (wd (zi p5_10) (wd (zi p5_11) (wd (vQ rfl rfl) (wd (zh rfl) (wd (zh rfl) (zd (zr ?_))))))))
 refine ⟨_,(xd (ze rfl) (ze rfl)),?_⟩
 replace S:=S.arr [] []
 obtain rfl:=zbE H
 exact ⟨rfl,S⟩
theorem term_grown_st {a0:PTerm} {s_0:SlV} {a1:ByteArray} {a2:Int} {a3:Int} (S:St A N w w [] [zg s_0 a0.sub]) {k:Nat} {r:Int × Int} (H:zcE.f k a0 a1 a2 a3=some r) :
  Calls PP j1 #[.agg (tmC a0 s_0).toArray,.string a1,.int .i64 a2,.int .i64 a3] w <| Rt fun v w'=>(v = .tuple #[.int .i64 r.1,.int .i64 r.2]∧St A N w w' [] []):=by
 have main : ∀ (k:Nat) {A:Nat→Prop} {N:Oth} {w:World} {a0:PTerm} {s_0:SlV} {a1:ByteArray} {a2:Int} {a3:Int} (S:St A N w w [] [zg s_0 a0.sub]) {r:Int × Int} (H:zcE.f k a0 a1 a2 a3=some r),Calls PP j1 #[.agg (tmC a0 s_0).toArray,.string a1,.int .i64 a2,.int .i64 a3] w <| Rt fun v w'=>(v = .tuple #[.int .i64 r.1,.int .i64 r.2]∧St A N w w' [] []):=by
  intro k
  induction k with
  | zero=>intro A N w a0 s_0 a1 a2 a3 S r H; cases H
  | succ k ih=>intro A N w a0 s_0 a1 a2 a3 S r H; exact term_grown_gst ih S H
 exact main k S H
theorem term_names_gst {zej:PTerm→(List (ByteArray × Int))→(List (ByteArray × Int))→Option ((List (ByteArray × Int)) × (List (ByteArray × Int)))} (zdT : ∀ {A:Nat→Prop} {N:Oth} {w:World} {a0:PTerm} {s_0:SlV} {a1:List (ByteArray × Int)} {m_1:Nat} {a2:List (ByteArray × Int)} {m_2:Nat} (S:St A N w w [oMS m_1 a1,oMS m_2 a2] [zg s_0 a0.sub]) {r:(List (ByteArray × Int)) × (List (ByteArray × Int))} (H:zej a0 a1 a2=some r),Calls PP j4 #[.agg (tmC a0 s_0).toArray,.map (some m_1),.map (some m_2)] w <| Rt fun v w'=>(v = .tuple #[]∧St A N w w' [oMS m_1 r.1,oMS m_2 r.2] [])) {A:Nat→Prop} {N:Oth} {w:World} {a0:PTerm} {s_0:SlV} {a1:List (ByteArray × Int)} {m_1:Nat} {a2:List (ByteArray × Int)} {m_2:Nat} (S:St A N w w [oMS m_1 a1,oMS m_2 a2] [zg s_0 a0.sub]) {r:(List (ByteArray × Int)) × (List (ByteArray × Int))} (H:zcF.g zej a0 a1 a2=some r) :
  Calls PP j4 #[.agg (tmC a0 s_0).toArray,.map (some m_1),.map (some m_2)] w <| Rt fun v w'=>(v = .tuple #[]∧St A N w w' [oMS m_1 r.1,oMS m_2 r.2] []):=by
 unfold zcF.g at H
 refine zy (n:=46) Tryz.func87 rfl rfl zbC (zb (za ?_))
 refine zE rfl zbA fun b2 w1 hw1=>?_
 replace S:=S.new hw1
 refine zd (zb (zb (za (wd (zf xj rfl (o':=0) rfl) (wd (zl zY rfl ((S.blk 0).cell (Term.get_kind _))) (wd (zV rfl rfl) (zd ?_)))))))
 refine zJ rfl (fun hc3=>?_) (fun hc3=>?_)
 ·replace H:=if_t hc3 H
  refine zb (zb (za (wd (yK rfl) (wd (zf xK rfl (o':=1) rfl) (wd (zl xk rfl ((S.blk 0).cell (Term.get_name _))) (wd (ub (C:=Value.string) (D:=(Value.int .i64)) (key:=a0.name) (zv:=0) xW vt zv_int rfl rfl (S.map 1)) (wd (zV rfl rfl) (zd ?_))))))))
  obtain ⟨o4,e4,Ho4⟩ := zq H
  replace H:=e4; clear e4
  refine xV [17,18,19,20,21] (fun fr W=>St A N w W [oB b2 zo (tmC a0 s_0),oMS m_1 a1,oMS m_2 o4] [zg s_0 a0.sub]) ?_ ?_
  ·refine zJ rfl (fun hc5=>?_) (fun hc5=>?_)
   ·replace H:=if_t hc5 H
    refine za (wd (yK rfl) (wd (zf xK rfl (o':=1) rfl) (wd (zl xk rfl ((S.blk 0).cell (Term.get_name _))) (wd (ub (C:=Value.string) (D:=(Value.int .i64)) (key:=a0.name) (zv:=0) xW vt zv_int rfl rfl (S.map 2)) (wd (vQ rfl rfl) ?_)))))
    refine kv (C:=Value.string) (D:=(Value.int .i64)) (key:=a0.name) (v:=IntKind.i64.wrap (((Gw.look a0.name a2).getD 0) + 1)) xW vt rfl rfl rfl (S.map 2) fun w6 hmw6 hcw6 hsw6=>?_
    replace S:=S.mapSet 2 ⟨hmw6,hcw6,hsw6⟩
    refine zd ?_
    replace S:=S.arr [1,2,0] [0]
    obtain rfl:=zbE H
    exact ⟨rfl,df,S⟩
   ·replace H:=if_f hc5 H
    refine zx ?_
    obtain rfl:=zbE H
    exact ⟨rfl,df,S⟩
  rintro g7 u8 S
  have H:=Ho4
  refine zr ?_
  refine ⟨_,rets0,?_⟩
  replace S:=S.arr [1,2] []
  obtain rfl:=zbE H
  exact ⟨rfl,S⟩
 replace H:=if_f hc3 H
 refine zx (zb (za (wd (zf zG rfl (o':=4) rfl) (wd (zl zB rfl ((S.blk 0).cell (Term.get_sub _))) (wd (does_lenF zz rfl (S.onZ 0)) (wd (zi rfl) (zd ?_)))))))
 obtain ⟨o9,e9,Ho9⟩ := zq H
 clear H
 refine xV ([6,7,8] ++ rg 25 21) (fun fr W=>St A N w W [oB b2 zo (tmC a0 s_0),oMS m_1 o9.1,oMS m_2 o9.2] [zg s_0 a0.sub]) ?_ ?_
 ·refine zO ?_
  refine xR (α:=Nat × Int × ((List (ByteArray × Int)) × (List (ByteArray × Int)))) ([6,7,8] ++ rg 25 21) (fun x fr W=>(x.1:Int)=(a0.sub.length:Int) - x.2.1∧0 ≤ x.2.1∧forS (fun i s=>zcF.b0 a0 zej i s.1 s.2) x.1 x.2.1 x.2.2=some o9∧fr 25 = .int .i64 x.2.1∧St A N w W [oB b2 zo (tmC a0 s_0),oMS m_1 (x.2.2.1),oMS m_2 (x.2.2.2)] [zg s_0 a0.sub]) (fun x=>x.1) (((a0.sub.length:Int) - 0).toNat,0,(a1,a2)) ⟨(by dsimp only; have hle:=Int.natCast_nonneg (a0.sub.length); omega),(Int.le_refl _),(by dsimp only; exact e9),rfl,S⟩ ?_
  rintro ⟨m9,i9,⟨x9_0,x9_1⟩⟩ g9 u9 ⟨hm9,hl9,e9,q9_i,S⟩
  try dsimp only at hm9
  try dsimp only at hl9
  try dsimp only at e9
  try dsimp only at S
  try dsimp only at q9_i
  refine zb (za (wd (xy q9_i rfl) (zd (zb ?_))))
  refine zJ rfl (fun hc10=>?_) (fun hc10=>?_)
  rotate_left
  ·refine x0 ?_
   have hge:(a0.sub.length:Int) ≤ i9:=Int.not_lt.1 (of_decide_eq_false hc10)
   obtain rfl:m9=0:=by omega
   replace e9:=forS_0 e9
   obtain rfl:=e9
   exact ⟨rfl,df,S⟩
  refine zx ?_
  have hlt9:i9 < (a0.sub.length:Int):=of_decide_eq_true hc10
  obtain ⟨m9,rfl⟩ : ∃ m,m9=m + 1:=⟨m9 - 1,by omega⟩
  obtain ⟨q9,H,e9⟩ := forS_s e9
  unfold zcF.b0 at H
  try dsimp only at H
  have hb9:=(S.lenFZ 0)
  refine zb ?_
  refine zO (zb (za (wd (zi q9_i) (wd (does_indexF zz rfl q9_i (S.onZ 0) (And.intro (show 0 ≤ i9 by omega) (show i9 < (a0.sub.length:Int) from hlt9)).1 (And.intro (show 0 ≤ i9 by omega) (show i9 < (a0.sub.length:Int) from hlt9)).2) ?_))))
  obtain ⟨s12,hc13,S⟩ := S.viewTerm 0 (And.intro (show 0 ≤ i9 by omega) (show i9 < (a0.sub.length:Int) from hlt9))
  replace S:=S
  refine wd (ldC rfl hc13) ?_
  refine zQ xC zbA fun b15 w14 hw14=>?_
  replace S:=S.new hw14
  refine wd (zh rfl) ?_
  refine wsT rfl rfl (S.blk 0) fun w16 B hw16 zw16=>?_
  replace S:=S.store 0 B hw16
  refine zd (zb (za (wd (ldT rfl (S.blk 1)) (wd (zi rfl) ?_))))
  obtain ⟨r17,er17,H⟩ := zq H
  obtain ⟨_,_,T,bk⟩ := S.calln 0 ((.z 1 rfl .nil))
  refine zu (zt zbc) zbA (zbl (a0:=a0) T er17) ?_
  rintro _ w18 ⟨rfl,S2⟩
  replace S:=bk _ _ _ _ S2 rfl
  refine wd (uN rfl) (zd (zb (za (wd (yK rfl) (wd (xa rfl) (wd (ub (C:=Value.string) (D:=(Value.int .i64)) (key:=r17) (zv:=0) xW vt zv_int rfl rfl (S.map 2)) ?_))))))
  refine wd (vQ rfl rfl) ?_
  refine kv (C:=Value.string) (D:=(Value.int .i64)) (key:=r17) (v:=IntKind.i64.wrap (((Gw.look r17 x9_0).getD 0) + 1)) xW vt rfl rfl rfl (S.map 2) fun w20 hmw20 hcw20 hsw20=>?_
  replace S:=S.mapSet 2 ⟨hmw20,hcw20,hsw20⟩
  refine zd (zb (za (wd (ldT rfl (S.blk 1)) (wd (yK rfl) (wd (yK rfl) ?_)))))
  obtain ⟨r21,er21,H⟩ := zq H
  replace S:=(S.front 3).front 1
  obtain ⟨_,_,T,bk⟩ := S.calln 2 ((.z 0 rfl .nil))
  refine zu (zt ca_term_names) zbA (zdT (a0:=(kd a0 i9)) T er21) ?_
  rintro _ w22 ⟨rfl,S2⟩
  replace S:=bk _ _ _ _ S2 rfl
  refine zd (za (wd (yK rfl) (wd (xa rfl) (wd (ub (C:=Value.string) (D:=(Value.int .i64)) (key:=r17) (zv:=0) xW vt zv_int rfl rfl (S.map 0)) (wd (does_sub rfl rfl) ?_)))))
  refine kv (C:=Value.string) (D:=(Value.int .i64)) (key:=r17) (v:=IntKind.i64.wrap (((Gw.look r17 r21.1).getD 0) - 1)) xW vt rfl rfl rfl (S.map 0) fun w24 hmw24 hcw24 hsw24=>?_
  replace S:=S.mapSet 0 ⟨hmw24,hcw24,hsw24⟩
  refine zd (za (wd (xt q9_i rfl (c:=i9 + 1) rfl zbB zbB) (wd (zi rfl) (zd ?_))))
  replace S:=S.arr [3,0,1] [1]
  obtain rfl:=zbE H
  exact ⟨rfl,df,(m9,i9 + 1,(Gw.ins r17 (IntKind.i64.wrap (((Gw.look r17 r21.1).getD 0) - 1)) r21.1,r21.2)),⟨(by dsimp only; omega),(by dsimp only; omega),e9,rfl,S⟩,by dsimp only; omega⟩
 rintro g25 u26 S
 have H:=Ho9
 refine ⟨_,rets0,?_⟩
 replace S:=S.arr [1,2] []
 obtain rfl:=zbE H
 exact ⟨rfl,S⟩
theorem term_names_st {a0:PTerm} {s_0:SlV} {a1:List (ByteArray × Int)} {m_1:Nat} {a2:List (ByteArray × Int)} {m_2:Nat} (S:St A N w w [oMS m_1 a1,oMS m_2 a2] [zg s_0 a0.sub]) {k:Nat} {r:(List (ByteArray × Int)) × (List (ByteArray × Int))} (H:zcF.f k a0 a1 a2=some r) :
  Calls PP j4 #[.agg (tmC a0 s_0).toArray,.map (some m_1),.map (some m_2)] w <| Rt fun v w'=>(v = .tuple #[]∧St A N w w' [oMS m_1 r.1,oMS m_2 r.2] []):=by
 have main : ∀ (k:Nat) {A:Nat→Prop} {N:Oth} {w:World} {a0:PTerm} {s_0:SlV} {a1:List (ByteArray × Int)} {m_1:Nat} {a2:List (ByteArray × Int)} {m_2:Nat} (S:St A N w w [oMS m_1 a1,oMS m_2 a2] [zg s_0 a0.sub]) {r:(List (ByteArray × Int)) × (List (ByteArray × Int))} (H:zcF.f k a0 a1 a2=some r),Calls PP j4 #[.agg (tmC a0 s_0).toArray,.map (some m_1),.map (some m_2)] w <| Rt fun v w'=>(v = .tuple #[]∧St A N w w' [oMS m_1 r.1,oMS m_2 r.2] []):=by
  intro k
  induction k with
  | zero=>intro A N w a0 s_0 a1 m_1 a2 m_2 S r H; cases H
  | succ k ih=>intro A N w a0 s_0 a1 m_1 a2 m_2 S r H; exact term_names_gst ih S H
 exact main k S H
theorem term_freely_st {a0:PTerm} {s_0:SlV} (S:St A N w w [] [zg s_0 a0.sub]) {k:Nat} {r:(List (ByteArray × Int))} (H:zcG.f k a0=some r) :
  Calls PP F_term_freely #[.agg (tmC a0 s_0).toArray] w <| Rt fun v w'=>(∃ mo0:Nat,v = .map (some mo0)∧St A N w w' [oMS mo0 r] []):=by
 unfold zcG.f at H
 refine zy (n:=10) Tryz.func58 rfl rfl zbC (zb (za ?_))
 refine zE rfl zbA fun b2 w1 hw1=>?_
 replace S:=S.new hw1
 refine wd (does_as_m rfl) (zd (zb (za ?_)))
 refine wl_makeMap (C:=Value.string) (D:=(Value.int .i64)) zbA fun m3 w4 hmw4 hxw4 hlw4=>?_
 replace S:=S.newM hmw4 hxw4 hlw4
 refine wd (does_as_m rfl) (zd (zb (za (wd (ldT rfl (S.blk 1)) ?_))))
 refine wl_makeMap (C:=Value.string) (D:=(Value.int .i64)) zbA fun m5 w6 hmw6 hxw6 hlw6=>?_
 replace S:=S.newM hmw6 hxw6 hlw6
 refine wd (yK rfl) ?_
 obtain ⟨r7,er7,H⟩ := zq H
 replace S:=(S.front 1).front 1
 obtain ⟨_,_,T,bk⟩ := S.calln 2 ((.z 0 rfl .nil))
 refine zu (zt ca_term_names) zbA (term_names_st (a0:=a0) T er7) ?_
 rintro _ w8 ⟨rfl,S2⟩
 replace S:=bk _ _ _ _ S2 rfl
 refine zd (zb (za (wd (yK rfl) (wd (does_as_m rfl) (zd (zr ?_))))))
 refine ⟨_,(zS (ze rfl)),?_⟩
 replace S:=S.arr [1] []
 obtain rfl:=zbE H
 exact ⟨m3,rfl,S⟩
theorem term_clone_gst {zeg:PTerm→Option PTerm} (zdQ : ∀ {A:Nat→Prop} {N:Oth} {w:World} {a0:PTerm} {s_0:SlV} (S:St A N w w [] [zg s_0 a0.sub]) {r:PTerm} (H:zeg a0=some r),Calls PP j0 #[.agg (tmC a0 s_0).toArray] w <| Rt fun v w'=>(∃ so0:SlV,v = .agg (tmC r so0).toArray∧St A N w w' [] [zg so0 r.sub])) {A:Nat→Prop} {N:Oth} {w:World} {a0:PTerm} {s_0:SlV} (S:St A N w w [] [zg s_0 a0.sub]) {r:PTerm} (H:zcH.g zeg a0=some r) :
  Calls PP j0 #[.agg (tmC a0 s_0).toArray] w <| Rt fun v w'=>(∃ so0:SlV,v = .agg (tmC r so0).toArray∧St A N w w' [] [zg so0 r.sub]):=by
 unfold zcH.g at H
 refine zy (n:=31) Tryz.func180 rfl rfl zbC (zb (za ?_))
 refine zE rfl zbA fun b2 w1 hw1=>?_
 replace S:=S.new hw1
 refine zQ xC zbA fun b4 w3 hw3=>?_
 replace S:=S.new hw3
 refine zd (zb (zb (za (wd (zf zG rfl (o':=4) rfl) (wd (zl zB rfl ((S.blk 1).cell (Term.get_sub _))) (wd (does_isnil zz rfl rfl) (zd ?_)))))))
 refine zJ rfl (fun hc5=>?_) (fun hc5=>?_)
 ·replace H:=term_clone_nil (S.nilZ_ 0 hc5) (show zcH.g zeg a0=some r from H)
  refine zb (za (wd (ldT rfl (S.blk 1)) ?_))
  refine wsT rfl rfl (S.blk 0) fun w6 B hw6 zw6=>?_
  replace S:=S.store 0 B hw6
  refine zd (zr ?_)
  refine ⟨_,(zS (rtT rfl (S.blk 0))),?_⟩
  replace S:=S.arr [] [0]
  obtain rfl:=zbE H
  exact ⟨s_0,rfl,S⟩
 refine zx (zb (za (wd (zf zG rfl (o':=4) rfl) (wd (zl zB rfl ((S.blk 1).cell (Term.get_sub _))) (wd (does_lenF zz rfl (S.onZ 0)) ?_)))))
 obtain ⟨hm10,H⟩ := xb H
 have hm10:=of_decide_eq_true hm10
 refine wl_makeN (C:=Term.C) (z:=Term.z) zz jp zT_Term rfl rfl rfl hm10.1 zbB hm10.2 zbA fun b8 w7 s9 hBw7 hw7=>?_
 replace S:=(S.lit hBw7 hw7 (by rw [List.length_replicate]; omega)).repTm (Int.toNat (a0.sub.length:Int))
 refine wd (y4 rfl) (zd (zb (zb (za (wd (zf zG rfl (o':=4) rfl) (wd (zl zB rfl ((S.blk 2).cell (Term.get_sub _))) (wd (does_lenF zz rfl (S.onZ 1)) ?_)))))))
 refine wd (zi rfl) (zd ?_)
 replace S:=(S.nil zo 5 Term.C).bigTm
 obtain ⟨o11,e11,Ho11⟩ := zq H
 clear H
 refine xV ([4,5] ++ rg 17 11) (fun fr W => ∃ m12:List Term,St A N w W [oS zo 5 Term.C SlV.nil ([]:List Term),oS zo 5 Term.C s9 m12,oB b4 zo (Term.C tmZ),oB b2 zo (tmC a0 s_0)] [bigA xx ([]:List Term) ([]:List PTerm),bigA xx m12 o11,zg s_0 a0.sub]) ?_ ?_
 ·refine zO ?_
  refine xR (α:=Nat × Int × (List PTerm)) ([4,5] ++ rg 17 11) (fun x fr W=>(x.1:Int)=(a0.sub.length:Int) - x.2.1∧0 ≤ x.2.1∧forS (fun i s=>zcH.b0 zeg a0 i s) x.1 x.2.1 x.2.2=some o11 ∧ ∃ m13:List Term,fr 17 = .int .i64 x.2.1∧St A N w W [oS zo 5 Term.C SlV.nil ([]:List Term),oS zo 5 Term.C s9 m13,oB b4 zo (Term.C tmZ),oB b2 zo (tmC a0 s_0)] [bigA xx ([]:List Term) ([]:List PTerm),bigA xx m13 (x.2.2),zg s_0 a0.sub]) (fun x=>x.1) (((a0.sub.length:Int) - 0).toNat,0,List.replicate (Int.toNat (a0.sub.length:Int)) PTerm.z) ⟨(by dsimp only; have hle:=Int.natCast_nonneg (a0.sub.length); omega),(Int.le_refl _),(by dsimp only; exact e11),List.replicate (Int.toNat (a0.sub.length:Int)) Term.z,rfl,S⟩ ?_
  rintro ⟨m11,i11,x11_0⟩ g11 u11 ⟨hm11,hl11,e11,m14,q11_i,S⟩
  try dsimp only at hm11
  try dsimp only at hl11
  try dsimp only at e11
  try dsimp only at S
  try dsimp only at q11_i
  refine zb (za (wd (xy q11_i rfl) (zd (zb ?_))))
  refine zJ rfl (fun hc15=>?_) (fun hc15=>?_)
  rotate_left
  ·refine x0 ?_
   have hge:(a0.sub.length:Int) ≤ i11:=Int.not_lt.1 (of_decide_eq_false hc15)
   obtain rfl:m11=0:=by omega
   replace e11:=forS_0 e11
   obtain rfl:=e11
   exact ⟨rfl,df,m14,S⟩
  refine zx ?_
  have hlt11:i11 < (a0.sub.length:Int):=of_decide_eq_true hc15
  obtain ⟨m11,rfl⟩ : ∃ m,m11=m + 1:=⟨m11 - 1,by omega⟩
  obtain ⟨q11,H,e11⟩ := forS_s e11
  unfold zcH.b0 at H
  try dsimp only at H
  have hb11:=(S.lenFZ 2)
  refine zb ?_
  refine zO (zb (za (wd (zi q11_i) (wd (does_indexF zz rfl q11_i (S.onZ 2) (And.intro (show 0 ≤ i11 by omega) (show i11 < (a0.sub.length:Int) from hlt11)).1 (And.intro (show 0 ≤ i11 by omega) (show i11 < (a0.sub.length:Int) from hlt11)).2) ?_))))
  obtain ⟨s17,hc18,S⟩ := S.viewTerm 2 (And.intro (show 0 ≤ i11 by omega) (show i11 < (a0.sub.length:Int) from hlt11))
  replace S:=S
  refine wd (ldC rfl hc18) ?_
  refine zQ xC zbA fun b20 w19 hw19=>?_
  replace S:=S.new hw19
  refine wd (zh rfl) ?_
  refine wsT rfl rfl (S.blk 0) fun w21 B hw21 zw21=>?_
  replace S:=S.store 0 B hw21
  refine zd (za (wd (zP rfl) (wd (zi rfl) (wd (ldT rfl (S.blk 0)) ?_))))
  obtain ⟨r22,er22,H⟩ := zq H
  obtain ⟨_,_,T,bk⟩ := S.sub [0] [] [oB b20 zo (tmC (kd a0 i11) s17),oS zo 5 Term.C SlV.nil ([]:List Term),oS zo 5 Term.C s9 m14,oB b4 zo (Term.C tmZ),oB b2 zo (tmC a0 s_0)]
  refine zu (zt zbd) zbA (zdQ (a0:=(kd a0 i11)) T er22) ?_
  rintro _ w23 ⟨s25,rfl,S2⟩
  replace S:=bk _ _ _ _ _ S2 rfl rfl
  obtain ⟨hi26,H⟩ := xb H
  refine wd (xi zz rfl rfl (S.rdO 2) (zM hi26).1 (by rw [(S.lenTm 3)]; exact (zM hi26).2)) ?_
  have hlw27:=S.lenO 2
  have hqw27:=(S.lenTm 3)
  refine zaC (C:=Term.C) (a:=(tmT r22 s25)) zR rfl rfl (S.sl 2) ⟨(zM hi26).1,by rw [hqw27]; exact (zM hi26).2⟩ (Term.len _) (Term.one _) fun w27 O hw27=>?_
  replace S:=S.push 2 O (by rw [List.length_set]; exact hlw27) hw27 (fun i hi => .inl hi)
  clear O hlw27 hqw27
  replace S:=S.setTm (x:=r22) 3 0 (Int.toNat i11)
  refine zd (za (wd (xt q11_i rfl (c:=i11 + 1) rfl zbB zbB) (wd (zi rfl) (zd ?_))))
  replace S:=S.arr [2,0,3,4] [3,0,5]
  obtain rfl:=zbE H
  exact ⟨rfl,df,(m11,i11 + 1,x11_0.set (Int.toNat i11) r22),⟨(by dsimp only; omega),(by dsimp only; omega),e11,m14.set (Int.toNat i11) (tmT r22 s25),rfl,S⟩,by dsimp only; omega⟩
 rintro g28 u29 ⟨m12,S⟩
 have H:=Ho11
 refine zb (za (wd (zP rfl) (wd (zf zG rfl (o':=4) rfl) ?_)))
 refine yJ zB rfl rfl (S.blk 3) (by rw [Term.len]; decide) (SlV.one _ _ rfl) (Term.set_sub _ _) fun w30 B hw30 zw30=>?_
 replace S:=S.store 3 B hw30
 refine zd (zb (za ?_))
 replace S:=S.frzTm 2 1
 refine wd (ldT rfl (S.blk 0)) ?_
 refine wsT rfl rfl (S.blk 2) fun w31 B hw31 zw31=>?_
 replace S:=S.store 2 B hw31
 refine zd (zr ?_)
 refine ⟨_,(zS (rtT rfl (S.blk 0))),?_⟩
 replace S:=S.arr [] [0]
 obtain rfl:=zbE H
 exact ⟨s9,rfl,S⟩
theorem term_clone_st {a0:PTerm} {s_0:SlV} (S:St A N w w [] [zg s_0 a0.sub]) {k:Nat} {r:PTerm} (H:zcH.f k a0=some r) :
  Calls PP j0 #[.agg (tmC a0 s_0).toArray] w <| Rt fun v w'=>(∃ so0:SlV,v = .agg (tmC r so0).toArray∧St A N w w' [] [zg so0 r.sub]):=by
 have main : ∀ (k:Nat) {A:Nat→Prop} {N:Oth} {w:World} {a0:PTerm} {s_0:SlV} (S:St A N w w [] [zg s_0 a0.sub]) {r:PTerm} (H:zcH.f k a0=some r),Calls PP j0 #[.agg (tmC a0 s_0).toArray] w <| Rt fun v w'=>(∃ so0:SlV,v = .agg (tmC r so0).toArray∧St A N w w' [] [zg so0 r.sub]):=by
  intro k
  induction k with
  | zero=>intro A N w a0 s_0 S r H; cases H
  | succ k ih=>intro A N w a0 s_0 S r H; exact term_clone_gst ih S H
 exact main k S H
theorem term_fresh_st {a0:List (ByteArray × Int)} {m_0:Nat} {a1:List (ByteArray × Int)} {m_1:Nat} {a2:ByteArray} (S:St A N w w [] [oMS m_0 a0,oMS m_1 a1,oPw]) {k:Nat} {r:ByteArray} (H:zcI.f k a0 a1 a2=some r) :
  Calls PP F_term_fresh #[.map (some m_0),.map (some m_1),.string a2] w <| Rt fun v w'=>(v = .string r∧St A N w w' [] []):=by
 unfold zcI.f at H
 refine zy (n:=30) Tryz.func181 rfl rfl zbC (zb (za (wd (uN rfl) (zd (zb (za (wd (zh rfl) (zd ?_))))))))
 obtain ⟨o1,e1,Ho1⟩ := zq H
 clear H
 refine xV (rg 6 24) (fun fr W => ∃ s1:Int,o1 = .inl s1∧fr 7 = .int .i64 s1∧St A N w W [] [oMS m_0 a0,oMS m_1 a1,oPw]) ?_ ?_
 ·refine zO ?_
  refine xR (α:=Nat × Int) (rg 6 24) (fun x fr W=>iter (fun s=>zcI.b0 a0 a1 a2 s) x.1 x.2=some o1∧fr 7 = .int .i64 (x.2)∧St A N w W [] [oMS m_0 a0,oMS m_1 a1,oPw]) (fun x=>x.1) (k,0) ⟨(by dsimp only; exact e1),rfl,S⟩ ?_
  rintro ⟨m1,x1_0⟩ g1 u1 ⟨e1,q1_7,S⟩
  try dsimp only at e1
  try dsimp only at S
  try dsimp only at q1_7
  obtain ⟨m1,rfl⟩ : ∃ m,m1=m + 1:=⟨m1 - 1,by cases m1 with | zero=>cases e1 | succ m=>rfl⟩
  obtain ⟨q1,H,e1⟩ := iter_s e1
  unfold zcI.b0 at H
  try dsimp only at H
  refine zb ?_
  refine zO (zb (za (wd (zi q1_7) ?_)))
  obtain ⟨r2,er2,H⟩ := zq H
  obtain ⟨_,_,T,bk⟩ := S.calln 0 ((.z 2 rfl .nil))
  refine zu (zt ca_strconv_Itoa) zbA (strconv_Itoa_st T er2) ?_
  rintro _ w3 ⟨rfl,S2⟩
  replace S:=bk _ _ _ _ S2 rfl
  obtain ⟨hs5,H⟩ := xb H
  refine wd (does_concat rfl rfl (of_decide_eq_true hs5)) (wd (uN rfl) (zd (zb (za (wd (yK rfl) (wd (xa rfl) ?_))))))
  refine wd (ub (C:=Value.string) (D:=(Value.int .i64)) (key:=(bA #[118]) ++ r2) (zv:=0) xW vt zv_int rfl rfl (S.mapZ 0)) (wd (zV rfl rfl) (wd (zA rfl) ?_))
  refine wg (fun hg=>yK rfl) ?_
  refine wg (fun hg=>xa rfl) ?_
  refine wg (fun hg=>ub (C:=Value.string) (D:=(Value.int .i64)) (key:=(bA #[118]) ++ r2) (zv:=0) xW vt zv_int (zp hg) (zp hg) (S.mapZ 1)) ?_
  refine wg (fun hg=>zV (zp hg) rfl) (wd (zZ rfl (fun hp=>(zp (xz hp)))) (wd (zA rfl) ?_))
  refine wg (fun hg=>xa rfl) ?_
  refine wg (fun hg=>xa rfl) ?_
  refine wg (fun hg=>jh (zp hg) (zp hg)) (wd (zZ rfl (fun hp=>(zp (xz hp)))) (zd ?_))
  refine zJ rfl (fun hc6=>?_) (fun hc6=>?_)
  ·replace H:=if_t hc6 H
   refine zb (za (wd (xa rfl) (wd (uN rfl) (zd (zr ?_)))))
   refine ⟨_,(zS (ze rfl)),?_⟩
   replace S:=S.arr [] []
   obtain rfl:=zbE H
   obtain rfl:=e1
   obtain rfl:=uI Ho1
   exact ⟨rfl,S⟩
  replace H:=if_f hc6 H
  refine zx (za (wd (zi q1_7) (wd (vQ rfl rfl) (wd (zh rfl) (zd ?_)))))
  obtain rfl:=zbE H
  exact ⟨rfl,df,(m1,IntKind.i64.wrap (x1_0 + 1)),⟨e1,rfl,S⟩,by dsimp only; omega⟩
 rintro g7 u8 ⟨s1,rfl,p1_7,S⟩
 have H:=Ho1
 dsimp only [aft] at H
 cases H
theorem term_put_gst {zek:PTerm→ByteArray→PTerm→(List (ByteArray × Int))→Option PTerm} (zdU : ∀ {A:Nat→Prop} {N:Oth} {w:World} {a0:PTerm} {s_0:SlV} {a1:ByteArray} {a2:PTerm} {s_2:SlV} {a3:List (ByteArray × Int)} {m_3:Nat} (S:St A N w w [] [zg s_0 a0.sub,zg s_2 a2.sub,oMS m_3 a3,oPw]) {r:PTerm} (H:zek a0 a1 a2 a3=some r),Calls PP zaG #[.agg (tmC a0 s_0).toArray,.string a1,.agg (tmC a2 s_2).toArray,.map (some m_3)] w <| Rt fun v w'=>(∃ so0:SlV,v = .agg (tmC r so0).toArray∧St A N w w' [] [zg so0 r.sub])) {A:Nat→Prop} {N:Oth} {w:World} {a0:PTerm} {s_0:SlV} {a1:ByteArray} {a2:PTerm} {s_2:SlV} {a3:List (ByteArray × Int)} {m_3:Nat} (S:St A N w w [] [zg s_0 a0.sub,zg s_2 a2.sub,oMS m_3 a3,oPw]) {k:Nat} {r:PTerm} (H:zcJ.g zek k a0 a1 a2 a3=some r) :
  Calls PP zaG #[.agg (tmC a0 s_0).toArray,.string a1,.agg (tmC a2 s_2).toArray,.map (some m_3)] w <| Rt fun v w'=>(∃ so0:SlV,v = .agg (tmC r so0).toArray∧St A N w w' [] [zg so0 r.sub]):=by
 unfold zcJ.g at H
 refine zy (n:=96) Tryz.func165 rfl rfl zbC (zb (za ?_))
 refine zE rfl zbA fun b2 w1 hw1=>?_
 replace S:=S.new hw1
 refine zE rfl zbA fun b4 w3 hw3=>?_
 replace S:=S.new hw3
 refine zQ xC zbA fun b6 w5 hw5=>?_
 replace S:=S.new hw5
 refine zd (zb (zb (za (wd (zf xj rfl (o':=0) rfl) (wd (zl zY rfl ((S.blk 2).cell (Term.get_kind _))) (wd (zV rfl rfl) (zd ?_)))))))
 refine zJ rfl (fun hc7=>?_) (fun hc7=>?_)
 ·replace H:=if_t hc7 H
  refine zb (zb (za (wd (zf xK rfl (o':=1) rfl) (wd (zl xk rfl ((S.blk 2).cell (Term.get_name _))) (wd (xa rfl) (wd (yX rfl rfl) (zd ?_)))))))
  refine zJ rfl (fun hc8=>?_) (fun hc8=>?_)
  ·replace H:=if_t hc8 H
   refine zb (za (wd (ldT rfl (S.blk 1)) ?_))
   obtain ⟨r9,er9,H⟩ := zq H
   obtain ⟨_,_,T,bk⟩ := S.sub [1] [] [oB b6 zo (Term.C tmZ),oB b4 zo (tmC a2 s_2),oB b2 zo (tmC a0 s_0)]
   refine zu (zt zbd) zbA (term_clone_st (a0:=a2) T er9) ?_
   rintro _ w10 ⟨s12,rfl,S2⟩
   replace S:=bk _ _ _ _ _ S2 rfl rfl
   refine wsT rfl rfl (S.blk 0) fun w13 B hw13 zw13=>?_
   replace S:=S.store 0 B hw13
   refine zd (zr ?_)
   refine ⟨_,(zS (rtT rfl (S.blk 0))),?_⟩
   replace S:=S.arr [] [0]
   obtain rfl:=zbE H
   exact ⟨s12,rfl,S⟩
  replace H:=if_f hc8 H
  refine zx (zb (za (wd (ldT rfl (S.blk 2)) ?_)))
  refine wsT rfl rfl (S.blk 0) fun w14 B hw14 zw14=>?_
  replace S:=S.store 0 B hw14
  refine zd (zr ?_)
  refine ⟨_,(zS (rtT rfl (S.blk 0))),?_⟩
  replace S:=S.arr [] [0]
  obtain rfl:=zbE H
  exact ⟨s_0,rfl,S⟩
 replace H:=if_f hc7 H
 refine zx (zb (za (wd (ldT rfl (S.blk 2)) ?_)))
 refine zQ xC zbA fun b16 w15 hw15=>?_
 replace S:=S.new hw15
 refine wsT rfl rfl (S.blk 0) fun w17 B hw17 zw17=>?_
 replace S:=S.store 0 B hw17
 refine zd (zb (za (wd (zf zG rfl (o':=4) rfl) (wd (zl zB rfl ((S.blk 3).cell (Term.get_sub _))) (wd (does_lenF zz rfl (S.onZ 0)) ?_)))))
 obtain ⟨hm21,H⟩ := xb H
 have hm21:=of_decide_eq_true hm21
 refine wl_makeN (C:=Term.C) (z:=Term.z) zz jp zT_Term rfl rfl rfl hm21.1 zbB hm21.2 zbA fun b19 w18 s20 hBw18 hw18=>?_
 replace S:=(S.lit hBw18 hw18 (by rw [List.length_replicate]; omega)).repTm (Int.toNat (a0.sub.length:Int))
 refine wd (zf zG rfl (o':=4) rfl) ?_
 refine yJ zB rfl rfl (S.blk 1) (by rw [Term.len]; decide) (SlV.one _ _ rfl) (Term.set_sub _ _) fun w22 B hw22 zw22=>?_
 replace S:=S.store 1 B hw22
 refine zd (zb (zb (za (wd (zf zG rfl (o':=4) rfl) (wd (zl zB rfl ((S.blk 4).cell (Term.get_sub _))) (wd (does_lenF zz rfl (S.onZ 1)) (wd (zi rfl) (zd ?_))))))))
 replace S:=(S.nil zo 5 Term.C).bigTm
 obtain ⟨o23,e23,Ho23⟩ := zq H
 clear H
 let LT1:List OA:=[zg s_0 a0.sub,zg s_2 a2.sub,oMS m_3 a3,oPw]
 refine xV ([10,11,12,13,14] ++ rg 34 61) (fun fr W => ∃ s24:SlV,∃ m25:List Term,St A N w W [oS zo 5 Term.C SlV.nil ([]:List Term),oB b16 zo (tmC o23 s24),oS zo 5 Term.C s24 m25,oB b6 zo (Term.C tmZ),oB b4 zo (tmC a2 s_2),oB b2 zo (tmC a0 s_0)] (bigA xx ([]:List Term) ([]:List PTerm) :: bigA xx m25 o23.sub :: LT1)) ?_ ?_
 ·refine zO ?_
  refine xR (α:=Nat × Int × PTerm) ([10,11,12,13,14] ++ rg 34 61) (fun x fr W=>(x.1:Int)=(a0.sub.length:Int) - x.2.1∧0 ≤ x.2.1∧forS (fun i s=>zcJ.b0 a0 k a1 a3 zek a2 i s) x.1 x.2.1 x.2.2=some o23 ∧ ∃ s26:SlV,∃ m27:List Term,fr 34 = .int .i64 x.2.1∧St A N w W [oS zo 5 Term.C SlV.nil ([]:List Term),oB b16 zo (tmC (x.2.2) s26),oS zo 5 Term.C s26 m27,oB b6 zo (Term.C tmZ),oB b4 zo (tmC a2 s_2),oB b2 zo (tmC a0 s_0)] (bigA xx ([]:List Term) ([]:List PTerm) :: bigA xx m27 (x.2.2).sub :: LT1)) (fun x=>x.1) (((a0.sub.length:Int) - 0).toNat,0,(⟨a0.kind,a0.name,a0.other,a0.form,List.replicate (Int.toNat (a0.sub.length:Int)) PTerm.z⟩ : PTerm)) ⟨(by dsimp only; have hle:=Int.natCast_nonneg (a0.sub.length); omega),(Int.le_refl _),(by dsimp only; exact e23),s20,List.replicate (Int.toNat (a0.sub.length:Int)) Term.z,rfl,S⟩ ?_
  rintro ⟨m23,i23,x23_0⟩ g23 u23 ⟨hm23,hl23,e23,s28,m29,q23_i,S⟩
  try dsimp only at hm23
  try dsimp only at hl23
  try dsimp only at e23
  try dsimp only at S
  try dsimp only at q23_i
  refine zb (za (wd (xy q23_i rfl) (zd (zb ?_))))
  refine zJ rfl (fun hc30=>?_) (fun hc30=>?_)
  rotate_left
  ·refine x0 ?_
   have hge:(a0.sub.length:Int) ≤ i23:=Int.not_lt.1 (of_decide_eq_false hc30)
   obtain rfl:m23=0:=by omega
   replace e23:=forS_0 e23
   obtain rfl:=e23
   exact ⟨rfl,df,s28,m29,S⟩
  refine zx ?_
  have hlt23:i23 < (a0.sub.length:Int):=of_decide_eq_true hc30
  obtain ⟨m23,rfl⟩ : ∃ m,m23=m + 1:=⟨m23 - 1,by omega⟩
  obtain ⟨q23,H,e23⟩ := forS_s e23
  unfold zcJ.b0 at H
  try dsimp only at H
  have hb23:=(S.lenFZ 2)
  refine zb ?_
  refine zO (zb (za (wd (zi q23_i) (wd (does_indexF zz rfl q23_i (S.onZ 2) (And.intro (show 0 ≤ i23 by omega) (show i23 < (a0.sub.length:Int) from hlt23)).1 (And.intro (show 0 ≤ i23 by omega) (show i23 < (a0.sub.length:Int) from hlt23)).2) ?_))))
  obtain ⟨s32,hc33,S⟩ := S.viewTerm 2 (And.intro (show 0 ≤ i23 by omega) (show i23 < (a0.sub.length:Int) from hlt23))
  replace S:=S
  refine wd (ldC rfl hc33) ?_
  refine zQ xC zbA fun b35 w34 hw34=>?_
  replace S:=S.new hw34
  refine wd (zh rfl) ?_
  refine wsT rfl rfl (S.blk 0) fun w36 B hw36 zw36=>?_
  replace S:=S.store 0 B hw36
  refine zd (zb (za (wd (ldT rfl (S.blk 6)) (wd (zi rfl) ?_))))
  obtain ⟨r37,er37,H⟩ := zq H
  obtain ⟨_,_,T,bk⟩ := S.calln 0 ((.z 3 rfl .nil))
  refine zu (zt zbc) zbA (zbl (a0:=a0) T er37) ?_
  rintro _ w38 ⟨rfl,S2⟩
  replace S:=bk _ _ _ _ S2 rfl
  refine wd (uN rfl) (zd (zb (za (wd (ldT rfl (S.blk 0)) ?_))))
  obtain ⟨r40,er40,H⟩ := zq H
  obtain ⟨_,_,T,bk⟩ := S.calln 0 ((.z 0 rfl .nil))
  refine zu (zt ca_term_freely) zbA (term_freely_st (a0:=(kd a0 i23)) T er40) ?_
  rintro _ w41 ⟨m43,rfl,S2⟩
  replace S:=bk _ _ _ _ S2 rfl
  refine wd (does_as_m rfl) (zd (zb (zb (za (wd (xa rfl) (wd (xa rfl) (wd (yX rfl rfl) ?_)))))))
  refine wd (zA rfl) ?_
  refine wg (fun hg=>yK rfl) ?_
  refine wg (fun hg=>xa rfl) ?_
  refine wg (fun hg=>ub (C:=Value.string) (D:=(Value.int .i64)) (key:=a1) (zv:=0) xW vt zv_int (zp hg) (zp hg) (S.map 0)) ?_
  refine wg (fun hg=>zV (zp hg) rfl) (wd (xJ rfl (fun hp=>(zp (xz hp)))) (zd ?_))
  refine zJ rfl (fun hc44=>?_) (fun hc44=>?_)
  ·replace H:=if_t hc44 H
   refine zb ?_
   obtain ⟨r46,er46,H⟩ := zq H
   refine vh 5 ⟨fun _ _=>True,fun _ _ _=>True,fun i v _=>match i with
    | 0=>v=Value.pointer (some ⟨b16,4,none⟩)
    | 1=>v=s28.v
    | 2=>v=Value.int .i64 i23
    | 3=>v=Value.agg (tmC (kd a0 i23) s32).toArray
    | _=>True⟩ (fun L g v => ∃ Z50:List OA,(∀ z ∈ (zg s32 ((kd a0 i23).sub) :: bigA xx ([]:List Term) ([]:List PTerm) :: bigA xx m29 x23_0.sub :: LT1),z ∈ Z50)∧Made L g Z50 4 57 (fun (c:SlV)=>Value.agg (tmC r46 c).toArray) (fun (c:SlV)=>[zg c r46.sub])∧St A N w v [oMS m43 r40,oB b35 zo (tmC (kd a0 i23) s32),oS zo 5 Term.C SlV.nil ([]:List Term),oB b16 zo (tmC x23_0 s28),oS zo 5 Term.C s28 m29,oB b6 zo (Term.C tmZ),oB b4 zo (tmC a2 s_2),oB b2 zo (tmC a0 s_0)] Z50) hmix zbD (fun _ _ _ _ _ _ _ hv=>hv) (fun g=>⟨_,fun _ h=>h,Made.no,S.ext (Ext.drawn _)⟩) ⟨?_,?_,?_,?_,?_,trivial⟩ ?_
   ·rintro L g v hL hcl hclo ⟨Z50,hZ,hm4,S⟩ 
    refine wd (zf zG rfl (o':=4) rfl) ?_
    exact w4 rfl ⟨_,hZ,hm4.keep rfl rfl tl0,S⟩
   ·rintro L g v hL hcl hclo ⟨Z50,hZ,hm4,S⟩ hv0
    refine wd (zl zB hv0 ((S.blk 3).cell (Term.get_sub _))) ?_
    exact w4 rfl ⟨_,hZ,hm4.keep rfl rfl tl0,S⟩
   ·rintro L g v hL hcl hclo ⟨Z50,hZ,hm4,S⟩ 
    refine wd (zi rfl) ?_
    exact w4 rfl ⟨_,hZ,hm4.keep rfl rfl tl0,S⟩
   ·rintro L g v hL hcl hclo ⟨Z50,hZ,hm4,S⟩ 
    refine wd (ldT rfl (S.blk 1)) ?_
    exact w4 rfl ⟨_,hZ,hm4.keep rfl rfl tl0,S⟩
   ·rintro L g v hL hcl hclo ⟨Z50,hZ,hm4,S⟩ hv3
    replace S:=(S.zneed hZ)
    obtain ⟨_,_,T,bk⟩ := S.sub [0] [] [oMS m43 r40,oB b35 zo (tmC (kd a0 i23) s32),oS zo 5 Term.C SlV.nil ([]:List Term),oB b16 zo (tmC x23_0 s28),oS zo 5 Term.C s28 m29,oB b6 zo (Term.C tmZ),oB b4 zo (tmC a2 s_2),oB b2 zo (tmC a0 s_0)]
    refine zu (zF zbd (zK hv3 rfl)) zbA (term_clone_st (a0:=(kd a0 i23)) T er46) ?_
    rintro _ w53 ⟨s55,rfl,S2⟩
    replace S:=bk _ _ _ _ _ S2 rfl rfl
    exact w4 trivial ⟨_,(fun z h=>tl8 z (hZ z h)),Made.one (val:=(fun (c:SlV)=>Value.agg (tmC r46 c).toArray)) (ps:=(fun (c:SlV)=>[zg c r46.sub])) s55 (yf List.mem_cons_self yC),S⟩
   rintro L g w56 hLm ⟨Z50,hZ,hm4,S⟩ hv57_0 hv57_1 hv57_2 hv57_3 _
   have hLt : ∀ j,j < 5→L j=true:=fun j hj=>by rw [hLm]; exact decide_eq_true hj
   obtain ⟨s49,hv57_4,hp4⟩ := hm4 (hLt 4 zbA)
   replace S:=S.pickZ (xG (l1:=[zg s49 r46.sub]) hp4 hZ)
   clear hp4 hZ hm4
   obtain ⟨hi58,H⟩ := xb H
   refine wd (xi zz hv57_1 hv57_2 (S.rdO 4) (zM hi58).1 (by rw [(S.lenTm 3)]; exact (zM hi58).2)) ?_
   have hlw59:=S.lenO 4
   have hqw59:=(S.lenTm 3)
   refine zaC (C:=Term.C) (a:=(tmT r46 s49)) zR rfl hv57_4 (S.sl 4) ⟨(zM hi58).1,by rw [hqw59]; exact (zM hi58).2⟩ (Term.len _) (Term.one _) fun w59 O hw59=>?_
   replace S:=S.push 4 O (by rw [List.length_set]; exact hlw59) hw59 (fun i hi => .inl hi)
   clear O hlw59 hqw59
   replace S:=S.setTm (x:=r46) 3 0 (Int.toNat i23)
   refine zd ?_
   refine x0 (za (wd (xt q23_i rfl (c:=i23 + 1) rfl zbB zbB) (wd (zi rfl) (zd ?_))))
   replace S:=S.arr [3,4,0,5,6,7] [3,0,5,6,7,8]
   obtain rfl:=zbE H
   exact ⟨rfl,df,(m23,i23 + 1,(⟨x23_0.kind,x23_0.name,x23_0.other,x23_0.form,x23_0.sub.set (Int.toNat i23) r46⟩ : PTerm)),⟨(by dsimp only; omega),(by dsimp only; omega),e23,s28,m29.set (Int.toNat i23) (tmT r46 s49),rfl,S⟩,by dsimp only; omega⟩
  replace H:=if_f hc44 H
  refine zx (zb (zb (za (wd (xa rfl) (wd (jh rfl rfl) (wd (zA rfl) ?_))))))
  refine wg (fun hg=>yK rfl) ?_
  refine wg (fun hg=>xa rfl) ?_
  refine wg (fun hg=>ub (C:=Value.string) (D:=(Value.int .i64)) (key:=r37) (zv:=0) xW vt zv_int (zp hg) (zp hg) (S.mapZ 5)) ?_
  refine wg (fun hg=>zaz (zp hg) rfl) (wd (zZ rfl (fun hp=>(zp (xz hp)))) (zd ?_))
  obtain ⟨o60,e60,Ho60⟩ := zq H
  replace H:=e60; clear e60
  refine xV ([14] ++ rg 67 18) (fun fr W => ∃ s61:SlV,∃ s62:SlV,∃ m63:List Term,St A N w W [oMS m43 r40,oB b35 zo (tmC o60.1 s61),oS zo 5 Term.C SlV.nil ([]:List Term),oB b16 zo (tmC o60.2 s62),oS zo 5 Term.C s62 m63,oB b6 zo (Term.C tmZ),oB b4 zo (tmC a2 s_2),oB b2 zo (tmC a0 s_0)] (zg s61 o60.1.sub :: bigA xx ([]:List Term) ([]:List PTerm) :: bigA xx m63 o60.2.sub :: LT1)) ?_ ?_
  ·refine zJ rfl (fun hc64=>?_) (fun hc64=>?_)
   ·replace H:=if_t hc64 H
    refine zb (za (wd (yK rfl) (wd (yK rfl) (wd (xa rfl) ?_))))
    obtain ⟨r65,er65,H⟩ := zq H
    obtain ⟨_,_,T,bk⟩ := S.calln 0 ((.o 0 rfl (.z 5 rfl (.z 6 rfl .nil))))
    refine zu (zt ca_term_fresh) zbA (term_fresh_st T er65) ?_
    rintro _ w66 ⟨rfl,S2⟩
    replace S:=bk _ _ _ _ S2 rfl
    refine wd (uN rfl) (zd (zb (za (wd (ldT rfl (S.blk 1)) (wd (xa rfl) (wd (xa rfl) ?_))))))
    refine wd (Does.to (v' := .agg (Term.C (tmM 1 r65 SlV.nil)).toArray) (z1 (vs:=[(0,.int .i64 1),(1,.string r65)]) yP (xT rfl (xT rfl rfl)) (Bld.one rfl rfl (by rw [Term.len]; decide) (Term.set_kind _ _) (Bld.one rfl rfl (by rw [Term.len]; decide) (Term.set_name _ _) Bld.nil))) rfl) ?_
    refine wl_makeMap (C:=Value.string) (D:=(Value.int .i64)) zbA fun m68 w69 hmw69 hxw69 hlw69=>?_
    replace S:=S.newM hmw69 hxw69 hlw69
    refine wd (xa rfl) ?_
    refine wl_mapInsert (C:=Value.string) (D:=(Value.int .i64)) (key:=r65) (v:=1) xW vt rfl rfl rfl (S.map 0) fun w70 hmw70 hcw70 hsw70=>?_
    replace S:=S.mapSet 0 ⟨hmw70,hcw70,hsw70⟩
    refine wd (yK rfl) ?_
    replace S:=S.nilTm
    obtain ⟨r71,er71,H⟩ := zq H
    replace S:=S.frzO 0
    obtain ⟨_,_,T,bk⟩ := S.sub [2,1,0,8] [] [oMS m43 r40,oB b35 zo (tmC (kd a0 i23) s32),oS zo 5 Term.C SlV.nil ([]:List Term),oB b16 zo (tmC x23_0 s28),oS zo 5 Term.C s28 m29,oB b6 zo (Term.C tmZ),oB b4 zo (tmC a2 s_2),oB b2 zo (tmC a0 s_0)]
    refine zu (zt ca_term_put) zbA (zdU (a0:=(kd a0 i23)) (a2:=(ptM 1 r65 [])) T er71) ?_
    rintro _ w72 ⟨s74,rfl,S2⟩
    replace S:=bk _ _ _ _ _ S2 rfl rfl
    refine wsT rfl rfl (S.blk 1) fun w75 B hw75 zw75=>?_
    replace S:=S.store 1 B hw75
    refine zd (zb (za (wd (zi rfl) (wd (zV rfl rfl) (zd ?_)))))
    refine zJ rfl (fun hc76=>?_) (fun hc76=>?_)
    ·replace H:=if_t hc76 H
     refine za (wd (xa rfl) (wd (zf vH rfl (o':=2) rfl) ?_))
     refine yJ xk rfl rfl (S.blk 3) (by rw [Term.len]; decide) rfl (Term.set_other _ _) fun w77 B hw77 zw77=>?_
     replace S:=S.store 3 B hw77
     refine zd ?_
     replace S:=S.arr [2,1,3,0,4,5,6,7] [0,4,5,6,7,8,9]
     obtain rfl:=zbE H
     exact ⟨rfl,df,s74,s28,m29,S⟩
    ·replace H:=if_f hc76 H
     refine za (wd (xa rfl) (wd (zf xK rfl (o':=1) rfl) ?_))
     refine yJ xk rfl rfl (S.blk 3) (by rw [Term.len]; decide) rfl (Term.set_name _ _) fun w78 B hw78 zw78=>?_
     replace S:=S.store 3 B hw78
     refine zd ?_
     replace S:=S.arr [2,1,3,0,4,5,6,7] [0,4,5,6,7,8,9]
     obtain rfl:=zbE H
     exact ⟨rfl,df,s74,s28,m29,S⟩
   ·replace H:=if_f hc64 H
    refine zx ?_
    obtain rfl:=zbE H
    exact ⟨rfl,df,s32,s28,m29,S⟩
  rintro g79 u80 ⟨s61,s62,m63,S⟩
  have H:=Ho60
  obtain ⟨r82,er82,H⟩ := zq H
  refine vh 8 ⟨fun _ _=>True,fun _ _ _=>True,fun i v _=>match i with
   | 0=>v=Value.pointer (some ⟨b16,4,none⟩)
   | 1=>v=s62.v
   | 2=>v=Value.int .i64 i23
   | 3=>v=Value.agg (tmC o60.1 s61).toArray
   | 4=>v=Value.string a1
   | 5=>v=Value.agg (tmC a2 s_2).toArray
   | 6=>v=Value.map (some m_3)
   | _=>True⟩ (fun L g v => ∃ Z86:List OA,(∀ z ∈ (zg s61 o60.1.sub :: bigA xx ([]:List Term) ([]:List PTerm) :: bigA xx m63 o60.2.sub :: LT1),z ∈ Z86)∧Made L g Z86 7 92 (fun (c:SlV)=>Value.agg (tmC r82 c).toArray) (fun (c:SlV)=>[zg c r82.sub])∧St A N w v [oMS m43 r40,oB b35 zo (tmC o60.1 s61),oS zo 5 Term.C SlV.nil ([]:List Term),oB b16 zo (tmC o60.2 s62),oS zo 5 Term.C s62 m63,oB b6 zo (Term.C tmZ),oB b4 zo (tmC a2 s_2),oB b2 zo (tmC a0 s_0)] Z86) hmix zbD (fun _ _ _ _ _ _ _ hv=>hv) (fun g=>⟨_,fun _ h=>h,Made.no,S.ext (Ext.drawn _)⟩) ⟨?_,?_,?_,?_,?_,?_,?_,?_,trivial⟩ ?_
  ·rintro L g v hL hcl hclo ⟨Z86,hZ,hm7,S⟩ 
   refine wd (zf zG rfl (o':=4) rfl) ?_
   exact w4 rfl ⟨_,hZ,hm7.keep rfl rfl tl0,S⟩
  ·rintro L g v hL hcl hclo ⟨Z86,hZ,hm7,S⟩ hv0
   refine wd (zl zB hv0 ((S.blk 3).cell (Term.get_sub _))) ?_
   exact w4 rfl ⟨_,hZ,hm7.keep rfl rfl tl0,S⟩
  ·rintro L g v hL hcl hclo ⟨Z86,hZ,hm7,S⟩ 
   refine wd (zi rfl) ?_
   exact w4 rfl ⟨_,hZ,hm7.keep rfl rfl tl0,S⟩
  ·rintro L g v hL hcl hclo ⟨Z86,hZ,hm7,S⟩ 
   refine wd (ldT rfl (S.blk 1)) ?_
   exact w4 rfl ⟨_,hZ,hm7.keep rfl rfl tl0,S⟩
  ·rintro L g v hL hcl hclo ⟨Z86,hZ,hm7,S⟩ 
   refine wd (xa rfl) ?_
   exact w4 rfl ⟨_,hZ,hm7.keep rfl rfl tl0,S⟩
  ·rintro L g v hL hcl hclo ⟨Z86,hZ,hm7,S⟩ 
   refine wd (ldT rfl (S.blk 6)) ?_
   exact w4 rfl ⟨_,hZ,hm7.keep rfl rfl tl0,S⟩
  ·rintro L g v hL hcl hclo ⟨Z86,hZ,hm7,S⟩ 
   refine wd (yK rfl) ?_
   exact w4 rfl ⟨_,hZ,hm7.keep rfl rfl tl0,S⟩
  ·rintro L g v hL hcl hclo ⟨Z86,hZ,hm7,S⟩ hv3 hv4 hv5 hv6
   replace S:=(S.zneed hZ)
   obtain ⟨_,_,T,bk⟩ := S.sub [0,4,5,6] [] [oMS m43 r40,oB b35 zo (tmC o60.1 s61),oS zo 5 Term.C SlV.nil ([]:List Term),oB b16 zo (tmC o60.2 s62),oS zo 5 Term.C s62 m63,oB b6 zo (Term.C tmZ),oB b4 zo (tmC a2 s_2),oB b2 zo (tmC a0 s_0)]
   refine zu (zF ca_term_put (zK hv3 (zK hv4 (zK hv5 (zK hv6 rfl))))) zbA (zdU (a0:=o60.1) (a2:=a2) T er82) ?_
   rintro _ w89 ⟨s91,rfl,S2⟩
   replace S:=bk _ _ _ _ _ S2 rfl rfl
   exact w4 trivial ⟨_,(fun z h=>tl8 z (hZ z h)),Made.one (val:=(fun (c:SlV)=>Value.agg (tmC r82 c).toArray)) (ps:=(fun (c:SlV)=>[zg c r82.sub])) s91 (yf List.mem_cons_self yC),S⟩
  rintro L g w92 hLm ⟨Z86,hZ,hm7,S⟩ hv93_0 hv93_1 hv93_2 hv93_3 hv93_4 hv93_5 hv93_6 _
  have hLt : ∀ j,j < 8→L j=true:=fun j hj=>by rw [hLm]; exact decide_eq_true hj
  obtain ⟨s85,hv93_7,hp7⟩ := hm7 (hLt 7 zbA)
  replace S:=S.pickZ (xG (l1:=[zg s85 r82.sub]) hp7 hZ)
  clear hp7 hZ hm7
  obtain ⟨hi94,H⟩ := xb H
  refine wd (xi zz hv93_1 hv93_2 (S.rdO 4) (zM hi94).1 (by rw [(S.lenTm 3)]; exact (zM hi94).2)) ?_
  have hlw95:=S.lenO 4
  have hqw95:=(S.lenTm 3)
  refine zaC (C:=Term.C) (a:=(tmT r82 s85)) zR rfl hv93_7 (S.sl 4) ⟨(zM hi94).1,by rw [hqw95]; exact (zM hi94).2⟩ (Term.len _) (Term.one _) fun w95 O hw95=>?_
  replace S:=S.push 4 O (by rw [List.length_set]; exact hlw95) hw95 (fun i hi => .inl hi)
  clear O hlw95 hqw95
  replace S:=S.setTm (x:=r82) 3 0 (Int.toNat i23)
  refine zd (za (wd (xt q23_i rfl (c:=i23 + 1) rfl zbB zbB) (wd (zi rfl) (zd ?_))))
  replace S:=S.arr [3,4,0,5,6,7] [3,0,5,6,7,8]
  obtain rfl:=zbE H
  exact ⟨rfl,df,(m23,i23 + 1,(⟨o60.2.kind,o60.2.name,o60.2.other,o60.2.form,o60.2.sub.set (Int.toNat i23) r82⟩ : PTerm)),⟨(by dsimp only; omega),(by dsimp only; omega),e23,s62,m63.set (Int.toNat i23) (tmT r82 s85),rfl,S⟩,by dsimp only; omega⟩
 rintro g96 u97 ⟨s24,m25,S⟩
 have H:=Ho23
 refine zb (za ?_)
 replace S:=S.frzTm 2 1
 refine wd (ldT rfl (S.blk 1)) ?_
 refine wsT rfl rfl (S.blk 2) fun w98 B hw98 zw98=>?_
 replace S:=S.store 2 B hw98
 refine zd (zr ?_)
 refine ⟨_,(zS (rtT rfl (S.blk 0))),?_⟩
 replace S:=S.arr [] [0]
 obtain rfl:=zbE H
 exact ⟨s24,rfl,S⟩
theorem term_put_st {a0:PTerm} {s_0:SlV} {a1:ByteArray} {a2:PTerm} {s_2:SlV} {a3:List (ByteArray × Int)} {m_3:Nat} (S:St A N w w [] [zg s_0 a0.sub,zg s_2 a2.sub,oMS m_3 a3,oPw]) {k:Nat} {r:PTerm} (H:zcJ.f k a0 a1 a2 a3=some r) :
  Calls PP zaG #[.agg (tmC a0 s_0).toArray,.string a1,.agg (tmC a2 s_2).toArray,.map (some m_3)] w <| Rt fun v w'=>(∃ so0:SlV,v = .agg (tmC r so0).toArray∧St A N w w' [] [zg so0 r.sub]):=by
 have main : ∀ (k:Nat) {A:Nat→Prop} {N:Oth} {w:World} {a0:PTerm} {s_0:SlV} {a1:ByteArray} {a2:PTerm} {s_2:SlV} {a3:List (ByteArray × Int)} {m_3:Nat} (S:St A N w w [] [zg s_0 a0.sub,zg s_2 a2.sub,oMS m_3 a3,oPw]) {r:PTerm} (H:zcJ.f k a0 a1 a2 a3=some r),Calls PP zaG #[.agg (tmC a0 s_0).toArray,.string a1,.agg (tmC a2 s_2).toArray,.map (some m_3)] w <| Rt fun v w'=>(∃ so0:SlV,v = .agg (tmC r so0).toArray∧St A N w w' [] [zg so0 r.sub]):=by
  intro k
  induction k with
  | zero=>intro A N w a0 s_0 a1 a2 s_2 a3 m_3 S r H; cases H
  | succ k ih=>intro A N w a0 s_0 a1 a2 s_2 a3 m_3 S r H; exact term_put_gst ih S H
 exact main k S H
theorem zak {a0:PTerm} {s_0:SlV} {a1:ByteArray} {a2:PTerm} {s_2:SlV} (S:St A N w w [] [zg s_0 a0.sub,zg s_2 a2.sub,oPw]) {k:Nat} {r:PTerm × Int} (H:zcK.f k a0 a1 a2=some r) :
  Calls PP F_term_Put #[.agg (tmC a0 s_0).toArray,.string a1,.agg (tmC a2 s_2).toArray] w <| Rt fun v w'=>(∃ so0:SlV,v = .tuple #[.agg (tmC r.1 so0).toArray,.int .i64 r.2]∧St A N w w' [] [zg so0 r.1.sub]):=by
 unfold zcK.f at H
 refine zy (n:=51) Tryz.func106 rfl rfl zbC (zb (za ?_))
 refine zE rfl zbA fun b2 w1 hw1=>?_
 replace S:=S.new hw1
 refine zE rfl zbA fun b4 w3 hw3=>?_
 replace S:=S.new hw3
 refine zQ xC zbA fun b6 w5 hw5=>?_
 replace S:=S.new hw5
 refine wd (zh rfl) (zd (zb (zb (za (wd (ldT rfl (S.blk 2)) ?_)))))
 obtain ⟨r7,er7,H⟩ := zq H
 obtain ⟨_,_,T,bk⟩ := S.calln 0 ((.z 0 rfl .nil))
 refine zu (zt uM) zbA (uO (a0:=a0) T er7) ?_
 rintro _ w8 ⟨rfl,S2⟩
 replace S:=bk _ _ _ _ S2 rfl
 refine wd (zh rfl) (zd (zb (za (wd (zi rfl) (wd (xr rfl rfl) (zd ?_))))))
 refine zJ rfl (fun hc10=>?_) (fun hc10=>?_)
 ·replace H:=if_t hc10 H
  refine zb (za (wd (Does.to (v' := .agg (Term.C tmZ).toArray) (z1 (vs:=[]) yP rfl Bld.nil) rfl) (wd (zi rfl) ?_)))
  refine wsT rfl rfl (S.blk 0) fun w11 B hw11 zw11=>?_
  replace S:=S.store 0 B hw11
  refine wd (zh rfl) (zd (zr ?_))
  replace S:=S.nilTm
  refine ⟨_,(xd (rtT rfl (S.blk 0)) (ze rfl)),?_⟩
  replace S:=S.arr [] [0]
  obtain rfl:=zbE H
  exact ⟨SlV.nil,rfl,S⟩
 replace H:=if_f hc10 H
 refine zx (zb (zb (za (wd (ldT rfl (S.blk 1)) ?_))))
 obtain ⟨r12,er12,H⟩ := zq H
 obtain ⟨_,_,T,bk⟩ := S.calln 0 ((.z 1 rfl .nil))
 refine zu (zt uM) zbA (uO (a0:=a2) T er12) ?_
 rintro _ w13 ⟨rfl,S2⟩
 replace S:=bk _ _ _ _ S2 rfl
 refine wd (zh rfl) (zd (zb (za (wd (zi rfl) (wd (xr rfl rfl) (zd ?_))))))
 refine zJ rfl (fun hc15=>?_) (fun hc15=>?_)
 ·replace H:=if_t hc15 H
  refine zb (za (wd (Does.to (v' := .agg (Term.C tmZ).toArray) (z1 (vs:=[]) yP rfl Bld.nil) rfl) (wd (zi rfl) ?_)))
  refine wsT rfl rfl (S.blk 0) fun w16 B hw16 zw16=>?_
  replace S:=S.store 0 B hw16
  refine wd (zh rfl) (zd (zr ?_))
  replace S:=S.nilTm
  refine ⟨_,(xd (rtT rfl (S.blk 0)) (ze rfl)),?_⟩
  replace S:=S.arr [] [0]
  obtain rfl:=zbE H
  exact ⟨SlV.nil,rfl,S⟩
 replace H:=if_f hc15 H
 refine zx (zb (zb (za (wd (xa rfl) ?_))))
 obtain ⟨r17,er17,H⟩ := zq H
 obtain ⟨_,_,T,bk⟩ := S.calln 0 ((.nil))
 refine zu (zt zal) zbA (formula_Word_st T er17) ?_
 rintro _ w18 ⟨rfl,S2⟩
 replace S:=bk _ _ _ _ S2 rfl
 refine wd (xg rfl) (zd ?_)
 refine zJ rfl (fun hc20=>?_) (fun hc20=>?_)
 ·replace H:=if_t hc20 H
  refine zb (za (wd (Does.to (v' := .agg (Term.C tmZ).toArray) (z1 (vs:=[]) yP rfl Bld.nil) rfl) ?_))
  refine wsT rfl rfl (S.blk 0) fun w21 B hw21 zw21=>?_
  replace S:=S.store 0 B hw21
  refine wd (zh rfl) (zd (zr ?_))
  replace S:=S.nilTm
  refine ⟨_,(xd (rtT rfl (S.blk 0)) (ze rfl)),?_⟩
  replace S:=S.arr [] [0]
  obtain rfl:=zbE H
  exact ⟨SlV.nil,rfl,S⟩
 replace H:=if_f hc20 H
 refine zx (zb ?_)
 refine yt 11 (Ext w18) hmix zbD zbD (Ext.drawn _) (zD (fun v K=>zm zR rfl (((S.ext K).blk 2).all _ (Term.len _)) (Term.len _)) (zD (fun v K=>xa rfl) (zD (fun v K=>zm zR rfl (((S.ext K).blk 1).all _ (Term.len _)) (Term.len _)) ?_)))
 obtain ⟨r22,er22,H⟩ := zq H
 refine wq_call (fun v=>zt ca_term_Size) (fun v K=>(have ⟨M,SS⟩ := (S.ext K).lend ((.z 1 rfl .nil)); quiet (term_Size_st (a0:=a2) SS er22) (fun v w' h=>⟨h.1,_,_,h.2⟩))) (fun v v' K h=>K.thenExt h) (zD (fun v K=>zm zR rfl (((S.ext K).blk 1).all _ (Term.len _)) (Term.len _)) ?_)
 obtain ⟨r23,er23,H⟩ := zq H
 refine wq_call (fun v=>zt ca_term_Deep) (fun v K=>(have ⟨M,SS⟩ := (S.ext K).lend ((.z 1 rfl .nil)); quiet (term_Deep_st (a0:=a2) SS er23) (fun v w' h=>⟨h.1,_,_,h.2⟩))) (fun v v' K h=>K.thenExt h) ?_
 obtain ⟨r24,er24,H⟩ := zq H
 refine wq_call (fun v=>zt ca_term_grown) (fun v K=>(have ⟨M,SS⟩ := (S.ext K).lend ((.z 0 rfl .nil)); quiet (term_grown_st (a0:=a0) SS er24) (fun v w' h=>⟨h.1,_,_,h.2⟩))) (fun v v' K h=>K.thenExt h) (zD (fun v K=>zU rfl) (zD (fun v K=>zn rfl rfl) (zD (fun v K=>zn rfl rfl) (zD (fun v K=>zh rfl) ?_))))
 refine vY fun w25 K=>?_
 replace S:=S.ext K
 clear K
 refine wd (zh rfl) (zd (zb (zb (za (wd (zi rfl) (wd (zaz rfl rfl) (wd (zA rfl) ?_)))))))
 refine wg (fun hg=>zi rfl) ?_
 refine wg (fun hg=>zaz (zp hg) rfl) (wd (xJ rfl (fun hp=>(zp (xz hp)))) (zd ?_))
 refine zJ rfl (fun hc26=>?_) (fun hc26=>?_)
 ·replace H:=if_t hc26 H
  refine zb (za (wd (Does.to (v' := .agg (Term.C tmZ).toArray) (z1 (vs:=[]) yP rfl Bld.nil) rfl) ?_))
  refine wsT rfl rfl (S.blk 0) fun w27 B hw27 zw27=>?_
  replace S:=S.store 0 B hw27
  refine wd (zh rfl) (zd (zr ?_))
  replace S:=S.nilTm
  refine ⟨_,(xd (rtT rfl (S.blk 0)) (ze rfl)),?_⟩
  replace S:=S.arr [] [0]
  obtain rfl:=zbE H
  exact ⟨SlV.nil,rfl,S⟩
 replace H:=if_f hc26 H
 refine zx (zb ?_)
 obtain ⟨r29,er29,H⟩ := zq H
 let LT1:List OA:=[oB b6 zo (Term.C tmZ),oB b4 zo (tmC a2 s_2),oB b2 zo (tmC a0 s_0)]
 refine vh 5 ⟨fun _ _=>True,fun _ _ _=>True,fun i v _=>match i with
  | 0=>v=Value.agg (tmC a0 s_0).toArray
  | 1=>v=Value.string a1
  | 2=>v=Value.agg (tmC a2 s_2).toArray
  | 3=>v=Value.agg (tmC a2 s_2).toArray
  | _=>True⟩ (fun L g v => ∃ m32:Nat,∃ O34:List OA,∃ Z33:List OA,(∀ z ∈ [zg s_0 a0.sub,zg s_2 a2.sub,oPw],z ∈ Z33)∧(L 4=true→g 49=Value.map (some m32))∧O34=((bif L 4 then [oMS m32 r29] else []) ++ LT1)∧St A N w v O34 Z33) hmix zbD (fun _ _ _ _ _ _ _ hv=>hv) (fun g=>⟨0,_,_,fun _ h=>h,(fun h=>by cases h),rfl,S.ext (Ext.drawn _)⟩) ⟨?_,?_,?_,?_,?_,trivial⟩ ?_
 ·rintro L g v hL hcl hclo ⟨m32,O34,Z33,hZ,hk4,hO,S⟩ 
  have SR:St A N w v LT1 (zg s_0 a0.sub :: zg s_2 a2.sub :: oPw :: Z33):=by
   have S2:=S.zneed hZ
   rw [hO] at S2
   exact S2.drops
  refine wd (ldT rfl (SR.blk 2)) ?_
  exact w4 rfl ⟨m32,O34,Z33,hZ,(kpU hk4),by rw [hO]; simp only [pN L 0 4],S⟩
 ·rintro L g v hL hcl hclo ⟨m32,O34,Z33,hZ,hk4,hO,S⟩ 
  have SR:St A N w v LT1 (zg s_0 a0.sub :: zg s_2 a2.sub :: oPw :: Z33):=by
   have S2:=S.zneed hZ
   rw [hO] at S2
   exact S2.drops
  refine wd (xa rfl) ?_
  exact w4 rfl ⟨m32,O34,Z33,hZ,(kpU hk4),by rw [hO]; simp only [pN L 1 4],S⟩
 ·rintro L g v hL hcl hclo ⟨m32,O34,Z33,hZ,hk4,hO,S⟩ 
  have SR:St A N w v LT1 (zg s_0 a0.sub :: zg s_2 a2.sub :: oPw :: Z33):=by
   have S2:=S.zneed hZ
   rw [hO] at S2
   exact S2.drops
  refine wd (ldT rfl (SR.blk 1)) ?_
  exact w4 rfl ⟨m32,O34,Z33,hZ,(kpU hk4),by rw [hO]; simp only [pN L 2 4],S⟩
 ·rintro L g v hL hcl hclo ⟨m32,O34,Z33,hZ,hk4,hO,S⟩ 
  have hl4:=clF hL (hclo 4 3 · zbD)
  have SR:St A N w v LT1 (zg s_0 a0.sub :: zg s_2 a2.sub :: oPw :: Z33):=by
   have S2:=S.zneed hZ
   rw [hO] at S2
   simp only [hl4,cd2,la2] at S2
   exact S2
  refine wd (ldT rfl (SR.blk 1)) ?_
  exact w4 rfl ⟨m32,O34,Z33,hZ,(kpU hk4),by rw [hO]; simp only [pN L 3 4],S⟩
 ·rintro L g v hL hcl hclo ⟨m32,O34,Z33,hZ,hk4,hO,S⟩ hv3
  have hl4:L 4=false:=hL
  have hOP : ∃ P Y,P=[]∧Y=LT1∧O34=P ++ ([] ++ Y):=⟨_,_,rfl,rfl,by rw [hO]; simp only [hl4,cd2,la2]⟩
  obtain ⟨P,Y,hP,hY,hPY⟩ := hOP
  rw [hPY] at S
  replace S:=(S.zneed hZ)
  obtain ⟨_,_,T,bk⟩ := S.calln 0 ((.z 1 rfl .nil))
  refine zu (zF ca_term_freely (zK hv3 rfl)) zbA (term_freely_st (a0:=a2) T er29) ?_
  rintro _ w36 ⟨m38,rfl,S2⟩
  replace S:=bk _ _ _ _ S2 rfl
  refine w4 trivial ⟨m38,P ++ ([oMS m38 r29] ++ Y),_,(fun z h=>tl3 z (hZ z h)),(fun _=>upd_same _ _ _),?_,S.ins (P:=[oMS m38 r29])⟩
  rw [hP,hY]; simp only [x9 (L:=L) (i:=4),cd2,la2]
 rintro L g w39 hLm ⟨m32,O34,Z33,hZ,hk4,hO,S⟩ hv40_0 hv40_1 hv40_2 hv40_3 _
 have hLt : ∀ j,j < 5→L j=true:=fun j hj=>by rw [hLm]; exact decide_eq_true hj
 have hv40_4:=hk4 (hLt 4 zbA)
 simp only [hLt 4 zbA,cond_true,List.nil_append,List.cons_append] at hO
 rw [hO] at S
 replace S:=S.pickZ hZ
 clear  hZ 
 obtain ⟨r41,er41,H⟩ := zq H
 replace S:=S.frzO 0
 obtain ⟨_,_,T,bk⟩ := S.sub [1,2,0,3] [] LT1
 refine zu (zF ca_term_put (zK hv40_0 (zK hv40_1 (zK hv40_2 (zK hv40_4 rfl))))) zbA (term_put_st (a0:=a0) (a2:=a2) T er41) ?_
 rintro _ w42 ⟨s44,rfl,S2⟩
 replace S:=bk _ _ _ _ _ S2 rfl rfl
 refine wsT rfl rfl (S.blk 0) fun w45 B hw45 zw45=>?_
 replace S:=S.store 0 B hw45
 refine wd (zh rfl) (zd (zr ?_))
 refine ⟨_,(xd (rtT rfl (S.blk 0)) (ze rfl)),?_⟩
 replace S:=S.arr [] [0]
 obtain rfl:=zbE H
 exact ⟨s44,rfl,S⟩
theorem reduce_rules_2_st {a0:Tb} {a_0:Option Addr} {a1:PTerm} {s_1:SlV} (S:St A N w w [] [oT a_0 a0,zg s_1 a1.sub,oPw]) {k:Nat} {r:PTerm × Int} (H:zcL.f k a0 a1=some r) :
  Calls PP vI #[.pointer a_0,.agg (tmC a1 s_1).toArray] w <| Rt fun v w'=>(∃ so0:SlV,v = .tuple #[.agg (tmC r.1 so0).toArray,.int .i64 r.2]∧St A N w w' [] [zg so0 r.1.sub]):=by
 unfold zcL.f at H
 refine zy (n:=25) Tryz.func105 rfl rfl zbC (zb (za ?_))
 refine zE rfl zbA fun b2 w1 hw1=>?_
 replace S:=S.new hw1
 refine zQ xC zbA fun b4 w3 hw3=>?_
 replace S:=S.new hw3
 refine wd (zh rfl) (zd (zb ?_))
 refine wc_ws hmix fun w16 K=>?_
 replace S:=S.ext K
 clear K
 obtain ⟨hi17,H⟩ := xb H
 obtain ⟨s18,hc19,S⟩ := S.viewTerm 1 (zM hi17)
 replace S:=S.zs [1,2,3,0]
 obtain ⟨hi20,H⟩ := xb H
 obtain ⟨s21,hc22,S⟩ := S.viewTerm 3 (zM hi20)
 replace S:=S.zs [1,2,3,4,0]
 obtain ⟨hi23,H⟩ := xb H
 obtain ⟨hi24,H⟩ := xb H
 obtain ⟨s25,hc26,S⟩ := S.viewTerm 1 (zM hi24)
 replace S:=S.zs [1,2,3,4,5,0]
 refine vp 0 16 [] zbD zbA zbD
  (V:=fun i v u=>match i with
  | _=>True) ?_ ?_
 ·intro i v u u' hi hx hv
  match i,hv with
  | _,_=>exact trivial
 refine zC (fun v K=>zf zG rfl (o':=4) rfl) rfl (zC (fun v K=>zl zB rfl (((S.ext K).blk 1).cell (Term.get_sub _))) rfl (zC (fun v K=>does_indexF zz rfl rfl ((S.ext K).onZ 1) (zM hi17).1 (zM hi17).2) rfl (zC (fun v K=>zf zG rfl (o':=_) rfl) rfl (zC (fun v K=>zl zB rfl ((hc19.chg K (fun x=>x)).get (Term.get_sub _))) rfl (zC (fun v K=>does_indexF zz rfl rfl ((S.ext K).onZ 3) (zM hi20).1 (zM hi20).2) rfl ?_)))))
 refine zC (fun v K=>zm zR rfl (hc22.chg K (fun x=>x)) (Term.len _)) rfl (zC (fun v K=>zf zG rfl (o':=4) rfl) rfl (zC (fun v K=>zl zB rfl (((S.ext K).blk 1).cell (Term.get_sub _))) rfl (zC (fun v K=>does_indexF zz rfl rfl ((S.ext K).onZ 1) (zM hi23).1 (zM hi23).2) rfl (zC (fun v K=>zf xK rfl (o':=_) rfl) rfl (zC (fun v K=>zl xk rfl (vd.get_name ((S.ext K).onZ 1) (zM hi23))) rfl ?_)))))
 refine zC (fun v K=>zf zG rfl (o':=4) rfl) rfl (zC (fun v K=>zl zB rfl (((S.ext K).blk 1).cell (Term.get_sub _))) rfl (zC (fun v K=>does_indexF zz rfl rfl ((S.ext K).onZ 1) (zM hi24).1 (zM hi24).2) rfl (zC (fun v K=>zm zR rfl (hc26.chg K (fun x=>x)) (Term.len _)) rfl ?_)))
 refine y8 fun g w27 K hV=>?_
 replace S:=S.ext K
 clear K hV
 refine jE 16 17 zbD zbA ?_
 obtain ⟨r29,er29,H⟩ := zq H
 obtain ⟨_,_,T,bk⟩ := S.sub [4,5,2] [] [oB b4 zo (Term.C tmZ),oB b2 zo (tmC a1 s_1)]
 refine zu (zt zab) zbA (zak (a0:=(kd (kd a1 0) 0)) (a2:=(kd a1 1)) T er29) ?_
 rintro _ w30 ⟨s32,rfl,S2⟩
 replace S:=bk _ _ _ _ _ S2 rfl rfl
 refine zd ⟨rfl,?_⟩
 refine vp 17 19 [] zbD zbA zbD
  (V:=fun i v u=>match i with
  | _=>True) ?_ ?_
 ·intro i v u u' hi hx hv
  match i,hv with
  | _,_=>exact trivial
 refine zC (fun v K=>zn rfl rfl) rfl (zC (fun v K=>zn rfl rfl) rfl ?_)
 refine y8 fun g w33 K hV=>?_
 replace S:=S.ext K
 clear K hV
 refine kT 19 zbD zbA ?_
 refine wsT rfl rfl (S.blk 0) fun w35 B hw35 zw35=>?_
 replace S:=S.store 0 B hw35
 refine wd (zh rfl) (zd (zr ?_))
 refine ⟨_,(xd (rtT rfl (S.blk 0)) (ze rfl)),?_⟩
 replace S:=S.arr [] [0]
 obtain rfl:=zbE H
 exact ⟨s32,rfl,S⟩
theorem reduce_rules_4_st {a0:Tb} {a_0:Option Addr} {a1:PTerm} {s_1:SlV} (S:St A N w w [] [oT a_0 a0,zg s_1 a1.sub,oPw]) {k:Nat} {r:PTerm × Int} (H:zcM.f k a0 a1=some r) :
  Calls PP vJ #[.pointer a_0,.agg (tmC a1 s_1).toArray] w <| Rt fun v w'=>(∃ so0:SlV,v = .tuple #[.agg (tmC r.1 so0).toArray,.int .i64 r.2]∧St A N w w' [] [zg so0 r.1.sub]):=by
 unfold zcM.f at H
 refine zy (n:=40) Tryz.func109 rfl rfl zbC (zb (za ?_))
 refine zE rfl zbA fun b2 w1 hw1=>?_
 replace S:=S.new hw1
 refine zQ xC zbA fun b4 w3 hw3=>?_
 replace S:=S.new hw3
 refine wd (zh rfl) (zd (zb (za (wd (zf zG rfl (o':=4) rfl) (wd (zl zB rfl ((S.blk 1).cell (Term.get_sub _))) ?_)))))
 obtain ⟨hi5,H⟩ := xb H
 refine wd (does_indexF zz rfl rfl (S.onZ 1) (zM hi5).1 (zM hi5).2) (wd (zf zG rfl (o':=_) rfl) ?_)
 obtain ⟨s6,hc7,S⟩ := S.viewTerm 1 (zM hi5)
 replace S:=S
 refine wd (zl zB rfl (hc7.get (Term.get_sub _))) ?_
 obtain ⟨hi8,H⟩ := xb H
 refine wd (does_indexF zz rfl rfl (S.onZ 0) (zM hi8).1 (zM hi8).2) ?_
 obtain ⟨s9,hc10,S⟩ := S.viewTerm 0 (zM hi8)
 replace S:=S
 refine wd (ldC rfl hc10) ?_
 refine zQ xC zbA fun b12 w11 hw11=>?_
 replace S:=S.new hw11
 refine wsT rfl rfl (S.blk 0) fun w13 B hw13 zw13=>?_
 replace S:=S.store 0 B hw13
 refine zd (zb ?_)
 obtain ⟨hi22,H⟩ := xb H
 obtain ⟨hi24,H⟩ := xb H
 obtain ⟨r26,er26,H⟩ := zq H
 obtain ⟨r29,er29,H⟩ := zq H
 obtain ⟨r33,er33,H⟩ := zq H
 obtain ⟨s23,S⟩ := S.viewTermC 0 (zM hi22)
 replace S:=S
 obtain ⟨s25,S⟩ := S.viewTermC 5 (zM hi24)
 replace S:=S.zs [4,5,6,7,8,2,3,0,1]
 let LT2:List OA:=[oB b12 zo (tmC (kd (kd a1 0) 0) s9),oB b4 zo (Term.C tmZ),oB b2 zo (tmC a1 s_1)]
 refine vh 20 ⟨fun _ _=>True,fun _ _ _=>True,fun i v _=>match i with
  | 0=>v=Value.pointer (some ⟨b12,4,none⟩)
  | 1=>v=s9.v
  | 2=>v=Value.pointer (some ⟨s9.blk,s9.off + Int.toNat 0 * 5,none⟩)
  | 3=>v=Value.agg (tmC (kd (kd (kd a1 0) 0) 0) s23).toArray
  | 4=>v=Value.pointer (some ⟨b12,1,none⟩)
  | 5=>v=Value.string ((kd (kd a1 0) 0).name)
  | 6=>v=Value.pointer (some ⟨b2,4,none⟩)
  | 7=>v=s_1.v
  | 8=>v=Value.pointer (some ⟨s_1.blk,s_1.off + Int.toNat 1 * 5,none⟩)
  | 9=>v=Value.agg (tmC (kd a1 1) s25).toArray
  | 10=>v=Value.pointer a_0
  | 11=>v=Value.agg (tmC a1 s_1).toArray
  | 12=>v=Value.int .i64 r26
  | 17=>v=Value.int .i64 r33.2
  | _=>True⟩ (fun L g v => ∃ b38:Nat,∃ s40:SlV,∃ O42:List OA,∃ Z41:List OA,(∀ z ∈ [zg s9 ((kd (kd a1 0) 0).sub),zg s6 ((kd a1 0).sub),oT a_0 a0,zg s_1 a1.sub,oPw,oCl s9.blk (s9.off + Int.toNat 0 * 5) (tmC (kd (kd (kd a1 0) 0) 0) s23),zg s23 ((kd (kd (kd a1 0) 0) 0).sub),oCl s_1.blk (s_1.off + Int.toNat 1 * 5) (tmC (kd a1 1) s25),zg s25 ((kd a1 1).sub)],z ∈ Z41)∧Made L g Z41 13 30 (fun (c:SlV)=>Value.agg (tmC r29 c).toArray) (fun (c:SlV)=>[zg c r29.sub])∧Made L g Z41 14 31 (fun (c:SlV)=>Value.tuple #[.agg (tmC r33.1 c).toArray,.int .i64 r33.2]) (fun (c:SlV)=>[zg c r33.1.sub])∧Made L g Z41 15 16 (fun (c:SlV)=>Value.tuple #[.agg (tmC r33.1 c).toArray,.int .i64 r33.2]) (fun (c:SlV)=>[zg c r33.1.sub])∧Made L g Z41 16 32 (fun (c:SlV)=>Value.agg (tmC r33.1 c).toArray) (fun (c:SlV)=>[zg c r33.1.sub])∧(L 18=true→g 7=Value.pointer (some ⟨b38,0,none⟩))∧(L 19=true → ∀ z ∈ [zg s40 r33.1.sub],z ∈ Z41)∧O42=((bif L 19 then [oB b38 zo (tmC r33.1 s40)] else (bif L 18 then [oB b38 zo (Term.C tmZ)] else [])) ++ LT2)∧St A N w v O42 Z41) hmix zbD (fun _ _ _ _ _ _ _ hv=>hv) (fun g=>⟨0,SlV.nil,_,_,fun _ h=>h,Made.no,Made.no,Made.no,Made.no,(fun h=>by cases h),(fun h=>by cases h),rfl,S.ext (Ext.drawn _)⟩) ⟨?_,?_,?_,?_,?_,?_,?_,?_,?_,?_,?_,?_,?_,?_,?_,?_,?_,?_,?_,?_,trivial⟩ ?_
 ·rintro L g v hL hcl hclo ⟨b38,s40,O42,Z41,hZ,hm13,hm14,hm15,hm16,hk18,hq19,hO,S⟩ 
  have hl19:=clF hL (hclo 19 0 · zbD)
  have SR:St A N w v LT2 (zg s9 ((kd (kd a1 0) 0).sub) :: zg s6 ((kd a1 0).sub) :: oT a_0 a0 :: zg s_1 a1.sub :: oPw :: oCl s9.blk (s9.off + Int.toNat 0 * 5) (tmC (kd (kd (kd a1 0) 0) 0) s23) :: zg s23 ((kd (kd (kd a1 0) 0) 0).sub) :: oCl s_1.blk (s_1.off + Int.toNat 1 * 5) (tmC (kd a1 1) s25) :: zg s25 ((kd a1 1).sub) :: Z41):=by
   have S2:=S.zneed hZ
   rw [hO] at S2
   simp only [hl19,cd2,la2] at S2
   exact S2.drops
  refine wd (zf zG rfl (o':=4) rfl) ?_
  exact w4 rfl ⟨b38,s40,O42,Z41,hZ,hm13.keep rfl rfl tl0,hm14.keep rfl rfl tl0,hm15.keep rfl rfl tl0,hm16.keep rfl rfl tl0,(kpU hk18),(kpZ tl0 hq19),by rw [hO]; simp only [pN L 0 18,pN L 0 19],S⟩
 ·rintro L g v hL hcl hclo ⟨b38,s40,O42,Z41,hZ,hm13,hm14,hm15,hm16,hk18,hq19,hO,S⟩ hv0
  have hl19:=clF hL (hclo 19 1 · zbD)
  have SR:St A N w v LT2 (zg s9 ((kd (kd a1 0) 0).sub) :: zg s6 ((kd a1 0).sub) :: oT a_0 a0 :: zg s_1 a1.sub :: oPw :: oCl s9.blk (s9.off + Int.toNat 0 * 5) (tmC (kd (kd (kd a1 0) 0) 0) s23) :: zg s23 ((kd (kd (kd a1 0) 0) 0).sub) :: oCl s_1.blk (s_1.off + Int.toNat 1 * 5) (tmC (kd a1 1) s25) :: zg s25 ((kd a1 1).sub) :: Z41):=by
   have S2:=S.zneed hZ
   rw [hO] at S2
   simp only [hl19,cd2,la2] at S2
   exact S2.drops
  refine wd (zl zB hv0 ((SR.blk 0).cell (Term.get_sub _))) ?_
  exact w4 rfl ⟨b38,s40,O42,Z41,hZ,hm13.keep rfl rfl tl0,hm14.keep rfl rfl tl0,hm15.keep rfl rfl tl0,hm16.keep rfl rfl tl0,(kpU hk18),(kpZ tl0 hq19),by rw [hO]; simp only [pN L 1 18,pN L 1 19],S⟩
 ·rintro L g v hL hcl hclo ⟨b38,s40,O42,Z41,hZ,hm13,hm14,hm15,hm16,hk18,hq19,hO,S⟩ hv1
  have hl19:=clF hL (hclo 19 2 · zbD)
  have SR:St A N w v LT2 (zg s9 ((kd (kd a1 0) 0).sub) :: zg s6 ((kd a1 0).sub) :: oT a_0 a0 :: zg s_1 a1.sub :: oPw :: oCl s9.blk (s9.off + Int.toNat 0 * 5) (tmC (kd (kd (kd a1 0) 0) 0) s23) :: zg s23 ((kd (kd (kd a1 0) 0) 0).sub) :: oCl s_1.blk (s_1.off + Int.toNat 1 * 5) (tmC (kd a1 1) s25) :: zg s25 ((kd a1 1).sub) :: Z41):=by
   have S2:=S.zneed hZ
   rw [hO] at S2
   simp only [hl19,cd2,la2] at S2
   exact S2.drops
  refine wd (does_indexF zz hv1 rfl (SR.onZ 0) (zM hi22).1 (zM hi22).2) ?_
  exact w4 rfl ⟨b38,s40,O42,Z41,hZ,hm13.keep rfl rfl tl0,hm14.keep rfl rfl tl0,hm15.keep rfl rfl tl0,hm16.keep rfl rfl tl0,(kpU hk18),(kpZ tl0 hq19),by rw [hO]; simp only [pN L 2 18,pN L 2 19],S⟩
 ·rintro L g v hL hcl hclo ⟨b38,s40,O42,Z41,hZ,hm13,hm14,hm15,hm16,hk18,hq19,hO,S⟩ hv2
  have hl19:=clF hL (hclo 19 3 · zbD)
  have SR:St A N w v LT2 (zg s9 ((kd (kd a1 0) 0).sub) :: zg s6 ((kd a1 0).sub) :: oT a_0 a0 :: zg s_1 a1.sub :: oPw :: oCl s9.blk (s9.off + Int.toNat 0 * 5) (tmC (kd (kd (kd a1 0) 0) 0) s23) :: zg s23 ((kd (kd (kd a1 0) 0) 0).sub) :: oCl s_1.blk (s_1.off + Int.toNat 1 * 5) (tmC (kd a1 1) s25) :: zg s25 ((kd a1 1).sub) :: Z41):=by
   have S2:=S.zneed hZ
   rw [hO] at S2
   simp only [hl19,cd2,la2] at S2
   exact S2.drops
  refine wd (zm zR hv2 (SR.cl 5) (Term.len _)) ?_
  exact w4 rfl ⟨b38,s40,O42,Z41,hZ,hm13.keep rfl rfl tl0,hm14.keep rfl rfl tl0,hm15.keep rfl rfl tl0,hm16.keep rfl rfl tl0,(kpU hk18),(kpZ tl0 hq19),by rw [hO]; simp only [pN L 3 18,pN L 3 19],S⟩
 ·rintro L g v hL hcl hclo ⟨b38,s40,O42,Z41,hZ,hm13,hm14,hm15,hm16,hk18,hq19,hO,S⟩ 
  have hl19:=clF hL (hclo 19 4 · zbD)
  have SR:St A N w v LT2 (zg s9 ((kd (kd a1 0) 0).sub) :: zg s6 ((kd a1 0).sub) :: oT a_0 a0 :: zg s_1 a1.sub :: oPw :: oCl s9.blk (s9.off + Int.toNat 0 * 5) (tmC (kd (kd (kd a1 0) 0) 0) s23) :: zg s23 ((kd (kd (kd a1 0) 0) 0).sub) :: oCl s_1.blk (s_1.off + Int.toNat 1 * 5) (tmC (kd a1 1) s25) :: zg s25 ((kd a1 1).sub) :: Z41):=by
   have S2:=S.zneed hZ
   rw [hO] at S2
   simp only [hl19,cd2,la2] at S2
   exact S2.drops
  refine wd (zf xK rfl (o':=1) rfl) ?_
  exact w4 rfl ⟨b38,s40,O42,Z41,hZ,hm13.keep rfl rfl tl0,hm14.keep rfl rfl tl0,hm15.keep rfl rfl tl0,hm16.keep rfl rfl tl0,(kpU hk18),(kpZ tl0 hq19),by rw [hO]; simp only [pN L 4 18,pN L 4 19],S⟩
 ·rintro L g v hL hcl hclo ⟨b38,s40,O42,Z41,hZ,hm13,hm14,hm15,hm16,hk18,hq19,hO,S⟩ hv4
  have hl19:=clF hL (hclo 19 5 · zbD)
  have SR:St A N w v LT2 (zg s9 ((kd (kd a1 0) 0).sub) :: zg s6 ((kd a1 0).sub) :: oT a_0 a0 :: zg s_1 a1.sub :: oPw :: oCl s9.blk (s9.off + Int.toNat 0 * 5) (tmC (kd (kd (kd a1 0) 0) 0) s23) :: zg s23 ((kd (kd (kd a1 0) 0) 0).sub) :: oCl s_1.blk (s_1.off + Int.toNat 1 * 5) (tmC (kd a1 1) s25) :: zg s25 ((kd a1 1).sub) :: Z41):=by
   have S2:=S.zneed hZ
   rw [hO] at S2
   simp only [hl19,cd2,la2] at S2
   exact S2.drops
  refine wd (zl xk hv4 ((SR.blk 0).cell (Term.get_name _))) ?_
  exact w4 rfl ⟨b38,s40,O42,Z41,hZ,hm13.keep rfl rfl tl0,hm14.keep rfl rfl tl0,hm15.keep rfl rfl tl0,hm16.keep rfl rfl tl0,(kpU hk18),(kpZ tl0 hq19),by rw [hO]; simp only [pN L 5 18,pN L 5 19],S⟩
 ·rintro L g v hL hcl hclo ⟨b38,s40,O42,Z41,hZ,hm13,hm14,hm15,hm16,hk18,hq19,hO,S⟩ 
  have hl19:=clF hL (hclo 19 6 · zbD)
  have SR:St A N w v LT2 (zg s9 ((kd (kd a1 0) 0).sub) :: zg s6 ((kd a1 0).sub) :: oT a_0 a0 :: zg s_1 a1.sub :: oPw :: oCl s9.blk (s9.off + Int.toNat 0 * 5) (tmC (kd (kd (kd a1 0) 0) 0) s23) :: zg s23 ((kd (kd (kd a1 0) 0) 0).sub) :: oCl s_1.blk (s_1.off + Int.toNat 1 * 5) (tmC (kd a1 1) s25) :: zg s25 ((kd a1 1).sub) :: Z41):=by
   have S2:=S.zneed hZ
   rw [hO] at S2
   simp only [hl19,cd2,la2] at S2
   exact S2.drops
  refine wd (zf zG rfl (o':=4) rfl) ?_
  exact w4 rfl ⟨b38,s40,O42,Z41,hZ,hm13.keep rfl rfl tl0,hm14.keep rfl rfl tl0,hm15.keep rfl rfl tl0,hm16.keep rfl rfl tl0,(kpU hk18),(kpZ tl0 hq19),by rw [hO]; simp only [pN L 6 18,pN L 6 19],S⟩
 ·rintro L g v hL hcl hclo ⟨b38,s40,O42,Z41,hZ,hm13,hm14,hm15,hm16,hk18,hq19,hO,S⟩ hv6
  have hl19:=clF hL (hclo 19 7 · zbD)
  have SR:St A N w v LT2 (zg s9 ((kd (kd a1 0) 0).sub) :: zg s6 ((kd a1 0).sub) :: oT a_0 a0 :: zg s_1 a1.sub :: oPw :: oCl s9.blk (s9.off + Int.toNat 0 * 5) (tmC (kd (kd (kd a1 0) 0) 0) s23) :: zg s23 ((kd (kd (kd a1 0) 0) 0).sub) :: oCl s_1.blk (s_1.off + Int.toNat 1 * 5) (tmC (kd a1 1) s25) :: zg s25 ((kd a1 1).sub) :: Z41):=by
   have S2:=S.zneed hZ
   rw [hO] at S2
   simp only [hl19,cd2,la2] at S2
   exact S2.drops
  refine wd (zl zB hv6 ((SR.blk 2).cell (Term.get_sub _))) ?_
  exact w4 rfl ⟨b38,s40,O42,Z41,hZ,hm13.keep rfl rfl tl0,hm14.keep rfl rfl tl0,hm15.keep rfl rfl tl0,hm16.keep rfl rfl tl0,(kpU hk18),(kpZ tl0 hq19),by rw [hO]; simp only [pN L 7 18,pN L 7 19],S⟩
 ·rintro L g v hL hcl hclo ⟨b38,s40,O42,Z41,hZ,hm13,hm14,hm15,hm16,hk18,hq19,hO,S⟩ hv7
  have hl19:=clF hL (hclo 19 8 · zbD)
  have SR:St A N w v LT2 (zg s9 ((kd (kd a1 0) 0).sub) :: zg s6 ((kd a1 0).sub) :: oT a_0 a0 :: zg s_1 a1.sub :: oPw :: oCl s9.blk (s9.off + Int.toNat 0 * 5) (tmC (kd (kd (kd a1 0) 0) 0) s23) :: zg s23 ((kd (kd (kd a1 0) 0) 0).sub) :: oCl s_1.blk (s_1.off + Int.toNat 1 * 5) (tmC (kd a1 1) s25) :: zg s25 ((kd a1 1).sub) :: Z41):=by
   have S2:=S.zneed hZ
   rw [hO] at S2
   simp only [hl19,cd2,la2] at S2
   exact S2.drops
  refine wd (does_indexF zz hv7 rfl (SR.onZ 3) (zM hi24).1 (zM hi24).2) ?_
  exact w4 rfl ⟨b38,s40,O42,Z41,hZ,hm13.keep rfl rfl tl0,hm14.keep rfl rfl tl0,hm15.keep rfl rfl tl0,hm16.keep rfl rfl tl0,(kpU hk18),(kpZ tl0 hq19),by rw [hO]; simp only [pN L 8 18,pN L 8 19],S⟩
 ·rintro L g v hL hcl hclo ⟨b38,s40,O42,Z41,hZ,hm13,hm14,hm15,hm16,hk18,hq19,hO,S⟩ hv8
  have hl19:=clF hL (hclo 19 9 · zbD)
  have SR:St A N w v LT2 (zg s9 ((kd (kd a1 0) 0).sub) :: zg s6 ((kd a1 0).sub) :: oT a_0 a0 :: zg s_1 a1.sub :: oPw :: oCl s9.blk (s9.off + Int.toNat 0 * 5) (tmC (kd (kd (kd a1 0) 0) 0) s23) :: zg s23 ((kd (kd (kd a1 0) 0) 0).sub) :: oCl s_1.blk (s_1.off + Int.toNat 1 * 5) (tmC (kd a1 1) s25) :: zg s25 ((kd a1 1).sub) :: Z41):=by
   have S2:=S.zneed hZ
   rw [hO] at S2
   simp only [hl19,cd2,la2] at S2
   exact S2.drops
  refine wd (zm zR hv8 (SR.cl 7) (Term.len _)) ?_
  exact w4 rfl ⟨b38,s40,O42,Z41,hZ,hm13.keep rfl rfl tl0,hm14.keep rfl rfl tl0,hm15.keep rfl rfl tl0,hm16.keep rfl rfl tl0,(kpU hk18),(kpZ tl0 hq19),by rw [hO]; simp only [pN L 9 18,pN L 9 19],S⟩
 ·rintro L g v hL hcl hclo ⟨b38,s40,O42,Z41,hZ,hm13,hm14,hm15,hm16,hk18,hq19,hO,S⟩ 
  have hl19:=clF hL (hclo 19 10 · zbD)
  have SR:St A N w v LT2 (zg s9 ((kd (kd a1 0) 0).sub) :: zg s6 ((kd a1 0).sub) :: oT a_0 a0 :: zg s_1 a1.sub :: oPw :: oCl s9.blk (s9.off + Int.toNat 0 * 5) (tmC (kd (kd (kd a1 0) 0) 0) s23) :: zg s23 ((kd (kd (kd a1 0) 0) 0).sub) :: oCl s_1.blk (s_1.off + Int.toNat 1 * 5) (tmC (kd a1 1) s25) :: zg s25 ((kd a1 1).sub) :: Z41):=by
   have S2:=S.zneed hZ
   rw [hO] at S2
   simp only [hl19,cd2,la2] at S2
   exact S2.drops
  refine wd (zw rfl) ?_
  exact w4 rfl ⟨b38,s40,O42,Z41,hZ,hm13.keep rfl rfl tl0,hm14.keep rfl rfl tl0,hm15.keep rfl rfl tl0,hm16.keep rfl rfl tl0,(kpU hk18),(kpZ tl0 hq19),by rw [hO]; simp only [pN L 10 18,pN L 10 19],S⟩
 ·rintro L g v hL hcl hclo ⟨b38,s40,O42,Z41,hZ,hm13,hm14,hm15,hm16,hk18,hq19,hO,S⟩ 
  have hl19:=clF hL (hclo 19 11 · zbD)
  have SR:St A N w v LT2 (zg s9 ((kd (kd a1 0) 0).sub) :: zg s6 ((kd a1 0).sub) :: oT a_0 a0 :: zg s_1 a1.sub :: oPw :: oCl s9.blk (s9.off + Int.toNat 0 * 5) (tmC (kd (kd (kd a1 0) 0) 0) s23) :: zg s23 ((kd (kd (kd a1 0) 0) 0).sub) :: oCl s_1.blk (s_1.off + Int.toNat 1 * 5) (tmC (kd a1 1) s25) :: zg s25 ((kd a1 1).sub) :: Z41):=by
   have S2:=S.zneed hZ
   rw [hO] at S2
   simp only [hl19,cd2,la2] at S2
   exact S2.drops
  refine wd (ldT rfl (SR.blk 2)) ?_
  exact w4 rfl ⟨b38,s40,O42,Z41,hZ,hm13.keep rfl rfl tl0,hm14.keep rfl rfl tl0,hm15.keep rfl rfl tl0,hm16.keep rfl rfl tl0,(kpU hk18),(kpZ tl0 hq19),by rw [hO]; simp only [pN L 11 18,pN L 11 19],S⟩
 ·rintro L g v hL hcl hclo ⟨b38,s40,O42,Z41,hZ,hm13,hm14,hm15,hm16,hk18,hq19,hO,S⟩ hv10 hv11
  have hl19:=clF hL (hclo 19 12 · zbD)
  have SR:St A N w v LT2 (zg s9 ((kd (kd a1 0) 0).sub) :: zg s6 ((kd a1 0).sub) :: oT a_0 a0 :: zg s_1 a1.sub :: oPw :: oCl s9.blk (s9.off + Int.toNat 0 * 5) (tmC (kd (kd (kd a1 0) 0) 0) s23) :: zg s23 ((kd (kd (kd a1 0) 0) 0).sub) :: oCl s_1.blk (s_1.off + Int.toNat 1 * 5) (tmC (kd a1 1) s25) :: zg s25 ((kd a1 1).sub) :: Z41):=by
   have S2:=S.zneed hZ
   rw [hO] at S2
   simp only [hl19,cd2,la2] at S2
   exact S2.drops
  refine (have ⟨M,SS⟩ := SR.lend ((.z 2 rfl (.z 3 rfl .nil))); zu (zF ka (zK hv10 (zK hv11 (zK rfl rfl)))) zbA (quiet (kn SS er26) (fun v w' h=>⟨h.1,_,_,h.2⟩)) ?_)
  rintro _ v2 ⟨rfl,hx⟩
  exact w4 rfl ⟨b38,s40,O42,Z41,hZ,hm13.keep rfl rfl tl0,hm14.keep rfl rfl tl0,hm15.keep rfl rfl tl0,hm16.keep rfl rfl tl0,(kpU hk18),(kpZ tl0 hq19),by rw [hO]; simp only [pN L 12 18,pN L 12 19],S.ext hx⟩
 ·rintro L g v hL hcl hclo ⟨b38,s40,O42,Z41,hZ,hm13,hm14,hm15,hm16,hk18,hq19,hO,S⟩ hv9 hv12
  have hl19:=clF hL (hclo 19 13 · zbD)
  replace S:=(S.zneed hZ)
  obtain ⟨_,_,T,bk⟩ := S.sub [8] [] (O42)
  refine zu (zF kQ (zK hv9 (zK hv12 rfl))) zbA (kS (a0:=(kd a1 1)) T er29) ?_
  rintro _ w46 ⟨s48,rfl,S2⟩
  replace S:=bk _ _ _ _ _ S2 rfl rfl
  exact w4 trivial ⟨b38,s40,O42,_,(fun z h=>tl10 z (hZ z h)),Made.one (val:=(fun (c:SlV)=>Value.agg (tmC r29 c).toArray)) (ps:=(fun (c:SlV)=>[zg c r29.sub])) s48 (yf List.mem_cons_self yC),hm14.keep rfl rfl tl10,hm15.keep rfl rfl tl10,hm16.keep rfl rfl tl10,(kpU hk18),(kpZ tl10 hq19),by rw [hO]; simp only [pN L 13 18,pN L 13 19],S⟩
 ·rintro L g v hL hcl hclo ⟨b38,s40,O42,Z41,hZ,hm13,hm14,hm15,hm16,hk18,hq19,hO,S⟩ hv3 hv5 _
  obtain ⟨s32,he13,hp13⟩ := hm13 (hcl 13 zbD)
  have hl19:=clF hL (hclo 19 14 · zbD)
  replace S:=(S.zneed (xG (l1:=[zg s32 r29.sub]) hp13 hZ))
  obtain ⟨_,_,T,bk⟩ := S.sub [7,0,5] [] (O42)
  refine zu (zF zab (zK hv3 (zK hv5 (zK he13 rfl)))) zbA (zak (a0:=(kd (kd (kd a1 0) 0) 0)) (a2:=r29) T er33) ?_
  rintro _ w50 ⟨s52,rfl,S2⟩
  replace S:=bk _ _ _ _ _ S2 rfl rfl
  exact w4 trivial ⟨b38,s40,O42,_,(fun z h=>tl11 z (hZ z h)),hm13.keep rfl rfl tl11,Made.one (val:=(fun (c:SlV)=>Value.tuple #[.agg (tmC r33.1 c).toArray,.int .i64 r33.2])) (ps:=(fun (c:SlV)=>[zg c r33.1.sub])) s52 (yf List.mem_cons_self yC),hm15.keep rfl rfl tl11,hm16.keep rfl rfl tl11,(kpU hk18),(kpZ tl11 hq19),by rw [hO]; simp only [pN L 14 18,pN L 14 19],S⟩
 ·rintro L g v hL hcl hclo ⟨b38,s40,O42,Z41,hZ,hm13,hm14,hm15,hm16,hk18,hq19,hO,S⟩ _
  obtain ⟨s36,he14,hp14⟩ := hm14 (hcl 14 zbD)
  have hl19:=clF hL (hclo 19 15 · zbD)
  replace S:=(S.zneed (xG (l1:=[zg s36 r33.1.sub]) hp14 hZ))
  refine wd (zU he14) ?_
  exact w4 trivial ⟨b38,s40,O42,_,(fun z h=>tl10 z (hZ z h)),hm13.keep rfl rfl tl10,hm14.keep rfl rfl tl10,Made.one (val:=(fun (c:SlV)=>Value.tuple #[.agg (tmC r33.1 c).toArray,.int .i64 r33.2])) (ps:=(fun (c:SlV)=>[zg c r33.1.sub])) s36 (yf List.mem_cons_self yC),hm16.keep rfl rfl tl10,(kpU hk18),(kpZ tl10 hq19),by rw [hO]; simp only [pN L 15 18,pN L 15 19],S⟩
 ·rintro L g v hL hcl hclo ⟨b38,s40,O42,Z41,hZ,hm13,hm14,hm15,hm16,hk18,hq19,hO,S⟩ _
  obtain ⟨s36,he15,hp15⟩ := hm15 (hcl 15 zbD)
  have hl19:=clF hL (hclo 19 16 · zbD)
  replace S:=(S.zneed (xG (l1:=[zg s36 r33.1.sub]) hp15 hZ))
  refine wd (zn he15 rfl) ?_
  exact w4 trivial ⟨b38,s40,O42,_,(fun z h=>tl10 z (hZ z h)),hm13.keep rfl rfl tl10,hm14.keep rfl rfl tl10,hm15.keep rfl rfl tl10,Made.one (val:=(fun (c:SlV)=>Value.agg (tmC r33.1 c).toArray)) (ps:=(fun (c:SlV)=>[zg c r33.1.sub])) s36 (yf List.mem_cons_self yC),(kpU hk18),(kpZ tl10 hq19),by rw [hO]; simp only [pN L 16 18,pN L 16 19],S⟩
 ·rintro L g v hL hcl hclo ⟨b38,s40,O42,Z41,hZ,hm13,hm14,hm15,hm16,hk18,hq19,hO,S⟩ _
  obtain ⟨s36,he15,hp15⟩ := hm15 (hcl 15 zbD)
  have SR:St A N w v LT2 (zg s36 r33.1.sub :: zg s9 ((kd (kd a1 0) 0).sub) :: zg s6 ((kd a1 0).sub) :: oT a_0 a0 :: zg s_1 a1.sub :: oPw :: oCl s9.blk (s9.off + Int.toNat 0 * 5) (tmC (kd (kd (kd a1 0) 0) 0) s23) :: zg s23 ((kd (kd (kd a1 0) 0) 0).sub) :: oCl s_1.blk (s_1.off + Int.toNat 1 * 5) (tmC (kd a1 1) s25) :: zg s25 ((kd a1 1).sub) :: Z41):=by
   have S2:=S.zneed (xG (l1:=[zg s36 r33.1.sub]) hp15 hZ)
   rw [hO] at S2
   exact S2.drops
  refine wd (zn he15 rfl) ?_
  exact w4 rfl ⟨b38,s40,O42,Z41,hZ,hm13.keep rfl rfl tl0,hm14.keep rfl rfl tl0,hm15.keep rfl rfl tl0,hm16.keep rfl rfl tl0,(kpU hk18),(kpZ tl0 hq19),by rw [hO]; simp only [pN L 17 18,pN L 17 19],S⟩
 ·rintro L g v hL hcl hclo ⟨b38,s40,O42,Z41,hZ,hm13,hm14,hm15,hm16,hk18,hq19,hO,S⟩ 
  have hl18:L 18=false:=hL
  have hl19:=clF hL (hclo 19 18 · zbD)
  have hOP : ∃ P Y,P=[]∧Y=LT2∧O42=P ++ ([] ++ Y):=⟨_,_,rfl,rfl,by rw [hO]; simp only [hl18,hl19,cd2,la2]⟩
  obtain ⟨P,Y,hP,hY,hPY⟩ := hOP
  rw [hPY] at S
  replace S:=S
  refine zQ xC zbA fun b54 w53 hw53=>?_
  replace S:=S.new hw53
  refine w4 trivial ⟨b54,s40,P ++ ([oB b54 zo (Term.C tmZ)] ++ Y),_,hZ,hm13.keep rfl rfl tl0,hm14.keep rfl rfl tl0,hm15.keep rfl rfl tl0,hm16.keep rfl rfl tl0,(fun _=>upd_same _ _ _),(kpZ tl0 hq19),?_,S.ins (P:=[oB b54 zo (Term.C tmZ)])⟩
  rw [hP,hY]; simp only [pN L 18 19,x9 (L:=L) (i:=18),hl19,cd2,la2]
 ·rintro L g v hL hcl hclo ⟨b38,s40,O42,Z41,hZ,hm13,hm14,hm15,hm16,hk18,hq19,hO,S⟩ _ _
  obtain ⟨s36,he16,hp16⟩ := hm16 (hcl 16 zbD)
  have hl18:L 18=true:=hcl 18 zbD
  have hl19:L 19=false:=hL
  have hOP : ∃ P Y,P=[]∧Y=LT2∧O42=P ++ ([oB b38 zo (Term.C tmZ)] ++ Y):=⟨_,_,rfl,rfl,by rw [hO]; simp only [hl18,hl19,cd2,la2]⟩
  obtain ⟨P,Y,hP,hY,hPY⟩ := hOP
  rw [hPY] at S
  replace S:=(S.ins.zneed (xG (l1:=[zg s36 r33.1.sub]) hp16 hZ))
  refine wsT (hk18 (hcl 18 zbD)) he16 (S.blk 0) fun w55 B hw55 zw55=>?_
  replace S:=S.store 0 B hw55
  refine zd (ob40 trivial (fun _=>trivial) ⟨b38,s36,P ++ ([oB b38 zo (tmC r33.1 s36)] ++ Y),_,(fun z h=>tl10 z (hZ z h)),hm13.keep0 rfl tl10,hm14.keep0 rfl tl10,hm15.keep0 rfl tl10,hm16.keep0 rfl tl10,(kpP hk18),(fun _ z q=>tl10 z (hp16 z q)),?_,S.ins (P:=[oB b38 zo (tmC r33.1 s36)])⟩)
  rw [hP,hY]; simp only [pN L 19 18,x9 (L:=L) (i:=19),hl18,cd2,la2]
 rintro L g w56 hLm ⟨b38,s40,O42,Z41,hZ,hm13,hm14,hm15,hm16,hk18,hq19,hO,S⟩ hv57_0 hv57_1 hv57_2 hv57_3 hv57_4 hv57_5 hv57_6 hv57_7 hv57_8 hv57_9 hv57_10 hv57_11 hv57_12 _ _ _ _ hv57_17 _ _
 have hLt : ∀ j,j < 20→L j=true:=fun j hj=>by rw [hLm]; exact decide_eq_true hj
 obtain ⟨s32,hv57_13,hp13⟩ := hm13 (hLt 13 zbA)
 obtain ⟨s36,hv57_16,hp16⟩ := hm16 (hLt 16 zbA)
 have hv57_18:=hk18 (hLt 18 zbA)
 simp only [hLt 18 zbA,hLt 19 zbA,cond_true,List.nil_append,List.cons_append] at hO
 rw [hO] at S
 replace hq19:=hq19 (hLt 19 zbA)
 replace S:=S.pickZ (xG (l1:=[zg s32 r29.sub]) hp13 (xG (l1:=[zg s36 r33.1.sub]) hp16 (xG (l1:=[zg s40 r33.1.sub]) hq19 hZ)))
 clear hp13 hp16 hZ hm13 hm14 hm15 hm16
 refine wd (zh hv57_17) (zd (zb ?_))
 obtain ⟨r68,er68,H⟩ := zq H
 obtain ⟨r71,er71,H⟩ := zq H
 let LT1:List OA:=[zg s32 r29.sub,zg s36 r33.1.sub,zg s40 r33.1.sub,zg s9 ((kd (kd a1 0) 0).sub),zg s6 ((kd a1 0).sub),oT a_0 a0,zg s_1 a1.sub,oPw,oCl s9.blk (s9.off + Int.toNat 0 * 5) (tmC (kd (kd (kd a1 0) 0) 0) s23),zg s23 ((kd (kd (kd a1 0) 0) 0).sub),oCl s_1.blk (s_1.off + Int.toNat 1 * 5) (tmC (kd a1 1) s25),zg s25 ((kd a1 1).sub)]
 let LT3:List OA:=[oB b38 zo (tmC r33.1 s40),oB b12 zo (tmC (kd (kd a1 0) 0) s9),oB b2 zo (tmC a1 s_1)]
 refine vh 7 ⟨fun _ _=>True,fun _ _ _=>True,fun i v _=>match i with
  | 0=>v=Value.agg (tmC r33.1 s40).toArray
  | 1=>v=Value.pointer a_0
  | 2=>v=Value.agg (tmC a1 s_1).toArray
  | 3=>v=Value.int .i64 r68
  | 5=>v=Value.int .i64 r33.2
  | _=>True⟩ (fun L g v=>bif L 6 then (∃ (s74:SlV),(L 4=true→g 38=Value.agg (tmC r71 s74).toArray)∧St A N w v (oB b4 zo (tmC r71 s74) :: LT3) (zg s74 r71.sub :: LT1)) else bif L 4 then (∃ (s74:SlV),(L 4=true→g 38=Value.agg (tmC r71 s74).toArray)∧St A N w v (oB b38 zo (tmC r33.1 s40) :: LT2) (zg s74 r71.sub :: LT1)) else (St A N w v (oB b38 zo (tmC r33.1 s40) :: LT2) LT1)) hmix zbD (fun _ _ _ _ _ _ _ hv=>hv) (fun g=>S.ext (Ext.drawn _)) ⟨?_,?_,?_,?_,?_,?_,?_,trivial⟩ ?_
 ·rintro L g v hL hcl hclo hT 
  have hl4:=clF hL (hclo 4 0 · zbD)
  have hl6:=clF hL (hclo 6 0 · zbD)
  simp only [hl4,hl6,cd2] at hT
  replace S:=hT
  refine wd (zm zR hv57_18 ((S.blk 0).all _ (Term.len _)) (Term.len _)) ?_
  exact w4 rfl (by simp only [pN L 0 4,pN L 0 6,hl4,hl6,cd2]; exact S)
 ·rintro L g v hL hcl hclo hT 
  have hl4:=clF hL (hclo 4 1 · zbD)
  have hl6:=clF hL (hclo 6 1 · zbD)
  simp only [hl4,hl6,cd2] at hT
  replace S:=hT
  refine wd (zw rfl) ?_
  exact w4 rfl (by simp only [pN L 1 4,pN L 1 6,hl4,hl6,cd2]; exact S)
 ·rintro L g v hL hcl hclo hT 
  have hl4:=clF hL (hclo 4 2 · zbD)
  have hl6:=clF hL (hclo 6 2 · zbD)
  simp only [hl4,hl6,cd2] at hT
  replace S:=hT
  refine wd (ldT rfl (S.blk 3)) ?_
  exact w4 rfl (by simp only [pN L 2 4,pN L 2 6,hl4,hl6,cd2]; exact S)
 ·rintro L g v hL hcl hclo hT hv1 hv2
  have hl4:=clF hL (hclo 4 3 · zbD)
  have hl6:=clF hL (hclo 6 3 · zbD)
  simp only [hl4,hl6,cd2] at hT
  replace S:=hT
  obtain ⟨_,_,T,bk⟩ := S.calln 0 ((.z 5 rfl (.z 6 rfl .nil)))
  refine zu (zF ka (zK hv1 (zK hv2 (zK rfl rfl)))) zbA (kn (a1:=a1) T er68) ?_
  rintro _ w77 ⟨rfl,S2⟩
  replace S:=bk _ _ _ _ S2 rfl
  exact w4 rfl (by simp only [pN L 3 4,pN L 3 6,hl4,hl6,cd2]; exact S)
 ·rintro L g v hL hcl hclo hT hv0 hv3
  have hl4:L 4=false:=hL
  have hl6:=clF hL (hclo 6 4 · zbD)
  simp only [hl4,hl6,cd2] at hT
  replace S:=hT
  obtain ⟨_,_,T,bk⟩ := S.sub [2] [] (oB b38 zo (tmC r33.1 s40) :: LT2)
  refine zu (zF kQ (zK hv0 (zK hv3 rfl))) zbA (kS (a0:=r33.1) T er71) ?_
  rintro _ w80 ⟨s74,rfl,S2⟩
  replace S:=bk _ _ _ _ _ S2 rfl rfl
  have hT2 : ∃ (s74':SlV),((plus L 4) 4=true→(upd g 38 (Value.agg (tmC r71 s74).toArray)) 38=Value.agg (tmC r71 s74').toArray)∧St A N w w80 (oB b38 zo (tmC r33.1 s40) :: LT2) (zg s74' r71.sub :: LT1):=⟨s74,fun _=>upd_same _ _ _,S⟩
  exact w4 trivial (by simp only [pN L 4 6,x9 (L:=L) (i:=4),hl6,cd2] at hT2 ⊢; exact hT2)
 ·rintro L g v hL hcl hclo hT 
  cases hl6:L 6 with
  | true =>
   replace hT : ∃ (s74:SlV),(L 4=true→g 38=Value.agg (tmC r71 s74).toArray)∧St A N w v (oB b4 zo (tmC r71 s74) :: LT3) (zg s74 r71.sub :: LT1):=by simp only [hl6,cd2] at hT ⊢; exact hT
   obtain ⟨s74,he4,S⟩ := hT
   refine wd (zi rfl) ?_
   have hT2 : ∃ (s74':SlV),((plus L 5) 4=true→(upd g 39 (Value.int .i64 r33.2)) 38=Value.agg (tmC r71 s74').toArray)∧St A N w v (oB b4 zo (tmC r71 s74') :: LT3) (zg s74' r71.sub :: LT1):=⟨s74,kpU he4,S⟩
   exact w4 rfl (by simp only [pN L 5 4,pN L 5 6,hl6,cd2] at hT2 ⊢; exact hT2)
  | false =>
   cases hl4:L 4 with
   | true =>
    replace hT : ∃ (s74:SlV),(L 4=true→g 38=Value.agg (tmC r71 s74).toArray)∧St A N w v (oB b38 zo (tmC r33.1 s40) :: LT2) (zg s74 r71.sub :: LT1):=by simp only [hl4,hl6,cd2] at hT ⊢; exact hT
    obtain ⟨s74,he4,S⟩ := hT
    refine wd (zi rfl) ?_
    have hT2 : ∃ (s74':SlV),((plus L 5) 4=true→(upd g 39 (Value.int .i64 r33.2)) 38=Value.agg (tmC r71 s74').toArray)∧St A N w v (oB b38 zo (tmC r33.1 s40) :: LT2) (zg s74' r71.sub :: LT1):=⟨s74,kpU he4,S⟩
    exact w4 rfl (by simp only [pN L 5 4,pN L 5 6,hl4,hl6,cd2] at hT2 ⊢; exact hT2)
   | false =>
    simp only [hl4,hl6,cd2] at hT
    replace S:=hT
    refine wd (zi rfl) ?_
    exact w4 rfl (by simp only [pN L 5 4,pN L 5 6,hl4,hl6,cd2]; exact S)
 ·rintro L g v hL hcl hclo hT hv4
  have hl4:L 4=true:=hcl 4 zbD
  have hl6:L 6=false:=hL
  replace hT : ∃ (s74:SlV),(L 4=true→g 38=Value.agg (tmC r71 s74).toArray)∧St A N w v (oB b38 zo (tmC r33.1 s40) :: LT2) (zg s74 r71.sub :: LT1):=by simp only [hl4,hl6,cd2] at hT ⊢; exact hT
  obtain ⟨s74,he4,S⟩ := hT
  refine wsT rfl (he4 (hcl 4 zbD)) (S.blk 2) fun w82 B hw82 zw82=>?_
  replace S:=S.store 2 B hw82
  have hT2 : ∃ (s74':SlV),((plus L 6) 4=true→g 38=Value.agg (tmC r71 s74').toArray)∧St A N w w82 (oB b4 zo (tmC r71 s74') :: LT3) (zg s74' r71.sub :: LT1):=⟨s74,kpP he4,S⟩
  exact zd (ob40 trivial (fun _=>trivial) (by simp only [pN L 6 4,x9 (L:=L) (i:=6),cd2] at hT2 ⊢; exact hT2))
 rintro L g w83 hLm hT hv84_0 hv84_1 hv84_2 hv84_3 _ hv84_5 _
 have hLt : ∀ j,j < 7→L j=true:=fun j hj=>by rw [hLm]; exact decide_eq_true hj
 replace hT : ∃ (s74:SlV),(L 4=true→g 38=Value.agg (tmC r71 s74).toArray)∧St A N w w83 (oB b4 zo (tmC r71 s74) :: LT3) (zg s74 r71.sub :: LT1):=by simp only [hLt 6 zbA,cond_true] at hT ⊢; exact hT
 obtain ⟨s74,he4,S⟩ := hT
 have hv84_4:=he4 (hLt 4 zbA)
 replace S:=S
 refine wd (zh hv84_5) (zd (zr ?_))
 refine ⟨_,(xd (rtT rfl (S.blk 0)) (ze rfl)),?_⟩
 replace S:=S.arr [] [0]
 obtain rfl:=zbE H
 exact ⟨s74,rfl,S⟩
theorem reduce_into_st {a0:PTerm} {s_0:SlV} {a1:PTerm} {s_1:SlV} {a2:Bool} (S:St A N w w [] [zg s_0 a0.sub,zg s_1 a1.sub,oPw]) {k:Nat} {r:PTerm × Int} (H:zcN.f k a0 a1 a2=some r) :
  Calls PP F_reduce_into #[.agg (tmC a0 s_0).toArray,.agg (tmC a1 s_1).toArray,.bool a2] w <| Rt fun v w'=>(∃ so0:SlV,v = .tuple #[.agg (tmC r.1 so0).toArray,.int .i64 r.2]∧St A N w w' [] [zg so0 r.1.sub]):=by
 unfold zcN.f at H
 refine zy (n:=29) Tryz.func121 rfl rfl zbC (zb (za ?_))
 refine zE rfl zbA fun b2 w1 hw1=>?_
 replace S:=S.new hw1
 refine zE rfl zbA fun b4 w3 hw3=>?_
 replace S:=S.new hw3
 refine zQ xC zbA fun b6 w5 hw5=>?_
 replace S:=S.new hw5
 refine wd (zh rfl) (zd (zb (zb (za (wd (zA rfl) (zd ?_))))))
 refine zJ rfl (fun hc7=>?_) (fun hc7=>?_)
 ·replace H:=if_t hc7 H
  refine zb ?_
  refine wc_ws hmix fun w12 K=>?_
  replace S:=S.ext K
  clear K
  obtain ⟨hi13,H⟩ := xb H
  obtain ⟨s14,hc15,S⟩ := S.viewTerm 0 (zM hi13)
  replace S:=S.zs [1,2,3,0]
  refine vp 0 7 [] zbD zbA zbD
   (V:=fun i v u=>match i with
   | _=>True) ?_ ?_
  ·intro i v u u' hi hx hv
   match i,hv with
   | _,_=>exact trivial
  refine zC (fun v K=>zf zG rfl (o':=4) rfl) rfl (zC (fun v K=>zl zB rfl (((S.ext K).blk 2).cell (Term.get_sub _))) rfl (zC (fun v K=>does_indexF zz rfl rfl ((S.ext K).onZ 0) (zM hi13).1 (zM hi13).2) rfl (zC (fun v K=>zm zR rfl (hc15.chg K (fun x=>x)) (Term.len _)) rfl (zC (fun v K=>zf vH rfl (o':=2) rfl) rfl (zC (fun v K=>zl xk rfl (((S.ext K).blk 2).cell (Term.get_other _))) rfl ?_)))))
  refine zC (fun v K=>zm zR rfl (((S.ext K).blk 1).all _ (Term.len _)) (Term.len _)) rfl ?_
  refine y8 fun g w16 K hV=>?_
  replace S:=S.ext K
  clear K hV
  refine jE 7 8 zbD zbA ?_
  obtain ⟨r18,er18,H⟩ := zq H
  obtain ⟨_,_,T,bk⟩ := S.sub [3,1,2] [] [oB b6 zo (Term.C tmZ),oB b4 zo (tmC a1 s_1),oB b2 zo (tmC a0 s_0)]
  refine zu (zt zab) zbA (zak (a0:=(kd a0 2)) (a2:=a1) T er18) ?_
  rintro _ w19 ⟨s21,rfl,S2⟩
  replace S:=bk _ _ _ _ _ S2 rfl rfl
  refine zd ⟨rfl,?_⟩
  refine vp 8 10 [] zbD zbA zbD
   (V:=fun i v u=>match i with
   | _=>True) ?_ ?_
  ·intro i v u u' hi hx hv
   match i,hv with
   | _,_=>exact trivial
  refine zC (fun v K=>zn rfl rfl) rfl (zC (fun v K=>zn rfl rfl) rfl ?_)
  refine y8 fun g w22 K hV=>?_
  replace S:=S.ext K
  clear K hV
  refine kT 10 zbD zbA ?_
  refine wsT rfl rfl (S.blk 0) fun w24 B hw24 zw24=>?_
  replace S:=S.store 0 B hw24
  refine wd (zh rfl) (zd (zr ?_))
  refine ⟨_,(xd (rtT rfl (S.blk 0)) (ze rfl)),?_⟩
  replace S:=S.arr [] [0]
  obtain rfl:=zbE H
  exact ⟨s21,rfl,S⟩
 replace H:=if_f hc7 H
 refine zx (zb ?_)
 refine wc_ws hmix fun w29 K=>?_
 replace S:=S.ext K
 clear K
 obtain ⟨hi30,H⟩ := xb H
 obtain ⟨s31,hc32,S⟩ := S.viewTerm 0 (zM hi30)
 replace S:=S.zs [1,2,3,0]
 refine vp 0 7 [] zbD zbA zbD
  (V:=fun i v u=>match i with
  | _=>True) ?_ ?_
 ·intro i v u u' hi hx hv
  match i,hv with
  | _,_=>exact trivial
 refine zC (fun v K=>zf zG rfl (o':=4) rfl) rfl (zC (fun v K=>zl zB rfl (((S.ext K).blk 2).cell (Term.get_sub _))) rfl (zC (fun v K=>does_indexF zz rfl rfl ((S.ext K).onZ 0) (zM hi30).1 (zM hi30).2) rfl (zC (fun v K=>zm zR rfl (hc32.chg K (fun x=>x)) (Term.len _)) rfl (zC (fun v K=>zf xK rfl (o':=1) rfl) rfl (zC (fun v K=>zl xk rfl (((S.ext K).blk 2).cell (Term.get_name _))) rfl ?_)))))
 refine zC (fun v K=>zm zR rfl (((S.ext K).blk 1).all _ (Term.len _)) (Term.len _)) rfl ?_
 refine y8 fun g w33 K hV=>?_
 replace S:=S.ext K
 clear K hV
 refine jE 7 8 zbD zbA ?_
 obtain ⟨r35,er35,H⟩ := zq H
 obtain ⟨_,_,T,bk⟩ := S.sub [3,1,2] [] [oB b6 zo (Term.C tmZ),oB b4 zo (tmC a1 s_1),oB b2 zo (tmC a0 s_0)]
 refine zu (zt zab) zbA (zak (a0:=(kd a0 1)) (a2:=a1) T er35) ?_
 rintro _ w36 ⟨s38,rfl,S2⟩
 replace S:=bk _ _ _ _ _ S2 rfl rfl
 refine zd ⟨rfl,?_⟩
 refine vp 8 10 [] zbD zbA zbD
  (V:=fun i v u=>match i with
  | _=>True) ?_ ?_
 ·intro i v u u' hi hx hv
  match i,hv with
  | _,_=>exact trivial
 refine zC (fun v K=>zn rfl rfl) rfl (zC (fun v K=>zn rfl rfl) rfl ?_)
 refine y8 fun g w39 K hV=>?_
 replace S:=S.ext K
 clear K hV
 refine kT 10 zbD zbA ?_
 refine wsT rfl rfl (S.blk 0) fun w41 B hw41 zw41=>?_
 replace S:=S.store 0 B hw41
 refine wd (zh rfl) (zd (zr ?_))
 refine ⟨_,(xd (rtT rfl (S.blk 0)) (ze rfl)),?_⟩
 replace S:=S.arr [] [0]
 obtain rfl:=zbE H
 exact ⟨s38,rfl,S⟩
theorem reduce_rules_10_st {a0:Tb} {a_0:Option Addr} {a1:PTerm} {s_1:SlV} (S:St A N w w [] [oT a_0 a0,zg s_1 a1.sub,oPw]) {k:Nat} {r:PTerm × Int} (H:zcO.f k a0 a1=some r) :
  Calls PP vj #[.pointer a_0,.agg (tmC a1 s_1).toArray] w <| Rt fun v w'=>(∃ so0:SlV,v = .tuple #[.agg (tmC r.1 so0).toArray,.int .i64 r.2]∧St A N w w' [] [zg so0 r.1.sub]):=by
 unfold zcO.f at H
 refine zy (n:=25) Tryz.func120 rfl rfl zbC (zb (za ?_))
 refine zE rfl zbA fun b2 w1 hw1=>?_
 replace S:=S.new hw1
 refine zQ xC zbA fun b4 w3 hw3=>?_
 replace S:=S.new hw3
 refine wd (zh rfl) (zd (zb (za (wd (ldT rfl (S.blk 1)) ?_))))
 obtain ⟨r5,er5,H⟩ := zq H
 obtain ⟨_,_,T,bk⟩ := S.calln 0 ((.z 1 rfl .nil))
 refine zu (zt zaK) zbA (zaS (a0:=a1) T er5) ?_
 rintro _ w6 ⟨rfl,S2⟩
 replace S:=bk _ _ _ _ S2 rfl
 refine wd (zU rfl) (wd (zn rfl rfl) (wd (zn rfl rfl) (wd (zj rfl) (wd (zj rfl) (zd (zb ?_))))))
 refine wc_ws hmix fun w15 K=>?_
 replace S:=S.ext K
 clear K
 obtain ⟨hi16,H⟩ := xb H
 obtain ⟨s17,hc18,S⟩ := S.viewTerm 1 (zM hi16)
 replace S:=S.zs [1,2,3,0]
 obtain ⟨hi19,H⟩ := xb H
 obtain ⟨s20,hc21,S⟩ := S.viewTerm 3 (zM hi19)
 replace S:=S.zs [1,2,3,4,0]
 refine vp 0 9 [] zbD zbA zbD
  (V:=fun i v u=>match i with
  | _=>True) ?_ ?_
 ·intro i v u u' hi hx hv
  match i,hv with
  | _,_=>exact trivial
 refine zC (fun v K=>zm zR rfl (((S.ext K).blk 1).all _ (Term.len _)) (Term.len _)) rfl (zC (fun v K=>zf zG rfl (o':=4) rfl) rfl (zC (fun v K=>zl zB rfl (((S.ext K).blk 1).cell (Term.get_sub _))) rfl (zC (fun v K=>does_indexF zz rfl rfl ((S.ext K).onZ 1) (zM hi16).1 (zM hi16).2) rfl (zC (fun v K=>zf zG rfl (o':=_) rfl) rfl (zC (fun v K=>zl zB rfl ((hc18.chg K (fun x=>x)).get (Term.get_sub _))) rfl ?_)))))
 refine zC (fun v K=>does_indexF zz rfl rfl ((S.ext K).onZ 3) (zM hi19).1 (zM hi19).2) rfl (zC (fun v K=>zm zR rfl (hc21.chg K (fun x=>x)) (Term.len _)) rfl (zC (fun v K=>zA rfl) rfl ?_))
 refine y8 fun g w22 K hV=>?_
 replace S:=S.ext K
 clear K hV
 refine jE 9 10 zbD zbA ?_
 obtain ⟨r24,er24,H⟩ := zq H
 obtain ⟨_,_,T,bk⟩ := S.sub [1,4,2] [] [oB b4 zo (Term.C tmZ),oB b2 zo (tmC a1 s_1)]
 refine zu (zt ca_reduce_into) zbA (reduce_into_st (a0:=a1) (a1:=(kd (kd a1 0) 0)) T er24) ?_
 rintro _ w25 ⟨s27,rfl,S2⟩
 replace S:=bk _ _ _ _ _ S2 rfl rfl
 refine zd ⟨rfl,?_⟩
 refine vp 10 12 [] zbD zbA zbD
  (V:=fun i v u=>match i with
  | _=>True) ?_ ?_
 ·intro i v u u' hi hx hv
  match i,hv with
  | _,_=>exact trivial
 refine zC (fun v K=>zn rfl rfl) rfl (zC (fun v K=>zn rfl rfl) rfl ?_)
 refine y8 fun g w28 K hV=>?_
 replace S:=S.ext K
 clear K hV
 refine kT 12 zbD zbA ?_
 refine wsT rfl rfl (S.blk 0) fun w30 B hw30 zw30=>?_
 replace S:=S.store 0 B hw30
 refine wd (zh rfl) (zd (zr ?_))
 refine ⟨_,(xd (rtT rfl (S.blk 0)) (ze rfl)),?_⟩
 replace S:=S.arr [] [0]
 obtain rfl:=zbE H
 exact ⟨s27,rfl,S⟩
theorem reduce_rules_12_st {a0:Tb} {a_0:Option Addr} {a1:PTerm} {s_1:SlV} (S:St A N w w [] [oT a_0 a0,zg s_1 a1.sub,oPw]) {k:Nat} {r:PTerm × Int} (H:zcP.f k a0 a1=some r) :
  Calls PP vk #[.pointer a_0,.agg (tmC a1 s_1).toArray] w <| Rt fun v w'=>(∃ so0:SlV,v = .tuple #[.agg (tmC r.1 so0).toArray,.int .i64 r.2]∧St A N w w' [] [zg so0 r.1.sub]):=by
 unfold zcP.f at H
 refine zy (n:=34) Tryz.func124 rfl rfl zbC (zb (za ?_))
 refine zE rfl zbA fun b2 w1 hw1=>?_
 replace S:=S.new hw1
 refine zQ xC zbA fun b4 w3 hw3=>?_
 replace S:=S.new hw3
 refine wd (zh rfl) (zd (zb (za (wd (zw rfl) (wd (ldT rfl (S.blk 1)) ?_)))))
 obtain ⟨r5,er5,H⟩ := zq H
 obtain ⟨_,_,T,bk⟩ := S.calln 0 ((.z 0 rfl (.z 1 rfl .nil)))
 refine zu (zt ca_reduce_told) zbA (reduce_told_st (a1:=a1) T er5) ?_
 rintro _ w6 ⟨rfl,S2⟩
 replace S:=bk _ _ _ _ S2 rfl
 refine wd (zU rfl) (wd (zn rfl rfl) (wd (zn rfl rfl) (wd (zj rfl) (wd (zj rfl) (zd (zb ?_))))))
 obtain ⟨hi31,H⟩ := xb H
 obtain ⟨hi33,H⟩ := xb H
 obtain ⟨hi35,H⟩ := xb H
 obtain ⟨r37,er37,H⟩ := zq H
 obtain ⟨r40,er40,H⟩ := zq H
 obtain ⟨r44,er44,H⟩ := zq H
 obtain ⟨s32,S⟩ := S.viewTermC 1 (zM hi31)
 replace S:=S
 obtain ⟨s34,S⟩ := S.viewTermC 1 (zM hi33)
 replace S:=S
 obtain ⟨s36,S⟩ := S.viewTermC 1 (zM hi35)
 replace S:=S.zs [6,7,8,4,5,2,3,0,1]
 refine vh 20 ⟨fun _ _=>True,fun _ _ _=>True,fun i v _=>match i with
  | 0=>v=Value.agg (tmC a1 s_1).toArray
  | 1=>v=Value.pointer (some ⟨b2,4,none⟩)
  | 2=>v=s_1.v
  | 3=>v=Value.pointer (some ⟨s_1.blk,s_1.off + Int.toNat 0 * 5,none⟩)
  | 4=>v=Value.pointer (some ⟨s_1.blk,s_1.off + Int.toNat 0 * 5 + 4,none⟩)
  | 5=>v=s32.v
  | 6=>v=Value.pointer (some ⟨s32.blk,s32.off + Int.toNat 0 * 5,none⟩)
  | 7=>v=Value.pointer (some ⟨s32.blk,s32.off + Int.toNat 0 * 5 + 4,none⟩)
  | 8=>v=s34.v
  | 9=>v=Value.pointer (some ⟨s34.blk,s34.off + Int.toNat 0 * 5,none⟩)
  | 10=>v=Value.agg (tmC (kd (kd (kd a1 0) 0) 0) s36).toArray
  | 11=>v=Value.pointer a_0
  | 12=>v=Value.agg (tmC a1 s_1).toArray
  | 13=>v=Value.bool r5.1
  | 14=>v=Value.int .i64 r37
  | 16=>v=Value.bool r5.1
  | 19=>v=Value.int .i64 r44.2
  | _=>True⟩ (fun L g v => ∃ Z48:List OA,(∀ z ∈ [oT a_0 a0,zg s_1 a1.sub,oPw,oCl s_1.blk (s_1.off + Int.toNat 0 * 5) (tmC (kd a1 0) s32),zg s32 ((kd a1 0).sub),oCl s32.blk (s32.off + Int.toNat 0 * 5) (tmC (kd (kd a1 0) 0) s34),zg s34 ((kd (kd a1 0) 0).sub),oCl s34.blk (s34.off + Int.toNat 0 * 5) (tmC (kd (kd (kd a1 0) 0) 0) s36),zg s36 ((kd (kd (kd a1 0) 0) 0).sub)],z ∈ Z48)∧Made L g Z48 15 29 (fun (c:SlV)=>Value.agg (tmC r40 c).toArray) (fun (c:SlV)=>[zg c r40.sub])∧Made L g Z48 17 31 (fun (c:SlV)=>Value.tuple #[.agg (tmC r44.1 c).toArray,.int .i64 r44.2]) (fun (c:SlV)=>[zg c r44.1.sub])∧Made L g Z48 18 32 (fun (c:SlV)=>Value.agg (tmC r44.1 c).toArray) (fun (c:SlV)=>[zg c r44.1.sub])∧St A N w v [oB b4 zo (Term.C tmZ),oB b2 zo (tmC a1 s_1)] Z48) hmix zbD (fun _ _ _ _ _ _ _ hv=>hv) (fun g=>⟨_,fun _ h=>h,Made.no,Made.no,Made.no,S.ext (Ext.drawn _)⟩) ⟨?_,?_,?_,?_,?_,?_,?_,?_,?_,?_,?_,?_,?_,?_,?_,?_,?_,?_,?_,?_,trivial⟩ ?_
 ·rintro L g v hL hcl hclo ⟨Z48,hZ,hm15,hm17,hm18,S⟩ 
  refine wd (ldT rfl (S.blk 1)) ?_
  exact w4 rfl ⟨_,hZ,hm15.keep rfl rfl tl0,hm17.keep rfl rfl tl0,hm18.keep rfl rfl tl0,S⟩
 ·rintro L g v hL hcl hclo ⟨Z48,hZ,hm15,hm17,hm18,S⟩ 
  refine wd (zf zG rfl (o':=4) rfl) ?_
  exact w4 rfl ⟨_,hZ,hm15.keep rfl rfl tl0,hm17.keep rfl rfl tl0,hm18.keep rfl rfl tl0,S⟩
 ·rintro L g v hL hcl hclo ⟨Z48,hZ,hm15,hm17,hm18,S⟩ hv1
  refine wd (zl zB hv1 ((S.blk 1).cell (Term.get_sub _))) ?_
  exact w4 rfl ⟨_,hZ,hm15.keep rfl rfl tl0,hm17.keep rfl rfl tl0,hm18.keep rfl rfl tl0,S⟩
 ·rintro L g v hL hcl hclo ⟨Z48,hZ,hm15,hm17,hm18,S⟩ hv2
  replace S:=(S.zneed hZ)
  refine wd (does_indexF zz hv2 rfl (S.onZ 1) (zM hi31).1 (zM hi31).2) ?_
  exact w4 rfl ⟨_,(fun z h=>tl9 z (hZ z h)),hm15.keep rfl rfl tl9,hm17.keep rfl rfl tl9,hm18.keep rfl rfl tl9,S⟩
 ·rintro L g v hL hcl hclo ⟨Z48,hZ,hm15,hm17,hm18,S⟩ hv3
  refine wd (zf zG hv3 (o':=_) rfl) ?_
  exact w4 rfl ⟨_,hZ,hm15.keep rfl rfl tl0,hm17.keep rfl rfl tl0,hm18.keep rfl rfl tl0,S⟩
 ·rintro L g v hL hcl hclo ⟨Z48,hZ,hm15,hm17,hm18,S⟩ hv4
  replace S:=(S.zneed hZ)
  refine wd (zl zB hv4 ((S.cl 3).get (Term.get_sub _))) ?_
  exact w4 rfl ⟨_,(fun z h=>tl9 z (hZ z h)),hm15.keep rfl rfl tl9,hm17.keep rfl rfl tl9,hm18.keep rfl rfl tl9,S⟩
 ·rintro L g v hL hcl hclo ⟨Z48,hZ,hm15,hm17,hm18,S⟩ hv5
  replace S:=(S.zneed hZ)
  refine wd (does_indexF zz hv5 rfl (S.onZ 4) (zM hi33).1 (zM hi33).2) ?_
  exact w4 rfl ⟨_,(fun z h=>tl9 z (hZ z h)),hm15.keep rfl rfl tl9,hm17.keep rfl rfl tl9,hm18.keep rfl rfl tl9,S⟩
 ·rintro L g v hL hcl hclo ⟨Z48,hZ,hm15,hm17,hm18,S⟩ hv6
  refine wd (zf zG hv6 (o':=_) rfl) ?_
  exact w4 rfl ⟨_,hZ,hm15.keep rfl rfl tl0,hm17.keep rfl rfl tl0,hm18.keep rfl rfl tl0,S⟩
 ·rintro L g v hL hcl hclo ⟨Z48,hZ,hm15,hm17,hm18,S⟩ hv7
  replace S:=(S.zneed hZ)
  refine wd (zl zB hv7 ((S.cl 5).get (Term.get_sub _))) ?_
  exact w4 rfl ⟨_,(fun z h=>tl9 z (hZ z h)),hm15.keep rfl rfl tl9,hm17.keep rfl rfl tl9,hm18.keep rfl rfl tl9,S⟩
 ·rintro L g v hL hcl hclo ⟨Z48,hZ,hm15,hm17,hm18,S⟩ hv8
  replace S:=(S.zneed hZ)
  refine wd (does_indexF zz hv8 rfl (S.onZ 6) (zM hi35).1 (zM hi35).2) ?_
  exact w4 rfl ⟨_,(fun z h=>tl9 z (hZ z h)),hm15.keep rfl rfl tl9,hm17.keep rfl rfl tl9,hm18.keep rfl rfl tl9,S⟩
 ·rintro L g v hL hcl hclo ⟨Z48,hZ,hm15,hm17,hm18,S⟩ hv9
  replace S:=(S.zneed hZ)
  refine wd (zm zR hv9 (S.cl 7) (Term.len _)) ?_
  exact w4 rfl ⟨_,(fun z h=>tl9 z (hZ z h)),hm15.keep rfl rfl tl9,hm17.keep rfl rfl tl9,hm18.keep rfl rfl tl9,S⟩
 ·rintro L g v hL hcl hclo ⟨Z48,hZ,hm15,hm17,hm18,S⟩ 
  refine wd (zw rfl) ?_
  exact w4 rfl ⟨_,hZ,hm15.keep rfl rfl tl0,hm17.keep rfl rfl tl0,hm18.keep rfl rfl tl0,S⟩
 ·rintro L g v hL hcl hclo ⟨Z48,hZ,hm15,hm17,hm18,S⟩ 
  refine wd (ldT rfl (S.blk 1)) ?_
  exact w4 rfl ⟨_,hZ,hm15.keep rfl rfl tl0,hm17.keep rfl rfl tl0,hm18.keep rfl rfl tl0,S⟩
 ·rintro L g v hL hcl hclo ⟨Z48,hZ,hm15,hm17,hm18,S⟩ 
  refine wd (zA rfl) ?_
  exact w4 rfl ⟨_,hZ,hm15.keep rfl rfl tl0,hm17.keep rfl rfl tl0,hm18.keep rfl rfl tl0,S⟩
 ·rintro L g v hL hcl hclo ⟨Z48,hZ,hm15,hm17,hm18,S⟩ hv11 hv12 hv13
  replace S:=(S.zneed hZ)
  obtain ⟨_,_,T,bk⟩ := S.calln 0 ((.z 0 rfl (.z 1 rfl .nil)))
  refine zu (zF ka (zK hv11 (zK hv12 (zK hv13 rfl)))) zbA (kn (a1:=a1) T er37) ?_
  rintro _ w54 ⟨rfl,S2⟩
  replace S:=bk _ _ _ _ S2 rfl
  exact w4 rfl ⟨_,(fun z h=>tl9 z (hZ z h)),hm15.keep rfl rfl tl9,hm17.keep rfl rfl tl9,hm18.keep rfl rfl tl9,S⟩
 ·rintro L g v hL hcl hclo ⟨Z48,hZ,hm15,hm17,hm18,S⟩ hv10 hv14
  replace S:=(S.zneed hZ)
  obtain ⟨_,_,T,bk⟩ := S.sub [8] [] [oB b4 zo (Term.C tmZ),oB b2 zo (tmC a1 s_1)]
  refine zu (zF kQ (zK hv10 (zK hv14 rfl))) zbA (kS (a0:=(kd (kd (kd a1 0) 0) 0)) T er40) ?_
  rintro _ w57 ⟨s59,rfl,S2⟩
  replace S:=bk _ _ _ _ _ S2 rfl rfl
  exact w4 trivial ⟨_,(fun z h=>tl10 z (hZ z h)),Made.one (val:=(fun (c:SlV)=>Value.agg (tmC r40 c).toArray)) (ps:=(fun (c:SlV)=>[zg c r40.sub])) s59 (yf List.mem_cons_self yC),hm17.keep rfl rfl tl10,hm18.keep rfl rfl tl10,S⟩
 ·rintro L g v hL hcl hclo ⟨Z48,hZ,hm15,hm17,hm18,S⟩ 
  refine wd (zA rfl) ?_
  exact w4 rfl ⟨_,hZ,hm15.keep rfl rfl tl0,hm17.keep rfl rfl tl0,hm18.keep rfl rfl tl0,S⟩
 ·rintro L g v hL hcl hclo ⟨Z48,hZ,hm15,hm17,hm18,S⟩ hv0 _ hv16
  obtain ⟨s43,he15,hp15⟩ := hm15 (hcl 15 zbD)
  replace S:=(S.zneed (xG (l1:=[zg s43 r40.sub]) hp15 hZ))
  obtain ⟨_,_,T,bk⟩ := S.sub [2,0,3] [] [oB b4 zo (Term.C tmZ),oB b2 zo (tmC a1 s_1)]
  refine zu (zF ca_reduce_into (zK hv0 (zK he15 (zK hv16 rfl)))) zbA (reduce_into_st (a0:=a1) (a1:=r40) T er44) ?_
  rintro _ w61 ⟨s63,rfl,S2⟩
  replace S:=bk _ _ _ _ _ S2 rfl rfl
  exact w4 trivial ⟨_,(fun z h=>tl11 z (hZ z h)),hm15.keep rfl rfl tl11,Made.one (val:=(fun (c:SlV)=>Value.tuple #[.agg (tmC r44.1 c).toArray,.int .i64 r44.2])) (ps:=(fun (c:SlV)=>[zg c r44.1.sub])) s63 (yf List.mem_cons_self yC),hm18.keep rfl rfl tl11,S⟩
 ·rintro L g v hL hcl hclo ⟨Z48,hZ,hm15,hm17,hm18,S⟩ _
  obtain ⟨s47,he17,hp17⟩ := hm17 (hcl 17 zbD)
  replace S:=(S.zneed (xG (l1:=[zg s47 r44.1.sub]) hp17 hZ))
  refine wd (zn he17 rfl) ?_
  exact w4 trivial ⟨_,(fun z h=>tl10 z (hZ z h)),hm15.keep rfl rfl tl10,hm17.keep rfl rfl tl10,Made.one (val:=(fun (c:SlV)=>Value.agg (tmC r44.1 c).toArray)) (ps:=(fun (c:SlV)=>[zg c r44.1.sub])) s47 (yf List.mem_cons_self yC),S⟩
 ·rintro L g v hL hcl hclo ⟨Z48,hZ,hm15,hm17,hm18,S⟩ _
  obtain ⟨s47,he17,hp17⟩ := hm17 (hcl 17 zbD)
  replace S:=(S.zneed (xG (l1:=[zg s47 r44.1.sub]) hp17 hZ))
  refine wd (zn he17 rfl) ?_
  exact w4 rfl ⟨_,(fun z h=>tl10 z (hZ z h)),hm15.keep rfl rfl tl10,hm17.keep rfl rfl tl10,hm18.keep rfl rfl tl10,S⟩
 rintro L g w64 hLm ⟨Z48,hZ,hm15,hm17,hm18,S⟩ hv65_0 hv65_1 hv65_2 hv65_3 hv65_4 hv65_5 hv65_6 hv65_7 hv65_8 hv65_9 hv65_10 hv65_11 hv65_12 hv65_13 hv65_14 _ hv65_16 _ _ hv65_19
 have hLt : ∀ j,j < 20→L j=true:=fun j hj=>by rw [hLm]; exact decide_eq_true hj
 obtain ⟨s43,hv65_15,hp15⟩ := hm15 (hLt 15 zbA)
 obtain ⟨s47,hv65_18,hp18⟩ := hm18 (hLt 18 zbA)
 replace S:=S.pickZ (xG (l1:=[zg s43 r40.sub]) hp15 (xG (l1:=[zg s47 r44.1.sub]) hp18 hZ))
 clear hp15 hp18 hZ hm15 hm17 hm18
 refine wsT rfl hv65_18 (S.blk 0) fun w66 B hw66 zw66=>?_
 replace S:=S.store 0 B hw66
 refine wd (zh hv65_19) (zd (zr ?_))
 refine ⟨_,(xd (rtT rfl (S.blk 0)) (ze rfl)),?_⟩
 replace S:=S.arr [] [1]
 obtain rfl:=zbE H
 exact ⟨s47,rfl,S⟩
theorem reduce_rules_14_st {a0:Tb} {a_0:Option Addr} {a1:PTerm} {s_1:SlV} (S:St A N w w [] [oT a_0 a0,zg s_1 a1.sub,oPw]) {k:Nat} {r:PTerm × Int} (H:zcQ.f k a0 a1=some r) :
  Calls PP vl #[.pointer a_0,.agg (tmC a1 s_1).toArray] w <| Rt fun v w'=>(∃ so0:SlV,v = .tuple #[.agg (tmC r.1 so0).toArray,.int .i64 r.2]∧St A N w w' [] [zg so0 r.1.sub]):=by
 unfold zcQ.f at H
 refine zy (n:=19) Tryz.func126 rfl rfl zbC (zb (za ?_))
 refine zE rfl zbA fun b2 w1 hw1=>?_
 replace S:=S.new hw1
 refine zQ xC zbA fun b4 w3 hw3=>?_
 replace S:=S.new hw3
 refine wd (zh rfl) (zd (zb ?_))
 refine wc_ws hmix fun w12 K=>?_
 replace S:=S.ext K
 clear K
 obtain ⟨hi13,H⟩ := xb H
 obtain ⟨s14,hc15,S⟩ := S.viewTerm 1 (zM hi13)
 replace S:=S.zs [1,2,3,0]
 obtain ⟨hi16,H⟩ := xb H
 obtain ⟨s17,hc18,S⟩ := S.viewTerm 1 (zM hi16)
 replace S:=S.zs [1,2,3,4,0]
 refine vp 0 10 [] zbD zbA zbD
  (V:=fun i v u=>match i with
  | _=>True) ?_ ?_
 ·intro i v u u' hi hx hv
  match i,hv with
  | _,_=>exact trivial
 refine zC (fun v K=>zf zG rfl (o':=4) rfl) rfl (zC (fun v K=>zl zB rfl (((S.ext K).blk 1).cell (Term.get_sub _))) rfl (zC (fun v K=>does_indexF zz rfl rfl ((S.ext K).onZ 1) (zM hi13).1 (zM hi13).2) rfl (zC (fun v K=>zm zR rfl (hc15.chg K (fun x=>x)) (Term.len _)) rfl (zC (fun v K=>zf xK rfl (o':=1) rfl) rfl (zC (fun v K=>zl xk rfl (((S.ext K).blk 1).cell (Term.get_name _))) rfl ?_)))))
 refine zC (fun v K=>zf zG rfl (o':=4) rfl) rfl (zC (fun v K=>zl zB rfl (((S.ext K).blk 1).cell (Term.get_sub _))) rfl (zC (fun v K=>does_indexF zz rfl rfl ((S.ext K).onZ 1) (zM hi16).1 (zM hi16).2) rfl (zC (fun v K=>zm zR rfl (hc18.chg K (fun x=>x)) (Term.len _)) rfl ?_)))
 refine y8 fun g w19 K hV=>?_
 replace S:=S.ext K
 clear K hV
 refine jE 10 11 zbD zbA ?_
 obtain ⟨r21,er21,H⟩ := zq H
 obtain ⟨_,_,T,bk⟩ := S.sub [3,4,2] [] [oB b4 zo (Term.C tmZ),oB b2 zo (tmC a1 s_1)]
 refine zu (zt zab) zbA (zak (a0:=(kd a1 1)) (a2:=(kd a1 0)) T er21) ?_
 rintro _ w22 ⟨s24,rfl,S2⟩
 replace S:=bk _ _ _ _ _ S2 rfl rfl
 refine zd ⟨rfl,?_⟩
 refine vp 11 13 [] zbD zbA zbD
  (V:=fun i v u=>match i with
  | _=>True) ?_ ?_
 ·intro i v u u' hi hx hv
  match i,hv with
  | _,_=>exact trivial
 refine zC (fun v K=>zn rfl rfl) rfl (zC (fun v K=>zn rfl rfl) rfl ?_)
 refine y8 fun g w25 K hV=>?_
 replace S:=S.ext K
 clear K hV
 refine kT 13 zbD zbA ?_
 refine wsT rfl rfl (S.blk 0) fun w27 B hw27 zw27=>?_
 replace S:=S.store 0 B hw27
 refine wd (zh rfl) (zd (zr ?_))
 refine ⟨_,(xd (rtT rfl (S.blk 0)) (ze rfl)),?_⟩
 replace S:=S.arr [] [0]
 obtain rfl:=zbE H
 exact ⟨s24,rfl,S⟩
end
section
open Gw Go.RowKit
def kW (i:Int):FuncId:=if i=0 then vI else if i=1 then vJ else if i=2 then vK else if i=3 then vM else if i=4 then vj else if i=5 then vk else if i=6 then vl else vm
theorem ca_rule_does (i:Int):zH PP (kW i):=by
 unfold kW
 repeat' split
 ·exact ca_reduce_rules_2
 ·exact ca_reduce_rules_4
 ·exact ca_reduce_rules_6
 ·exact ca_reduce_rules_8
 ·exact ca_reduce_rules_10
 ·exact ca_reduce_rules_12
 ·exact ca_reduce_rules_14
 ·exact ca_reduce_rules_16
def zcR.f (k:Nat) (i:Int) (a0:Tb) (a1:PTerm):Option (PTerm × Int) :=
 if i=0 then zcL.f k a0 a1 else if i=1 then zcM.f k a0 a1 else if i=2 then zcp.f a0 a1 else if i=3 then zcr.f a0 a1 else if i=4 then zcO.f k a0 a1 else if i=5 then zcP.f k a0 a1 else if i=6 then zcQ.f k a0 a1 else if i=7 then zcw.f a0 a1 else none
theorem rule_does_v {k:Nat} {i:Int} {a0:Tb} {a1:PTerm} {r:PTerm × Int} (H:zcR.f k i a0 a1=some r):(ju i).does.v = .func (.func (kW i)) #[] #[]:=by
 by_cases h:0 ≤ i∧i < 8
 ·have:i=0∨i=1∨i=2∨i=3∨i=4∨i=5∨i=6∨i=7:=by omega
  rcases this with rfl | rfl | rfl | rfl | rfl | rfl | rfl | rfl <;> rfl
 ·unfold zcR.f at H
  simp only [show ¬ i=0 by omega,show ¬ i=1 by omega,show ¬ i=2 by omega,show ¬ i=3 by omega,show ¬ i=4 by omega,show ¬ i=5 by omega,show ¬ i=6 by omega,show ¬ i=7 by omega,if_false] at H
  cases H
section
variable {A:Nat→Prop} {N:Oth} {w:World}
theorem rule_does_st {a0:Tb} {a_0:Option Addr} {a1:PTerm} {s_1:SlV} (S:St A N w w [] [oT a_0 a0,zg s_1 a1.sub,oPw]) {k:Nat} {i:Int} {r:PTerm × Int} (H:zcR.f k i a0 a1=some r) :
  Calls PP (kW i) #[.pointer a_0,.agg (Term.C (⟨a1.kind,a1.name,a1.other,a1.form,s_1⟩ : Term)).toArray] w fun e w' => ∃ v,e = .returned v∧(∃ so0:SlV,v = .tuple #[.agg (Term.C (⟨r.1.kind,r.1.name,r.1.other,r.1.form,so0⟩ : Term)).toArray,.int .i64 r.2]∧St A N w w' [] [zg so0 r.1.sub]):=by
 unfold zcR.f at H
 unfold kW
 have S2:St A N w w [] [oT a_0 a0,zg s_1 a1.sub]:=S.zs [0,1]
 split
 ·rename_i e; rw [if_pos e] at H; exact reduce_rules_2_st S H
 rename_i e; rw [if_neg e] at H; clear e
 split
 ·rename_i e; rw [if_pos e] at H; exact reduce_rules_4_st S H
 rename_i e; rw [if_neg e] at H; clear e
 split
 ·rename_i e; rw [if_pos e] at H; exact reduce_rules_6_st S2 H
 rename_i e; rw [if_neg e] at H; clear e
 split
 ·rename_i e; rw [if_pos e] at H; exact reduce_rules_8_st S2 H
 rename_i e; rw [if_neg e] at H; clear e
 split
 ·rename_i e; rw [if_pos e] at H; exact reduce_rules_10_st S H
 rename_i e; rw [if_neg e] at H; clear e
 split
 ·rename_i e; rw [if_pos e] at H; exact reduce_rules_12_st S H
 rename_i e; rw [if_neg e] at H; clear e
 split
 ·rename_i e; rw [if_pos e] at H; exact reduce_rules_14_st S H
 rename_i e; rw [if_neg e] at H; clear e
 split at H
 ·exact reduce_rules_16_st S2 H
 ·cases H
end
end
section
open Gw
def zcS.f (a0:Tb) (a1:PTerm):Option (Int × Bool) :=
 (zcm.f a0 a1).bind fun r17=>if r17 then some (0,true) else (zcn.f a0 a1).bind fun r31=>if r31 then some (1,true) else (zco.f a0 a1).bind fun r45=>if r45 then some (2,true) else (zcq.f a0 a1).bind fun r59=>if r59 then some (3,true) else (zcs.f a0 a1).bind fun r73=>if r73 then some (4,true) else (zct.f a0 a1).bind fun r87=>if r87 then some (5,true) else (zcu.f a0 a1).bind fun r101=>if r101 then some (6,true) else (zcv.f a0 a1).bind fun r115=>if r115 then some (7,true) else some (8,false)
def zcT.b0 (zdY:PTerm→Option PTerm) (i11:Int) (x11_0:PTerm):Option PTerm :=
 chk (inb i11 x11_0.sub.length) ((zdY (at_ PTerm.z x11_0.sub i11)).bind fun r23=>chk (inb i11 x11_0.sub.length) (some (⟨x11_0.kind,x11_0.name,x11_0.other,x11_0.form,x11_0.sub.set (Int.toNat i11) r23⟩ : PTerm)))
def zcT.g (zdY:PTerm→Option PTerm) (a0:PTerm):Option PTerm :=
 (zbO.f a0.sub).bind fun r6=>(forS (fun i s=>zcT.b0 zdY i s) ((r6.length:Int) - 0).toNat 0 (⟨a0.kind,a0.name,a0.other,a0.form,r6⟩ : PTerm)).bind fun (o11:PTerm)=>some (⟨o11.kind,o11.name,o11.other,o11.form,o11.sub⟩ : PTerm)
def zcT.f:Nat→PTerm→Option PTerm
 | 0=>fun _=>none
 | k + 1=>zcT.g (zcT.f k)
def zcU.b0 (zed:PTerm→Option PTerm) (i20:Int) (x20_0:PTerm):Option PTerm :=
 chk (inb i20 x20_0.sub.length) ((zed (at_ PTerm.z x20_0.sub i20)).bind fun r32=>chk (inb i20 x20_0.sub.length) (some (⟨x20_0.kind,x20_0.name,x20_0.other,x20_0.form,x20_0.sub.set (Int.toNat i20) r32⟩ : PTerm)))
def zcU.g (zed:PTerm→Option PTerm) (a0:PTerm):Option PTerm :=
 if decide (a0.kind=11) then chk (inb 0 a0.sub.length) ((zed (at_ PTerm.z a0.sub 0)).bind fun r9=>some r9) else (zbO.f a0.sub).bind fun r15=>(forS (fun i s=>zcU.b0 zed i s) ((r15.length:Int) - 0).toNat 0 (⟨a0.kind,a0.name,a0.other,a0.form,r15⟩ : PTerm)).bind fun (o20:PTerm)=>some (⟨o20.kind,o20.name,o20.other,o20.form,o20.sub⟩ : PTerm)
def zcU.f:Nat→PTerm→Option PTerm
 | 0=>fun _=>none
 | k + 1=>zcU.g (zcU.f k)
def zcV.f (k:Nat) (a0:PTerm):Option (PTerm × Int) :=
 (zcc.f k a0).bind fun r5=>if decide (r5 ≠ 0) then some ((⟨0,ByteArray.empty,ByteArray.empty,0,[]⟩ : PTerm),r5) else (zcU.f k a0).bind fun r10=>some (r10,0)
def zcW.g (zea:Tb→PTerm→List Int→Option (PTerm × Int)) (k:Nat) (a0:Tb) (a1:PTerm) (a2:List Int):Option (PTerm × Int) :=
 if decide ((a2.length:Int)=0) then (zcS.f a0 a1).bind fun r6=>if !r6.2 then some ((⟨0,ByteArray.empty,ByteArray.empty,0,[]⟩ : PTerm),140) else (zcR.f k r6.1 a0 a1).bind fun r21=>some (r21.1,r21.2) else chk (inb 0 a2.length) (if (decide (at_ (0:Int) a2 0 < 0)) || (decide ((a1.sub.length:Int) ≤ at_ (0:Int) a2 0)) then some ((⟨0,ByteArray.empty,ByteArray.empty,0,[]⟩ : PTerm),140) else chk (inb (at_ (0:Int) a2 0) a1.sub.length) (chk (decide ((0:Int) ≤ 1∧1 ≤ (a2.length:Int))) ((zea a0 (at_ PTerm.z a1.sub (at_ (0:Int) a2 0)) (a2.drop ((1:Int)).toNat)).bind fun r38=>if decide (r38.2 ≠ 0) then some ((⟨0,ByteArray.empty,ByteArray.empty,0,[]⟩ : PTerm),r38.2) else (zbO.f a1.sub).bind fun r62=>chk (inb (at_ (0:Int) a2 0) r62.length) (some ((⟨a1.kind,a1.name,a1.other,a1.form,r62.set (Int.toNat (at_ (0:Int) a2 0)) r38.1⟩ : PTerm),0)))))
def zcW.f:Nat→Tb→PTerm→List Int→Option (PTerm × Int)
 | 0=>fun _ _ _=>none
 | k + 1=>zcW.g (zcW.f k) k
def zcX.f (k:Nat) (a0:Tb) (a1:PTerm) (a2:List Int):Option (PTerm × Int) :=
 (zcW.f k a0 a1 a2).bind fun r5=>(if (decide (r5.2=0)) then zcc.f k r5.1 else some 0).bind fun r12=>if (decide (r5.2=0)) && (decide (r12 ≠ 0)) then if decide (121 ≠ 0) then some ((⟨0,ByteArray.empty,ByteArray.empty,0,[]⟩ : PTerm),121) else (zcT.f k r5.1).bind fun r17=>some (r17,0) else if decide (r5.2 ≠ 0) then some ((⟨0,ByteArray.empty,ByteArray.empty,0,[]⟩ : PTerm),r5.2) else (zcT.f k r5.1).bind fun r24=>some (r24,0)
def zcY.f (k:Nat) (a0:Tb) (a1:PTerm) (a2:List Int):Option (PTerm × Int) :=
 (zcC.f k a0 a1).bind fun r5=>if decide (r5.2 ≠ 0) then some ((⟨0,ByteArray.empty,ByteArray.empty,0,[]⟩ : PTerm),r5.2) else chk r5.1 ((zcX.f k a0 a1 a2).bind fun r11=>some (r11.1,r11.2))
def zcZ.f (a0:List Int) (a1:List (List Int)):Option (List (List Int) × Bool) :=
 (zbP.f a0).bind fun r10=>chk (decide ((a1.length + 1) * 24 ≤ 140737488355328)) (some (a1 ++ [r10],decide (((a1 ++ [r10]).length:Int) < 1000)))
def zda.b0 (a2:List Int) (zeb:Tb→PTerm→List Int→List (List Int)→Option (List (List Int) × Bool)) (a0:Tb) (a1:PTerm) (i14:Int) (x14_0:List (List Int)):Option (Stp (List (List Int)) (List (List Int) × Bool)) :=
 chk (decide (0 ≤ (a2.length:Int)∧(a2.length:Int) ≤ (a2.length:Int))) (chk (decide (((a2.take (Int.toNat (a2.length:Int))).length + ([i14]).length) * 8 ≤ 140737488355328)) ((zeb a0 (at_ PTerm.z a1.sub i14) ((a2.take (Int.toNat (a2.length:Int))) ++ [i14]) x14_0).bind fun r43=>if !r43.2 then some (.ret (r43.1,false)) else some (.go r43.1)))
def zda.g (zeb:Tb→PTerm→List Int→List (List Int)→Option (List (List Int) × Bool)) (a0:Tb) (a1:PTerm) (a2:List Int) (a3_0:List (List Int)):Option (List (List Int) × Bool) :=
 (zcS.f a0 a1).bind fun r3=>(if r3.2 then zcZ.f a2 a3_0 else some (a3_0,false)).bind fun r9=>if r3.2 && (!r9.2) then some (r9.1,false) else (forN (fun i s=>zda.b0 a2 zeb a0 a1 i s) ((a1.sub.length:Int) - 0).toNat 0 r9.1).bind (aft fun (s14:List (List Int))=>some (s14,true))
def zda.f:Nat→Tb→PTerm→List Int→List (List Int)→Option (List (List Int) × Bool)
 | 0=>fun _ _ _ _=>none
 | k + 1=>zda.g (zda.f k)
def zdb.f (k:Nat) (a0:Tb) (a1:PTerm):Option (List (List Int) × Int) :=
 (zcC.f k a0 a1).bind fun r3=>if decide (r3.2 ≠ 0) then some (([]:List (List Int)),r3.2) else chk r3.1 ((zda.f k a0 a1 ([]) ([]:List (List Int))).bind fun r10=>some (r10.1,0))
def zdc.f (k:Nat) (a0:Tb) (a1:PTerm):Option (Bool × Int) :=
 (zdb.f k a0 a1).bind fun r3=>some ((decide (r3.2=0)) && (decide ((r3.1.length:Int)=0)),r3.2)
def zdd.f (a0:List Int) (a1:List Int):Option (List Int × Bool) :=
 (zbP.f a0).bind fun r1=>some (r1,false)
def zde.b0 (a2:List Int) (zec:Tb→PTerm→List Int→List Int→Option (List Int × Bool)) (a0:Tb) (a1:PTerm) (i14:Int) (x14_0:List Int):Option (Stp (List Int) (List Int × Bool)) :=
 chk (decide (0 ≤ (a2.length:Int)∧(a2.length:Int) ≤ (a2.length:Int))) (chk (decide (((a2.take (Int.toNat (a2.length:Int))).length + ([i14]).length) * 8 ≤ 140737488355328)) ((zec a0 (at_ PTerm.z a1.sub i14) ((a2.take (Int.toNat (a2.length:Int))) ++ [i14]) x14_0).bind fun r43=>if !r43.2 then some (.ret (r43.1,false)) else some (.go r43.1)))
def zde.g (zec:Tb→PTerm→List Int→List Int→Option (List Int × Bool)) (a0:Tb) (a1:PTerm) (a2:List Int) (a3_0:List Int):Option (List Int × Bool) :=
 (zcS.f a0 a1).bind fun r3=>(if r3.2 then zdd.f a2 a3_0 else some (a3_0,false)).bind fun r9=>if r3.2 && (!r9.2) then some (r9.1,false) else (forN (fun i s=>zde.b0 a2 zec a0 a1 i s) ((a1.sub.length:Int) - 0).toNat 0 r9.1).bind (aft fun (s14:List Int)=>some (s14,true))
def zde.f:Nat→Tb→PTerm→List Int→List Int→Option (List Int × Bool)
 | 0=>fun _ _ _ _=>none
 | k + 1=>zde.g (zde.f k)
def zdf.b0 (k:Nat) (a0:Tb) (a2:Int) (x19_0:Int) (x19_1:PTerm) (x19_2:PTerm):Option (Stp (Int × PTerm × PTerm) (PTerm × Int × Bool × Int)) :=
 (zde.f k a0 x19_1 ([]) ([]:List Int)).bind fun r28=>if r28.2 then some (.brk (x19_0,x19_1,x19_2)) else if decide (x19_0=a2) then some (.ret (x19_1,x19_0,false,0)) else (zcX.f k a0 x19_1 r28.1).bind fun r35=>if decide (r35.2 ≠ 0) then some (.ret (x19_1,x19_0,false,r35.2)) else some (.go (IntKind.i64.wrap (x19_0 + 1),r35.1,x19_2))
def zdf.f (k:Nat) (a0:Tb) (a1:PTerm) (a2:Int):Option (PTerm × Int × Bool × Int) :=
 (zcC.f k a0 a1).bind fun r5=>if decide (r5.2 ≠ 0) then some ((⟨0,ByteArray.empty,ByteArray.empty,0,[]⟩ : PTerm),0,false,r5.2) else if (decide (a2 < 0)) || (decide (4096 < a2)) then some ((⟨0,ByteArray.empty,ByteArray.empty,0,[]⟩ : PTerm),0,false,2) else (zcT.f k a1).bind fun r13=>chk r5.1 ((iter (fun s=>zdf.b0 k a0 a2 s.1 s.2.1 s.2.2) k (0,r13,(⟨0,ByteArray.empty,ByteArray.empty,0,[]⟩ : PTerm))).bind (aft fun (s19:Int × PTerm × PTerm)=>some (s19.2.1,s19.1,true,0)))
end
section
open Gw
def zdg.b0 (a0:List Nd) (i5:Int) (x5_0:Tb):Option (Stp Tb (Tb × Int)) :=
 (zbK.f x5_0 (at_ Nd.z a0 i5)).bind fun r11=>if (decide (r11.2.2=0)) && (decide (r11.2.1 ≠ i5)) then if decide (31 ≠ 0) then some (.ret (none,31)) else some (.go r11.1) else if decide (r11.2.2 ≠ 0) then some (.ret (none,r11.2.2)) else some (.go r11.1)
def zdg.f (a0:List Nd):Option (Tb × Int) :=
 (zbN.f).bind fun r1=>(forN (fun i s=>zdg.b0 a0 i s) ((a0.length:Int) - 0).toNat 0 r1).bind (aft fun (s5:Tb)=>some (s5,0))
def zdh.b0 (a1:List Int) (a0:List Int) (i2:Int):Option (Stp Unit Bool) :=
 chk (inb i2 a1.length) (if decide (at_ (0:Int) a0 i2 ≠ at_ (0:Int) a1 i2) then some (.ret false) else some (.go ()))
def zdh.f (a0:List Int) (a1:List Int):Option Bool :=
 if decide ((a0.length:Int) ≠ (a1.length:Int)) then some false else (forN (fun i s=>zdh.b0 a1 a0 i) ((a0.length:Int) - 0).toNat 0 ()).bind (aft fun (s2:Unit)=>some true)
def zdi.f (a0:Tb) (a1:Int):Option Bool :=
 chk a0.isSome (some ((decide (0 ≤ a1)) && (decide (a1 < ((a0.getD []).length:Int)))))
def zdj.b0 (a0:Tb) (a1:Nd) (i4:Int):Option (Stp Unit (Int × Bool)) :=
 if decide (at_ Nd.z (a0.getD []) i4=a1) then some (.ret (i4,true)) else some (.go ())
def zdj.f (a0:Tb) (a1:Nd):Option (Int × Bool) :=
 chk a0.isSome ((forN (fun i s=>zdj.b0 a0 a1 i) (((a0.getD []).length:Int) - 0).toNat 0 ()).bind (aft fun (s4:Unit)=>some (0,false)))
def zdk.f (a0:Tb) (a1:Nd):Option (Tb × Int × Int) :=
 (if decide (a1.kind=1) then if (decide (a1.l ≠ 0)) || (decide (a1.r ≠ 0)) then some (.inr (a0,0,31)) else (zbM.f a1.name).bind fun r6=>if !r6 then some (.inr (a0,0,32)) else some (.inl a0) else if decide (a1.kind=2) then if ((decide (a1.name ≠ (⟨#[]⟩ : ByteArray))) || (decide (a1.l ≠ 0))) || (decide (a1.r ≠ 0)) then some (.inr (a0,0,31)) else some (.inl a0) else (if decide (a1.kind=3) then some (decide (a1.kind=3)) else if decide (a1.kind=4) then some (decide (a1.kind=4)) else some (decide (a1.kind=5))).bind fun (o12:Bool)=>if o12 then (if (!(decide (a1.name ≠ (⟨#[]⟩ : ByteArray)))) then zdi.f a0 a1.l else some false).bind fun r18=>(if (!((decide (a1.name ≠ (⟨#[]⟩ : ByteArray))) || (!r18))) then zdi.f a0 a1.r else some false).bind fun r20=>if ((decide (a1.name ≠ (⟨#[]⟩ : ByteArray))) || (!r18)) || (!r20) then some (.inr (a0,0,31)) else some (.inl a0) else some (.inr (a0,0,31))).bind (aft fun (s3:Tb)=>(zdj.f s3 a1).bind fun r25=>if r25.2 then some (s3,r25.1,0) else chk s3.isSome (if decide (1024 ≤ ((s3.getD []).length:Int)) then some ((some (s3.getD [])),0,30) else chk (decide (((s3.getD []).length + 1) * 40 ≤ 140737488355328)) (some ((some ((s3.getD []) ++ [a1])),IntKind.i64.wrap ((((s3.getD []) ++ [a1]).length:Int) - 1),0))))
def zdl.b0 (a0:List Nd) (i3:Int) (x3_0:Tb):Option (Stp Tb (Tb × Int)) :=
 (zdk.f x3_0 (at_ Nd.z a0 i3)).bind fun r6=>if decide (r6.2.2 ≠ 0) then some (.ret (none,r6.2.2)) else if decide (r6.2.1 ≠ i3) then some (.ret (none,31)) else some (.go r6.1)
def zdl.f (a0:List Nd):Option (Tb × Int) :=
 (forN (fun i s=>zdl.b0 a0 i s) ((a0.length:Int) - 0).toNat 0 (some [])).bind (aft fun (s3:Tb)=>some (s3,0))
def zdm.f (a0:List Nd):Option (Tb × Tb × Bool) :=
 chk (decide ((([]:List Nd).length + a0.length) * 40 ≤ 140737488355328)) ((zdl.f a0).bind fun r7=>if decide (r7.2 ≠ 0) then some (none,none,false) else (zdg.f (([]:List Nd) ++ a0)).bind fun r12=>some (r12.1,r7.1,true))
end
section
open Gw
def zdn.f (a0:Tb) (a1:ByteArray):Option (Tb × Int × Int) :=
 (zbK.f a0 ({ Nd.z with kind:=1,name:=a1 })).bind fun r1=>some (r1.1,r1.2.1,r1.2.2)
def zdo.f (a0:Int):Option Int :=
 some a0
def zdp.f (a0:ByteArray):Option PTerm :=
 some (⟨1,a0,ByteArray.empty,0,[]⟩ : PTerm)
def zdq.b0 (a0:PTerm) (a1:PTerm) (zef:PTerm→PTerm→Option Bool) (x6_0:Int):Option (Stp Int Bool) :=
 if decide (x6_0 < (a0.sub.length:Int)) then chk (inb x6_0 a0.sub.length) (chk (inb x6_0 a1.sub.length) ((zef (at_ PTerm.z a0.sub x6_0) (at_ PTerm.z a1.sub x6_0)).bind fun r15=>if !r15 then some (.ret false) else some (.go (IntKind.i64.wrap (x6_0 + 1))))) else some (.brk x6_0)
def zdq.g (zef:PTerm→PTerm→Option Bool) (k:Nat) (a0:PTerm) (a1:PTerm):Option Bool :=
 if ((((decide (a0.kind ≠ a1.kind)) || (decide (a0.name ≠ a1.name))) || (decide (a0.other ≠ a1.other))) || (decide (a0.form ≠ a1.form))) || (decide ((a0.sub.length:Int) ≠ (a1.sub.length:Int))) then some false else (iter (fun s=>zdq.b0 a0 a1 zef s) k 0).bind (aft fun (s6:Int)=>some true)
def zdq.f:Nat→PTerm→PTerm→Option Bool
 | 0=>fun _ _=>none
 | k + 1=>zdq.g (zdq.f k) k
def zdr.b0 (a1:List (List Int)) (a0:List (List Int)) (i2:Int):Option (Stp Unit Bool) :=
 chk (inb i2 a1.length) ((zdh.f (at_ [] a0 i2) (at_ [] a1 i2)).bind fun r11=>if !r11 then some (.ret false) else some (.go ()))
def zdr.f (a0:List (List Int)) (a1:List (List Int)):Option Bool :=
 if decide ((a0.length:Int) ≠ (a1.length:Int)) then some false else (forN (fun i s=>zdr.b0 a1 a0 i) ((a0.length:Int) - 0).toNat 0 ()).bind (aft fun (s2:Unit)=>some true)
end
section
open Gw
def zds.f (k:Nat)  : Option Bool :=
 (zbN.f).bind fun r1=>(zdn.f r1 (⟨#[112]⟩ : ByteArray)).bind fun r5=>(zbJ.f r5.1 r5.2.1 r5.2.1).bind fun r8=>(zdp.f (⟨#[120]⟩ : ByteArray)).bind fun r11=>(zdp.f (⟨#[121]⟩ : ByteArray)).bind fun r24=>(zcY.f k r8.1 (⟨3,ByteArray.empty,ByteArray.empty,0,[(⟨11,ByteArray.empty,ByteArray.empty,r8.2.1,[(⟨2,(⟨#[120]⟩ : ByteArray),ByteArray.empty,0,[r11]⟩ : PTerm)]⟩ : PTerm),r24]⟩ : PTerm) ([])).bind fun r50=>(zdb.f k r8.1 r50.1).bind fun r57=>(zdf.f k r8.1 (⟨3,ByteArray.empty,ByteArray.empty,0,[(⟨11,ByteArray.empty,ByteArray.empty,r8.2.1,[(⟨2,(⟨#[120]⟩ : ByteArray),ByteArray.empty,0,[r11]⟩ : PTerm)]⟩ : PTerm),r24]⟩ : PTerm) 9).bind fun r61=>(zcV.f k (⟨3,ByteArray.empty,ByteArray.empty,0,[(⟨11,ByteArray.empty,ByteArray.empty,r8.2.1,[(⟨2,(⟨#[120]⟩ : ByteArray),ByteArray.empty,0,[r11]⟩ : PTerm)]⟩ : PTerm),r24]⟩ : PTerm)).bind fun r68=>(zdp.f (⟨#[121]⟩ : ByteArray)).bind fun r75=>(zdc.f k r8.1 r75).bind fun r79=>(zdp.f (⟨#[121]⟩ : ByteArray)).bind fun r82=>(zcY.f k r8.1 r82 ([])).bind fun r86=>(zdp.f (⟨#[121]⟩ : ByteArray)).bind fun r93=>(zdo.f r50.2).bind fun r130=>chk (decide (r130=0)) ((zdq.f k r50.1 (⟨11,ByteArray.empty,ByteArray.empty,r5.2.1,[(⟨11,ByteArray.empty,ByteArray.empty,r5.2.1,[r93]⟩ : PTerm)]⟩ : PTerm)).bind fun r134=>chk ((decide (r130=0)) && r134) ((zdo.f r57.2).bind fun r138=>chk (((decide (r130=0)) && r134) && (decide (r138=0))) ((zdr.f r57.1 ([([]:List Int),[0]])).bind fun r148=>chk ((((decide (r130=0)) && r134) && (decide (r138=0))) && r148) ((zdo.f r61.2.2.2).bind fun r152=>chk (((((decide (r130=0)) && r134) && (decide (r138=0))) && r148) && (decide (r152=0))) (chk ((((((decide (r130=0)) && r134) && (decide (r138=0))) && r148) && (decide (r152=0))) && (decide (r61.2.1=3))) (chk (((((((decide (r130=0)) && r134) && (decide (r138=0))) && r148) && (decide (r152=0))) && (decide (r61.2.1=3))) && r61.2.2.1) ((zdp.f (⟨#[121]⟩ : ByteArray)).bind fun r158=>(zdq.f k r61.1 r158).bind fun r162=>chk ((((((((decide (r130=0)) && r134) && (decide (r138=0))) && r148) && (decide (r152=0))) && (decide (r61.2.1=3))) && r61.2.2.1) && r162) ((zdo.f r68.2).bind fun r166=>chk (((((((((decide (r130=0)) && r134) && (decide (r138=0))) && r148) && (decide (r152=0))) && (decide (r61.2.1=3))) && r61.2.2.1) && r162) && (decide (r166=0))) ((if (((((((((decide (r130=0)) && r134) && (decide (r138=0))) && r148) && (decide (r152=0))) && (decide (r61.2.1=3))) && r61.2.2.1) && r162) && (decide (r166=0))) then zdq.f k r68.1 (⟨3,ByteArray.empty,ByteArray.empty,0,[(⟨2,(⟨#[120]⟩ : ByteArray),ByteArray.empty,0,[r11]⟩ : PTerm),r158]⟩ : PTerm) else some false).bind fun r215=>(if ((((((((((decide (r130=0)) && r134) && (decide (r138=0))) && r148) && (decide (r152=0))) && (decide (r61.2.1=3))) && r61.2.2.1) && r162) && (decide (r166=0))) && r215) then zdo.f r79.2 else some 0).bind fun r217=>(if ((((((((((((decide (r130=0)) && r134) && (decide (r138=0))) && r148) && (decide (r152=0))) && (decide (r61.2.1=3))) && r61.2.2.1) && r162) && (decide (r166=0))) && r215) && (decide (r217=0))) && r79.1) then zdo.f r86.2 else some 0).bind fun r219=>some (((((((((((((decide (r130=0)) && r134) && (decide (r138=0))) && r148) && (decide (r152=0))) && (decide (r61.2.1=3))) && r61.2.2.1) && r162) && (decide (r166=0))) && r215) && (decide (r217=0))) && r79.1) && (decide (r219=140))))))))))))
end
section
open Gw
def zdt.f (a0:List Nd):Option (Tb × Tb) :=
 (zdm.f a0).bind fun r1=>if !r1.2.2 then (zbN.f).bind fun r7=>some (r7,(some [])) else some (r1.1,r1.2.1)
def zdu.b0 (a0:PTerm) (zee:PTerm→Option PTerm) (x9_0:Int) (x9_1:PTerm):Option (Stp (Int × PTerm) PTerm) :=
 if decide (x9_0 < (a0.sub.length:Int)) then chk (inb x9_0 a0.sub.length) ((zee (at_ PTerm.z a0.sub x9_0)).bind fun r19=>chk (decide ((x9_1.sub.length + 1) * 72 ≤ 140737488355328)) (some (.go (IntKind.i64.wrap (x9_0 + 1),(⟨x9_1.kind,x9_1.name,x9_1.other,x9_1.form,x9_1.sub ++ [r19]⟩ : PTerm))))) else some (.brk (x9_0,x9_1))
def zdu.g (zee:PTerm→Option PTerm) (k:Nat) (a0:PTerm):Option PTerm :=
 (iter (fun s=>zdu.b0 a0 zee s.1 s.2) k (0,(⟨a0.kind,a0.name,a0.other,a0.form,([]:List PTerm)⟩ : PTerm))).bind (aft fun (s9:Int × PTerm)=>some (⟨s9.2.kind,s9.2.name,s9.2.other,s9.2.form,s9.2.sub⟩ : PTerm))
def zdu.f:Nat→PTerm→Option PTerm
 | 0=>fun _=>none
 | k + 1=>zdu.g (zdu.f k) k
end
section
open Gw
def zdv.f (a0:Int) (a1:Option (Int × List Int)):Option (Option (Int × List Int)) :=
 match a1 with
 | none=>some none
 | some (c0,up0)=>chk (decide ((up0.length + 1) * 8 ≤ 140737488355328)) (some (some (c0,up0 ++ [a0])))
def zdw.f (a0:Option (Int × List Int)):Option (List Int × Int) :=
 match a0 with
 | none=>some (([]:List Int),0)
 | some (c0,up0)=>(zbT.f up0).bind fun r9=>some (r9,c0)
end
section
open Gw
def zdx.f (a0:PChecker) (a1:Int) (a2:Int):Option (Nd × (Option (Int × List Int))) :=
 (zbG.f a0.t a1).bind fun r5=>if decide (r5.1.kind ≠ a2) then some (r5.1,(some (130,([]:List Int)))) else some (r5.1,none)
def zdy.g (zen:PChecker→PTerm→(List (ByteArray × Int))→Option (Int × (Option (Int × List Int)))) (a0:PChecker) (a1:PTerm) (a2:Int) (a3:List (ByteArray × Int)):Option (Int × (Option (Int × List Int))) :=
 chk (inb a2 a1.sub.length) ((zen a0 (at_ PTerm.z a1.sub a2) a3).bind fun r16=>(zdv.f a2 r16.2).bind fun r22=>some (r16.1,r22))
def zdz.g (zem:PChecker→PTerm→(List (ByteArray × Int))→Int→Option (Option (Int × List Int))) (a0:PChecker) (a1:PTerm) (a2:Int) (a3:List (ByteArray × Int)) (a4:Int):Option (Option (Int × List Int)) :=
 chk (inb a2 a1.sub.length) ((zem a0 (at_ PTerm.z a1.sub a2) a3 a4).bind fun r8=>(zdv.f a2 r8).bind fun r12=>some r12)
def zdA.g (zen:PChecker→PTerm→(List (ByteArray × Int))→Option (Int × (Option (Int × List Int)))) (a0:PChecker) (a1:PTerm) (a2:List (ByteArray × Int)) (a3:Int):Option (Nd × (Option (Int × List Int))) :=
 (zdy.g zen a0 a1 0 a2).bind fun r7=>if r7.2.isSome then some (Nd.z,r7.2) else (zdx.f a0 r7.1 a3).bind fun r13=>some (r13.1,r13.2)
def zdB.g (zen:PChecker→PTerm→(List (ByteArray × Int))→Option (Int × (Option (Int × List Int)))) (zem:PChecker→PTerm→(List (ByteArray × Int))→Int→Option (Option (Int × List Int))) (a0:PChecker) (a1:PTerm) (a2:List (ByteArray × Int)):Option (Int × (Option (Int × List Int))) :=
 if decide (a1.kind=1) then (zbS.f a2 a1.name).bind fun r6=>some (r6.1,r6.2) else if decide (a1.kind=3) then (zdA.g zen a0 a1 a2 5).bind fun r11=>if r11.2.isSome then some (0,r11.2) else (zdz.g zem a0 a1 1 a2 r11.1.l).bind fun r19=>some (r11.1.r,r19) else if decide (a1.kind=5) then (zdA.g zen a0 a1 a2 3).bind fun r24=>some (r24.1.l,r24.2) else if decide (a1.kind=6) then (zdA.g zen a0 a1 a2 3).bind fun r32=>some (r32.1.r,r32.2) else if decide (a1.kind=11) then (zbG.f a0.t a1.form).bind fun r40=>if !r40.2 then some (0,(some (31,([]:List Int)))) else (zdz.g zem a0 a1 0 a2 a1.form).bind fun r49=>some (a1.form,r49) else if decide (a1.kind=12) then (zdy.g zen a0 a1 0 a2).bind fun r54=>if r54.2.isSome then some (0,r54.2) else (zdy.g zen a0 a1 1 ((a1.name,r54.1) :: a2)).bind fun r66=>some (r66.1,r66.2) else if decide (a1.kind=9) then (zdA.g zen a0 a1 a2 4).bind fun r73=>if r73.2.isSome then some (0,r73.2) else (zdy.g zen a0 a1 1 ((a1.name,r73.1.l) :: a2)).bind fun r88=>if r88.2.isSome then some (0,r88.2) else (zdy.g zen a0 a1 2 ((a1.other,r73.1.r) :: a2)).bind fun r102=>if r102.2.isNone && (decide (r102.1 ≠ r88.1)) then some (r88.1,(some (130,([]:List Int)))) else some (r88.1,r102.2) else some (0,(some (132,([]:List Int))))
def zdC.g (zen:PChecker→PTerm→(List (ByteArray × Int))→Option (Int × (Option (Int × List Int)))) (zem:PChecker→PTerm→(List (ByteArray × Int))→Int→Option (Option (Int × List Int))) (a0:PChecker) (a1:PTerm) (a2:List (ByteArray × Int)) (a3:Int):Option (Option (Int × List Int)) :=
 if decide (a1.kind=2) then (zdx.f a0 a3 5).bind fun r6=>if r6.2.isSome then some r6.2 else (zdz.g zem a0 a1 0 ((a1.name,r6.1.l) :: a2) r6.1.r).bind fun r17=>some r17 else if decide (a1.kind=4) then (zdx.f a0 a3 3).bind fun r22=>if r22.2.isSome then some r22.2 else (zdz.g zem a0 a1 0 a2 r22.1.l).bind fun r30=>if r30.isSome then some r30 else (zdz.g zem a0 a1 1 a2 r22.1.r).bind fun r35=>some r35 else (if decide (a1.kind=7) then some (decide (a1.kind=7)) else some (decide (a1.kind=8))).bind fun (o39:Bool)=>if o39 then (zdx.f a0 a3 4).bind fun r44=>if r44.2.isSome then some r44.2 else if decide (a1.kind=7) then (zdz.g zem a0 a1 0 a2 r44.1.l).bind fun r53=>some r53 else (zdz.g zem a0 a1 0 a2 r44.1.r).bind fun r57=>some r57 else if decide (a1.kind=9) then (zdA.g zen a0 a1 a2 4).bind fun r62=>if r62.2.isSome then some r62.2 else (zdz.g zem a0 a1 1 ((a1.name,r62.1.l) :: a2) a3).bind fun r73=>if r73.isSome then some r73 else (zdz.g zem a0 a1 2 ((a1.other,r62.1.r) :: a2) a3).bind fun r81=>some r81 else if decide (a1.kind=10) then (zdA.g zen a0 a1 a2 2).bind fun r86=>some r86.2 else if decide (a1.kind=12) then (zdy.g zen a0 a1 0 a2).bind fun r94=>if r94.2.isSome then some r94.2 else (zdz.g zem a0 a1 1 ((a1.name,r94.1) :: a2) a3).bind fun r102=>some r102 else (zen a0 a1 a2).bind fun r106=>if r106.2.isNone && (decide (r106.1 ≠ a3)) then some (some (130,([]:List Int))) else some r106.2
def types_tc.p:Nat→(PChecker→PTerm→(List (ByteArray × Int))→Option (Int × (Option (Int × List Int)))) × (PChecker→PTerm→(List (ByteArray × Int))→Int→Option (Option (Int × List Int)))
 | 0=>(fun _ _ _=>none,fun _ _ _ _=>none)
 | k + 1=>(zdB.g (types_tc.p k).1 (types_tc.p k).2,zdC.g (types_tc.p k).1 (types_tc.p k).2)
def zdB.f (k:Nat):PChecker→PTerm→(List (ByteArray × Int))→Option (Int × (Option (Int × List Int))):=(types_tc.p k).1
def zdC.f (k:Nat):PChecker→PTerm→(List (ByteArray × Int))→Int→Option (Option (Int × List Int)):=(types_tc.p k).2
def zdD.b0 (a1:List Hyp) (i7:Int) (x7_0:List Int) (x7_1:List (ByteArray × Int)):Option (List Int × (List (ByteArray × Int))) :=
 chk (decide ((x7_0.length + ([(at_ Hyp.z a1 i7).form]).length) * 8 ≤ 140737488355328)) ((zbR.f x7_1 ((at_ Hyp.z a1 i7).name) ((at_ Hyp.z a1 i7).form)).bind fun r25=>some (x7_0 ++ [(at_ Hyp.z a1 i7).form],r25))
def zdD.b1 (a0:Tb) (o7:List Int × (List (ByteArray × Int))) (i31:Int):Option (Stp Unit ((List (ByteArray × Int)) × Int)) :=
 (zbG.f a0 (at_ (0:Int) o7.1 i31)).bind fun r34=>if !r34.2 then some (.ret (([]:List (ByteArray × Int)),31)) else some (.go ())
def zdD.f (k:Nat) (a0:Tb) (a1:List Hyp) (a2:PTerm) (a3:List Int):Option ((List (ByteArray × Int)) × Int) :=
 (zbI.f a0 (-1)).bind fun r3=>if decide (r3.2=1) then some (([]:List (ByteArray × Int)),r3.2) else (forS (fun i s=>zdD.b0 a1 i s.1 s.2) ((a1.length:Int) - 0).toNat 0 (a3,([]:List (ByteArray × Int)))).bind fun (o7:List Int × (List (ByteArray × Int)))=>(forN (fun i s=>zdD.b1 a0 o7 i) ((o7.1.length:Int) - 0).toNat 0 ()).bind (aft fun (s31:Unit)=>(zcc.f k a2).bind fun r43=>some (o7.2,r43))
def zdE.f (k:Nat) (a0:Tb) (a1:List Hyp) (a2:PTerm) (a3:Int):Option (List Int × Int) :=
 (zdD.f k a0 a1 a2 ([a3])).bind fun r6=>if decide (r6.2 ≠ 0) then some (([]:List Int),r6.2) else (zdC.f k (⟨a0⟩ : PChecker) a2 r6.1 a3).bind fun r11=>(zdw.f r11).bind fun r15=>some (r15.1,r15.2)
def zdF.f (k:Nat) (a0:Tb) (a1:List Hyp) (a2:PTerm) (a3:Int):Option Int :=
 (zdE.f k a0 a1 a2 a3).bind fun r3=>some r3.2
def zdG.f (k:Nat) (a0:Tb) (a1:List Hyp) (a2:PTerm):Option (Int × Int) :=
 (zdD.f k a0 a1 a2 ([]:List Int)).bind fun r3=>if decide (r3.2 ≠ 0) then some (0,r3.2) else (zdB.f k (⟨a0⟩ : PChecker) a2 r3.1).bind fun r8=>(zdw.f r8.2).bind fun r12=>if decide (r12.2 ≠ 0) then some (0,r12.2) else some (r8.1,0)
end
section
open Gw
def zdH.b0 (r12:List (List Int) × Int) (k:Nat) (a2:PTerm) (r3:Tb × Tb) (r29:Int) (a1:List Hyp) (a3:Int) (r36:Int × Int) (x39_0:Int):Option (Stp Int Bool) :=
 if (decide (x39_0 < (r12.1.length:Int))) && (decide (x39_0 < 60)) then (zdu.f k a2).bind fun r42=>chk (inb x39_0 r12.1.length) ((zcY.f k r3.1 r42 (at_ [] r12.1 x39_0)).bind fun r48=>(zdo.f r48.2).bind fun r72=>if decide (r72=121) then some (.go (IntKind.i64.wrap (x39_0 + 1))) else (zdo.f r48.2).bind fun r76=>if decide (r76 ≠ 0) then some (.ret false) else if decide (r29=0) then chk true ((zdu.f k r48.1).bind fun r82=>(if true then zdF.f k r3.1 a1 r82 a3 else some 0).bind fun r86=>(if true then zdo.f r86 else some 0).bind fun r88=>if true && (decide (r88 ≠ 0)) then some (.ret false) else (zdu.f k r48.1).bind fun r91=>(zdG.f k r3.1 a1 r91).bind fun r95=>(zdo.f r36.2).bind fun r98=>(if (decide (r98=0)) then zdo.f r95.2 else some 0).bind fun r101=>if (decide (r98=0)) && ((decide (r101 ≠ 0)) || (decide (r95.1 ≠ r36.1))) then some (.ret false) else some (.go (IntKind.i64.wrap (x39_0 + 1)))) else (zdu.f k r48.1).bind fun r105=>(zdG.f k r3.1 a1 r105).bind fun r109=>(zdo.f r36.2).bind fun r112=>(if (decide (r112=0)) then zdo.f r109.2 else some 0).bind fun r115=>if (decide (r112=0)) && ((decide (r115 ≠ 0)) || (decide (r109.1 ≠ r36.1))) then some (.ret false) else some (.go (IntKind.i64.wrap (x39_0 + 1)))) else some (.brk x39_0)
def zdH.f (k:Nat) (a0:List Nd) (a1:List Hyp) (a2:PTerm) (a3:Int):Option Bool :=
 (zdt.f a0).bind fun r3=>(zdu.f k a2).bind fun r8=>(zdb.f k r3.1 r8).bind fun r12=>(zdo.f r12.2).bind fun r16=>if decide (r16 ≠ 0) then (if (decide ((r12.1.length:Int)=0)) then zds.f k else some false).bind fun r20=>some ((decide ((r12.1.length:Int)=0)) && r20) else (zdu.f k a2).bind fun r22=>(zdF.f k r3.1 a1 r22 a3).bind fun r26=>(zdo.f r26).bind fun r29=>(zdu.f k a2).bind fun r32=>(zdG.f k r3.1 a1 r32).bind fun r36=>(iter (fun s=>zdH.b0 r12 k a2 r3 r29 a1 a3 r36 s) k 0).bind (aft fun (s39:Int)=>(zds.f k).bind fun r120=>some r120)
end
section
open Go.RowKit
namespace Gw
section
variable {P:Program} {rd:Option Nat} {n:Nat} {dm:List Nat} {ops:Array Oper} {Q:Post} {f:Fr} {w:World} {rest:List Oper} {ty:TypeId} {pos:String} {af:Array Edge}
theorem wl_gturn2 {dd:Tmp} {op:Op} {j:Nat} {pol c t:Bool} {v:Value} {oj:Oper} {dj:Tmp} {g:FuncId} {args:Array Value} {R:World→Prop} (hj:ops[j]? = some oj) (hdj:oj.dst=some dj) (ht:f dj=gv c (.bool t)) (hdn:dj < n)
  (he:(c && (t == pol))=true→Enters P ⟨some dd,op,ty,pos,af,some (j,pol)⟩ f w g args) (hd:dd < n)
  (hc:(c && (t == pol))=true→Calls P g args w fun e w' => ∃ v',e = .returned v'∧(v'=v∧R w')) (h0:(c && (t == pol))=false→R w)
  (h : ∀ w',R w'→wl P rd n dm ops rest Q (upd f dd (gv (c && (t == pol)) v)) w'):wl P rd n dm ops (⟨some dd,op,ty,pos,af,some (j,pol)⟩ :: rest) Q f w:=fun a ha=>by
 refine wpListIn_step fun K hK=>?_
 rw [kO ha rfl hj hdj ht hdn]
 cases hcc:(c && (t == pol)) with
 | true =>
  rw [if_pos rfl]
  refine op_wp ha (he hcc) zbC (show _∧_ from ⟨fun h=>(by cases h),?_⟩)
  refine CallsIn.mono (show CallsIn (fen rd) _ P g args w _ from callsIn_wide.2 (hc hcc)) ?_
  rintro e w' ⟨v',rfl,rfl,hx⟩
  have h2:=h w' hx
  rw [hcc,zp rfl] at h2
  exact hK _ _ (h2 _ (ha.put hd _))
 | false =>
  rw [if_neg zbC]
  have h2:=h w (h0 hcc)
  rw [hcc,gv_f] at h2
  exact ⟨fun _ _=>trivial,hK _ _ (h2 _ (ha.put hd _))⟩
theorem wl_gturn {dd:Tmp} {op:Op} {j:Nat} {pol t:Bool} {v:Value} {oj:Oper} {dj:Tmp} {g:FuncId} {args:Array Value} {R:World→Prop} (hj:ops[j]? = some oj) (hdj:oj.dst=some dj) (ht:f dj = .bool t) (hdn:dj < n)
  (he:(t == pol)=true→Enters P ⟨some dd,op,ty,pos,af,some (j,pol)⟩ f w g args) (hd:dd < n)
  (hc:(t == pol)=true→Calls P g args w fun e w' => ∃ v',e = .returned v'∧(v'=v∧R w')) (h0:(t == pol)=false→R w)
  (h : ∀ w',R w'→wl P rd n dm ops rest Q (upd f dd (gv (t == pol) v)) w'):wl P rd n dm ops (⟨some dd,op,ty,pos,af,some (j,pol)⟩ :: rest) Q f w :=
 wl_gturn2 (c:=true) hj hdj (by rw [ht]; exact gv_t _) hdn he hd hc h0 h
end
end Gw
end
end Go.Proofs.YtmggdbbmmkkplaaGreatDoor
