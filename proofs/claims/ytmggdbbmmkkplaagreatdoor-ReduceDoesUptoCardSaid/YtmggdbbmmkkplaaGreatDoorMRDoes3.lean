/- Texts put together. -/
import Derived.Test.YtmggdbbmmkkplaaGreatDoorMRDoes2
set_option linter.unusedVariables false
set_option linter.unusedSimpArgs false
namespace Go.Proofs.YtmggdbbmmkkplaaGreatDoor
section
open Gw Go.RowKit
set_option maxHeartbeats 4000000
set_option maxRecDepth 20000
variable {A:Nat→Prop} {N:Oth} {w:World}
theorem kw {a0:PTerm} {s_0:SlV} {a1:Int} (S:St A N w w [] [zf s_0 a0.sub]) {r:PTerm} (H:zbY.f a0 a1=some r) :
  Calls PP F_reduce_the #[.agg (tmC a0 s_0).toArray,.int .i64 a1] w <| Rt fun v w'=>(∃ so0:SlV,v = .agg (tmC r so0).toArray∧St A N w w' [] [zf so0 r.sub]):=by
 unfold zbY.f at H
 refine zA (n:=9) Tryz.func110 rfl rfl zbr (zb (za ?_))
 refine zI rfl zbp fun b2 w1 hw1=>?_
 replace S:=S.new hw1
 refine zO xd zbp fun b4 w3 hw3=>?_
 replace S:=S.new hw3
 refine zd (zb (za (wd (zi rfl) (wd (ldT rfl (S.blk 1)) ?_))))
 refine yb (C:=Term.C) (l:=[(tmT a0 s_0)]) (vs:=[.agg (tmC a0 s_0).toArray]) zp yN.zero rfl rfl (fun a _=>Term.len a) zbp rfl zbp fun b6 w5 s7 hBw5 hw5=>?_
 replace S:=((S.lit hBw5 hw5 zbr).bigTm).consTm (x:=a0) 0
 replace S:=(S.frzTm 0 0).zs [0,2]
 refine wd (Does.to (v' := .agg (Term.C (tmN 11 a1 s7)).toArray) (xa (vs:=[(0,.int .i64 11),(3,.int .i64 a1),(4,s7.v)]) xW (xR rfl (xR rfl (xR rfl rfl))) (Bld.one rfl rfl (by rw [Term.len]; decide) (Term.set_kind _ _) (Bld.one rfl rfl (by rw [Term.len]; decide) (Term.set_form _ _) (Bld.one rfl (SlV.one _ _ rfl) (by rw [Term.len]; decide) (Term.set_sub _ _) Bld.nil)))) rfl) ?_
 refine wsT rfl rfl (S.blk 0) fun w8 B hw8 zw8=>?_
 replace S:=S.store 0 B hw8
 refine zd (zt ?_)
 refine ⟨_,(zP (rtT rfl (S.blk 0))),?_⟩
 replace S:=S.arr [] [0]
 obtain rfl:=zbt H
 exact ⟨s7,rfl,S⟩
theorem yU {a0:PTerm} {s_0:SlV} {a1:Int} (S:St A N w w [] [zf s_0 a0.sub]) {r:Bool} (H:zbZ.f a0 a1=some r) :
  Calls PP F_reduce_headed #[.agg (tmC a0 s_0).toArray,.int .i64 a1] w <| Rt fun v w'=>(v = .bool r∧St A N w w' [] []):=by
 unfold zbZ.f at H
 refine zA (n:=18) Tryz.func104 rfl rfl zbr (zb (za ?_))
 refine zI rfl zbp fun b2 w1 hw1=>?_
 replace S:=S.new hw1
 refine wd (zk rfl) (zd (zb (za (wd (ze zw rfl (o':=4) rfl) (wd (zl zr rfl ((S.blk 0).cell (Term.get_sub _))) (wd (does_lenF zp rfl (S.onZ 0)) ?_))))))
 refine wd (ui rfl rfl) (wd (zy rfl) ?_)
 refine wg (fun hg=>ze zw rfl (o':=4) rfl) ?_
 refine wg (fun hg=>zl zr (zn hg) ((S.blk 0).cell (Term.get_sub _))) ?_
 obtain ⟨hi3,H⟩ := chk_g H
 refine wg (fun hg=>does_indexF zp (zn hg) rfl (S.onZ 0) (zC (hi3 (by simpa using hg))).1 (zC (hi3 (by simpa using hg))).2) ?_
 refine wg (fun hg=>ze zV (zn hg) (o':=_) rfl) ?_
 refine wg (fun hg=>zl zM (zn hg) (yM.get_kind (S.onZ 0) (zC (hi3 (by simpa using hg))))) ?_
 refine wg (fun hg=>zi rfl) ?_
 refine wg (fun hg=>zL (zn hg) (zn hg)) (wd (zW rfl (fun hp=>(zn (xe hp)))) (wd (zk rfl) (zd (zt ?_))))
 refine ⟨_,(zP (zg rfl)),?_⟩
 replace S:=S.arr [] []
 obtain rfl:=zbt H
 exact ⟨rfl,S⟩
theorem uT {a0:Tb} {a_0:Option Addr} {a1:PTerm} {s_1:SlV} {a2:Int} {a3:Int} (S:St A N w w [] [oT a_0 a0,zf s_1 a1.sub]) {r:Bool} (H:zca.f a0 a1 a2 a3=some r) :
  Calls PP F_reduce_beside #[.pointer a_0,.agg (tmC a1 s_1).toArray,.int .i64 a2,.int .i64 a3] w <| Rt fun v w'=>(v = .bool r∧St A N w w' [] []):=by
 unfold zca.f at H
 refine zA (n:=37) Tryz.func108 rfl rfl zbr (zb (za ?_))
 refine zI rfl zbp fun b2 w1 hw1=>?_
 replace S:=S.new hw1
 refine wd (zk rfl) (zd (zb (zb (za (wd (ldT rfl (S.blk 0)) ?_)))))
 obtain ⟨r3,er3,H⟩ := zq H
 obtain ⟨_,_,T,bk⟩ := S.calln 0 ((.z 1 rfl .nil))
 refine zB (zx yS) zbp (yU (a0:=a1) T er3) ?_
 rintro _ w4 ⟨rfl,S2⟩
 replace S:=bk _ _ _ _ S2 rfl
 refine wd (xc rfl) (wd (zy rfl) ?_)
 refine wg (fun hg=>ze zw rfl (o':=4) rfl) ?_
 refine wg (fun hg=>zl zr (zn hg) ((S.blk 0).cell (Term.get_sub _))) ?_
 obtain ⟨hi6,H⟩ := chk_g H
 refine wg (fun hg=>does_indexF zp (zn hg) rfl (S.onZ 1) (zC (hi6 (by simpa using hg))).1 (zC (hi6 (by simpa using hg))).2) ?_
 obtain ⟨s7,hc8,S⟩ := S.viewTermG (i:=0) 1
 replace S:=S
 refine wg (fun hg=>zz zX (zn hg) (hc8 (zC (hi6 (by simpa using hg)))) (Term.len _)) ?_
 refine wg (fun hg=>zi rfl) ?_
 obtain ⟨r9,er9,H⟩ := zq H
 refine xu (j:=3) (pol:=false) rfl rfl rfl zbp (fun hg=>zJ yS (zQ (zn hg) (zQ (zn hg) rfl))) zbp (fun hg=>(have ⟨M,SS⟩ := S.lend ((.z 0 rfl .nil)); quiet (yU (a0:=(kd a1 0)) SS (if_t (by simpa using hg) er9)) (fun v w' h=>⟨h.1,_,_,h.2⟩))) fun w10 hw10=>?_
 replace S:=S.ext hw10
 refine wg (fun hg=>xc (zn hg)) (wd (xq rfl (fun hp=>(zn (xe hp)))) (zd ?_))
 refine zF rfl (fun hc11=>?_) (fun hc11=>?_)
 ·replace H:=if_t hc11 H
  refine zb (za (wd (zk rfl) (zd (zt ?_))))
  refine ⟨_,(zP (zg rfl)),?_⟩
  replace S:=S.arr [] []
  obtain rfl:=zbt H
  exact ⟨rfl,S⟩
 replace H:=if_f hc11 H
 refine zu (zb (za (wd (zD rfl) (wd (ze zw rfl (o':=4) rfl) (wd (zl zr rfl ((S.blk 0).cell (Term.get_sub _))) ?_)))))
 obtain ⟨hi12,H⟩ := zU H
 refine wd (does_indexF zp rfl rfl (S.onZ 2) (zC hi12).1 (zC hi12).2) (wd (ze x0 rfl (o':=_) rfl) (wd (zl xK rfl (yM.get_form (S.onZ 2) (zC hi12))) ?_))
 obtain ⟨r13,er13,H⟩ := zq H
 obtain ⟨_,_,T,bk⟩ := S.calln 0 ((.z 1 rfl .nil))
 refine zB (zx j7) zbp (j8 T er13) ?_
 rintro _ w14 ⟨rfl,S2⟩
 replace S:=bk _ _ _ _ S2 rfl
 refine wd (z7 rfl) (wd (zo rfl rfl) (wd (zo rfl rfl) ?_))
 refine zO ze_Nd zbp fun b17 w16 hw16=>?_
 replace S:=S.new hw16
 refine zY yw rfl rfl (S.blk 0) (Nd.len _) (by rw [Nd.len]; decide) (Nd.one _) (xo (Nd.len _)) fun w18 B hw18 zw18=>?_
 replace S:=S.store 0 B hw18
 refine wd (zk rfl) (zd (zb (za (wd (ze fl_Nd_kind rfl (o':=0) rfl) (wd (zl jt rfl ((S.blk 0).cell (Nd.get_kind _))) (wd (zi rfl) ?_))))))
 refine wd (zL rfl rfl) (wd (zk rfl) (zd (zt ?_)))
 refine ⟨_,(zP (zg rfl)),?_⟩
 replace S:=S.arr [] []
 obtain rfl:=zbt H
 exact ⟨rfl,S⟩
theorem jZ {a0:Tb} {a_0:Option Addr} {a1:PTerm} {s_1:SlV} {a2:Bool} (S:St A N w w [] [oT a_0 a0,zf s_1 a1.sub]) {r:Int} (H:zcb.f a0 a1 a2=some r) :
  Calls PP F_reduce_half #[.pointer a_0,.agg (tmC a1 s_1).toArray,.bool a2] w <| Rt fun v w'=>(v = .int .i64 r∧St A N w w' [] []):=by
 unfold zcb.f at H
 refine zA (n:=24) Tryz.func111 rfl rfl zbr (zb (za ?_))
 refine zI rfl zbp fun b2 w1 hw1=>?_
 replace S:=S.new hw1
 refine wd (zh rfl) (zd (zb (za (wd (zD rfl) (wd (ze zw rfl (o':=4) rfl) (wd (zl zr rfl ((S.blk 0).cell (Term.get_sub _))) ?_))))))
 obtain ⟨hi3,H⟩ := zU H
 refine wd (does_indexF zp rfl rfl (S.onZ 1) (zC hi3).1 (zC hi3).2) (wd (ze x0 rfl (o':=_) rfl) (wd (zl xK rfl (yM.get_form (S.onZ 1) (zC hi3))) ?_))
 obtain ⟨r4,er4,H⟩ := zq H
 obtain ⟨_,_,T,bk⟩ := S.calln 0 ((.z 0 rfl .nil))
 refine zB (zx j7) zbp (j8 T er4) ?_
 rintro _ w5 ⟨rfl,S2⟩
 replace S:=bk _ _ _ _ S2 rfl
 refine wd (z7 rfl) (wd (zo rfl rfl) (wd (zo rfl rfl) ?_))
 refine zO ze_Nd zbp fun b8 w7 hw7=>?_
 replace S:=S.new hw7
 refine zY yw rfl rfl (S.blk 0) (Nd.len _) (by rw [Nd.len]; decide) (Nd.one _) (xo (Nd.len _)) fun w9 B hw9 zw9=>?_
 replace S:=S.store 0 B hw9
 refine wd (zk rfl) (zd (zb (zb (za (wd (zy rfl) (zd ?_))))))
 refine zF rfl (fun hc10=>?_) (fun hc10=>?_)
 ·replace H:=if_t hc10 H
  refine zb (za (wd (ze jS rfl (o':=3) rfl) (wd (zl xK rfl ((S.blk 0).cell (Nd.get_r _))) (wd (zh rfl) (zd (zt ?_))))))
  refine ⟨_,(zP (zg rfl)),?_⟩
  replace S:=S.arr [] []
  obtain rfl:=zbt H
  exact ⟨rfl,S⟩
 replace H:=if_f hc10 H
 refine zu (zb (za (wd (ze jR rfl (o':=2) rfl) (wd (zl xK rfl ((S.blk 0).cell (Nd.get_l _))) (wd (zh rfl) (zd (zt ?_)))))))
 refine ⟨_,(zP (zg rfl)),?_⟩
 replace S:=S.arr [] []
 obtain rfl:=zbt H
 exact ⟨rfl,S⟩
theorem reduce_takes_st {a0:PTerm} {s_0:SlV} (S:St A N w w [] [zf s_0 a0.sub]) {r:Bool} (H:zcc.f a0=some r) :
  Calls PP F_reduce_takes #[.agg (tmC a0 s_0).toArray] w <| Rt fun v w'=>(v = .bool r∧St A N w w' [] []):=by
 unfold zcc.f at H
 refine zA (n:=11) Tryz.func113 rfl rfl zbr (zb (za ?_))
 refine zI rfl zbp fun b2 w1 hw1=>?_
 replace S:=S.new hw1
 refine wd (zk rfl) (zd (zb (za (wd (ze zV rfl (o':=0) rfl) (wd (zl zM rfl ((S.blk 0).cell (Term.get_kind _))) (wd (zL rfl rfl) ?_))))))
 refine wd (zy rfl) ?_
 refine wg (fun hg=>ze zV rfl (o':=0) rfl) ?_
 refine wg (fun hg=>zl zM (zn hg) ((S.blk 0).cell (Term.get_kind _))) ?_
 refine wg (fun hg=>zL (zn hg) rfl) (wd (xq rfl (fun hp=>(zn (xe hp)))) (wd (zk rfl) (zd (zt ?_))))
 refine ⟨_,(zP (zg rfl)),?_⟩
 replace S:=S.arr [] []
 obtain rfl:=zbt H
 exact ⟨rfl,S⟩
theorem reduce_side_st {a0:PTerm} {s_0:SlV} {a1:PTerm} {s_1:SlV} (S:St A N w w [] [zf s_0 a0.sub,zf s_1 a1.sub]) {r:PTerm} (H:zcd.f a0 a1=some r) :
  Calls PP F_reduce_side #[.agg (tmC a0 s_0).toArray,.agg (tmC a1 s_1).toArray] w <| Rt fun v w'=>(∃ so0:SlV,v = .agg (tmC r so0).toArray∧St A N w w' [] [zf so0 r.sub]):=by
 unfold zcd.f at H
 refine zA (n:=16) Tryz.func115 rfl rfl zbr (zb (za ?_))
 refine zI rfl zbp fun b2 w1 hw1=>?_
 replace S:=S.new hw1
 refine zI rfl zbp fun b4 w3 hw3=>?_
 replace S:=S.new hw3
 refine zO xd zbp fun b6 w5 hw5=>?_
 replace S:=S.new hw5
 refine zd (zb (zb (za (wd (ze zV rfl (o':=0) rfl) (wd (zl zM rfl ((S.blk 2).cell (Term.get_kind _))) (wd (zL rfl rfl) (zd ?_)))))))
 refine zF rfl (fun hc7=>?_) (fun hc7=>?_)
 ·replace H:=if_t hc7 H
  refine zb (za (wd (ze zw rfl (o':=4) rfl) (wd (zl zr rfl ((S.blk 1).cell (Term.get_sub _))) ?_)))
  obtain ⟨hi8,H⟩ := zU H
  refine wd (does_indexF zp rfl rfl (S.onZ 1) (zC hi8).1 (zC hi8).2) ?_
  obtain ⟨s9,hc10,S⟩ := S.viewTerm 1 (zC hi8)
  replace S:=S
  refine wd (ldC rfl hc10) ?_
  refine wsT rfl rfl (S.blk 0) fun w11 B hw11 zw11=>?_
  replace S:=S.store 0 B hw11
  refine zd (zt ?_)
  refine ⟨_,(zP (rtT rfl (S.blk 0))),?_⟩
  replace S:=S.arr [] [0]
  obtain rfl:=zbt H
  exact ⟨s9,rfl,S⟩
 replace H:=if_f hc7 H
 refine zu (zb (za (wd (ze zw rfl (o':=4) rfl) (wd (zl zr rfl ((S.blk 1).cell (Term.get_sub _))) ?_))))
 obtain ⟨hi12,H⟩ := zU H
 refine wd (does_indexF zp rfl rfl (S.onZ 1) (zC hi12).1 (zC hi12).2) ?_
 obtain ⟨s13,hc14,S⟩ := S.viewTerm 1 (zC hi12)
 replace S:=S
 refine wd (ldC rfl hc14) ?_
 refine wsT rfl rfl (S.blk 0) fun w15 B hw15 zw15=>?_
 replace S:=S.store 0 B hw15
 refine zd (zt ?_)
 refine ⟨_,(zP (rtT rfl (S.blk 0))),?_⟩
 replace S:=S.arr [] [0]
 obtain rfl:=zbt H
 exact ⟨s13,rfl,S⟩
theorem zaC {a0:PTerm} {s_0:SlV} (S:St A N w w [] [zf s_0 a0.sub]) {r:Bool × Bool} (H:zce.f a0=some r) :
  Calls PP zaI #[.agg (tmC a0 s_0).toArray] w <| Rt fun v w'=>(v = .tuple #[.bool r.1,.bool r.2]∧St A N w w' [] []):=by
 unfold zce.f at H
 refine zA (n:=17) Tryz.func119 rfl rfl zbr (zb (za ?_))
 refine zI rfl zbp fun b2 w1 hw1=>?_
 replace S:=S.new hw1
 refine wd (zk rfl) (wd (zk rfl) (zd (zb ?_)))
 refine xT 14 (Ext w1) hmix zbs zbs (Ext.drawn _) (zE (fun v K=>zz zX rfl (((S.ext K).blk 0).all _ (Term.len _)) (Term.len _)) ?_)
 obtain ⟨r3,er3,H⟩ := zq H
 refine kz (fun v=>zx yS) (fun v K=>(have ⟨M,SS⟩ := (S.ext K).lend ((.z 0 rfl .nil)); quiet (yU (a0:=a0) SS er3) (fun v w' h=>⟨h.1,_,_,h.2⟩))) (fun v v' K h=>K.thenExt h) (zE (fun v K=>ze zV rfl (o':=0) rfl) (zE (fun v K=>zl zM rfl (((S.ext K).blk 0).cell (Term.get_kind _))) (zE (fun v K=>zL rfl rfl) (zE (fun v K=>zy rfl) (yi (j:=5) (pol:=true) rfl rfl rfl (fun hg v K=>zz zX rfl (((S.ext K).blk 0).all _ (Term.len _)) (Term.len _)) ?_)))))
 obtain ⟨r4,er4,H⟩ := zq H
 refine wq_gcall (j:=5) (pol:=true) rfl rfl rfl (fun hg v=>zJ yS (zQ (zn hg) (zQ rfl rfl))) (fun hg v K=>(have ⟨M,SS⟩ := (S.ext K).lend ((.z 0 rfl .nil)); quiet (yU (a0:=a0) SS (if_t (by simpa using hg) er4)) (fun v w' h=>⟨h.1,_,_,h.2⟩))) (fun v v' K h=>K.thenExt h) (yi (j:=5) (pol:=true) rfl rfl rfl (fun hg v K=>zy (zn hg)) (wq_guard2 (j:=8) (pol:=false) rfl rfl rfl (fun hg v K=>zz zX rfl (((S.ext K).blk 0).all _ (Term.len _)) (Term.len _)) ?_))
 obtain ⟨r5,er5,H⟩ := zq H
 refine wq_gcall2 (j:=8) (pol:=false) rfl rfl rfl (fun hg v=>zJ yS (zQ (zn hg) (zQ rfl rfl))) (fun hg v K=>(have ⟨M,SS⟩ := (S.ext K).lend ((.z 0 rfl .nil)); quiet (yU (a0:=a0) SS (if_t (by simpa using hg) er5)) (fun v w' h=>⟨h.1,_,_,h.2⟩))) (fun v v' K h=>K.thenExt h) (yi (j:=5) (pol:=true) rfl rfl rfl (fun hg v K=>xq (zn hg) (fun hp=>(zn (zaJ hg hp)))) (zE (fun v K=>zW rfl (fun hp=>(zn (xe hp)))) (zE (fun v K=>zk rfl) ?_)))
 refine yE fun w6 K=>?_
 replace S:=S.ext K
 clear K
 refine wd (zk rfl) (zd (zt ?_))
 refine ⟨_,(xi (zg rfl) (zg rfl)),?_⟩
 replace S:=S.arr [] []
 obtain rfl:=zbt H
 exact ⟨rfl,S⟩
theorem reduce_told_st {a0:Tb} {a_0:Option Addr} {a1:PTerm} {s_1:SlV} (S:St A N w w [] [oT a_0 a0,zf s_1 a1.sub]) {r:Bool × Bool} (H:zcf.f a0 a1=some r) :
  Calls PP F_reduce_told #[.pointer a_0,.agg (tmC a1 s_1).toArray] w <| Rt fun v w'=>(v = .tuple #[.bool r.1,.bool r.2]∧St A N w w' [] []):=by
 unfold zcf.f at H
 refine zA (n:=22) Tryz.func123 rfl rfl zbr (zb (za ?_))
 refine zI rfl zbp fun b2 w1 hw1=>?_
 replace S:=S.new hw1
 refine wd (zk rfl) (wd (zk rfl) (zd (zb (za (wd (zD rfl) (wd (ldT rfl (S.blk 0)) ?_))))))
 obtain ⟨r3,er3,H⟩ := zq H
 obtain ⟨_,_,T,bk⟩ := S.calln 0 ((.z 0 rfl (.z 1 rfl .nil)))
 refine zB (zx uS) zbp (uT (a1:=a1) T er3) ?_
 rintro _ w4 ⟨rfl,S2⟩
 replace S:=bk _ _ _ _ S2 rfl
 refine wd (zk rfl) (zd (zb (za (wd (zy rfl) (wd (ze zV rfl (o':=0) rfl) (wd (zl zM rfl ((S.blk 0).cell (Term.get_kind _))) ?_))))))
 refine wd (zL rfl rfl) (wd (zy rfl) ?_)
 refine wg (fun hg=>zy rfl) ?_
 refine wg (fun hg=>zy (zn hg)) (xl (j:=6) (pol:=false) rfl rfl rfl zbp (fun hg=>zD rfl) zbp (xl (j:=6) (pol:=false) rfl rfl rfl zbp (fun hg=>ldT rfl (S.blk 0)) zbp ?_))
 obtain ⟨r6,er6,H⟩ := zq H
 refine wl_gcall2 (j:=6) (pol:=false) rfl rfl rfl zbp (fun hg=>zJ uS (zQ (zn hg) (zQ (zn hg) (zQ rfl (zQ rfl rfl))))) zbp (fun hg=>(have ⟨M,SS⟩ := S.lend ((.z 0 rfl (.z 1 rfl .nil))); quiet (uT (a1:=a1) SS (if_t (by simpa using hg) er6)) (fun v w' h=>⟨h.1,_,_,h.2⟩))) fun w7 hw7=>?_
 replace S:=S.ext hw7
 refine wg (fun hg=>xq (zn hg) (fun hp=>(zn (zaJ hg hp)))) (wd (zW rfl (fun hp=>(zn (xe hp)))) (wd (zk rfl) (wd (zk rfl) (zd (zt ?_)))))
 refine ⟨_,(xi (zg rfl) (zg rfl)),?_⟩
 replace S:=S.arr [] []
 obtain rfl:=zbt H
 exact ⟨rfl,S⟩
theorem reduce_rules_1_st {a0:Tb} {a_0:Option Addr} {a1:PTerm} {s_1:SlV} (S:St A N w w [] [oT a_0 a0,zf s_1 a1.sub]) {r:Bool} (H:zcg.f a0 a1=some r) :
  Calls PP vZ #[.pointer a_0,.agg (tmC a1 s_1).toArray] w <| Rt fun v w'=>(v = .bool r∧St A N w w' [] []):=by
 unfold zcg.f at H
 refine zA (n:=12) Tryz.func103 rfl rfl zbr (zb (za ?_))
 refine zI rfl zbp fun b2 w1 hw1=>?_
 replace S:=S.new hw1
 refine wd (zk rfl) (zd (zb (za (wd (ze zV rfl (o':=0) rfl) (wd (zl zM rfl ((S.blk 0).cell (Term.get_kind _))) (wd (zL rfl rfl) ?_))))))
 refine wd (zy rfl) ?_
 refine wg (fun hg=>ldT rfl (S.blk 0)) ?_
 obtain ⟨r3,er3,H⟩ := zq H
 refine xu (j:=3) (pol:=true) rfl rfl rfl zbp (fun hg=>zJ yS (zQ (zn hg) (zQ rfl rfl))) zbp (fun hg=>(have ⟨M,SS⟩ := S.lend ((.z 1 rfl .nil)); quiet (yU (a0:=a1) SS (if_t (by simpa using hg) er3)) (fun v w' h=>⟨h.1,_,_,h.2⟩))) fun w4 hw4=>?_
 replace S:=S.ext hw4
 refine wd (zW rfl (fun hp=>(zn (xe hp)))) (wd (zk rfl) (zd (zt ?_)))
 refine ⟨_,(zP (zg rfl)),?_⟩
 replace S:=S.arr [] []
 obtain rfl:=zbt H
 exact ⟨rfl,S⟩
theorem reduce_rules_3_st {a0:Tb} {a_0:Option Addr} {a1:PTerm} {s_1:SlV} (S:St A N w w [] [oT a_0 a0,zf s_1 a1.sub]) {r:Bool} (H:zch.f a0 a1=some r) :
  Calls PP v6 #[.pointer a_0,.agg (tmC a1 s_1).toArray] w <| Rt fun v w'=>(v = .bool r∧St A N w w' [] []):=by
 unfold zch.f at H
 refine zA (n:=13) Tryz.func107 rfl rfl zbr (zb (za ?_))
 refine zI rfl zbp fun b2 w1 hw1=>?_
 replace S:=S.new hw1
 refine wd (zk rfl) (zd (zb (za (wd (ze zV rfl (o':=0) rfl) (wd (zl zM rfl ((S.blk 0).cell (Term.get_kind _))) (wd (zL rfl rfl) ?_))))))
 refine wd (zy rfl) ?_
 refine wg (fun hg=>zD rfl) ?_
 refine wg (fun hg=>ldT rfl (S.blk 0)) ?_
 obtain ⟨r3,er3,H⟩ := zq H
 refine xu (j:=3) (pol:=true) rfl rfl rfl zbp (fun hg=>zJ uS (zQ (zn hg) (zQ (zn hg) (zQ rfl (zQ rfl rfl))))) zbp (fun hg=>(have ⟨M,SS⟩ := S.lend ((.z 0 rfl (.z 1 rfl .nil))); quiet (uT (a1:=a1) SS (if_t (by simpa using hg) er3)) (fun v w' h=>⟨h.1,_,_,h.2⟩))) fun w4 hw4=>?_
 replace S:=S.ext hw4
 refine wd (zW rfl (fun hp=>(zn (xe hp)))) (wd (zk rfl) (zd (zt ?_)))
 refine ⟨_,(zP (zg rfl)),?_⟩
 replace S:=S.arr [] []
 obtain rfl:=zbt H
 exact ⟨rfl,S⟩
theorem reduce_rules_5_st {a0:Tb} {a_0:Option Addr} {a1:PTerm} {s_1:SlV} (S:St A N w w [] [oT a_0 a0,zf s_1 a1.sub]) {r:Bool} (H:zci.f a0 a1=some r) :
  Calls PP v7 #[.pointer a_0,.agg (tmC a1 s_1).toArray] w <| Rt fun v w'=>(v = .bool r∧St A N w w' [] []):=by
 unfold zci.f at H
 refine zA (n:=11) Tryz.func112 rfl rfl zbr (zb (za ?_))
 refine zI rfl zbp fun b2 w1 hw1=>?_
 replace S:=S.new hw1
 refine wd (zk rfl) (zd (zb (za (wd (ldT rfl (S.blk 0)) ?_))))
 obtain ⟨r3,er3,H⟩ := zq H
 obtain ⟨_,_,T,bk⟩ := S.calln 0 ((.z 1 rfl .nil))
 refine zB (zx ca_reduce_takes) zbp (reduce_takes_st (a0:=a1) T er3) ?_
 rintro _ w4 ⟨rfl,S2⟩
 replace S:=bk _ _ _ _ S2 rfl
 refine wd (zy rfl) ?_
 refine wg (fun hg=>ldT rfl (S.blk 0)) ?_
 obtain ⟨r6,er6,H⟩ := zq H
 refine xu (j:=2) (pol:=true) rfl rfl rfl zbp (fun hg=>zJ yS (zQ (zn hg) (zQ rfl rfl))) zbp (fun hg=>(have ⟨M,SS⟩ := S.lend ((.z 1 rfl .nil)); quiet (yU (a0:=a1) SS (if_t (by simpa using hg) er6)) (fun v w' h=>⟨h.1,_,_,h.2⟩))) fun w7 hw7=>?_
 replace S:=S.ext hw7
 refine wd (zW rfl (fun hp=>(zn (xe hp)))) (wd (zk rfl) (zd (zt ?_)))
 refine ⟨_,(zP (zg rfl)),?_⟩
 replace S:=S.arr [] []
 obtain rfl:=zbt H
 exact ⟨rfl,S⟩
theorem reduce_rules_6_st {a0:Tb} {a_0:Option Addr} {a1:PTerm} {s_1:SlV} (S:St A N w w [] [oT a_0 a0,zf s_1 a1.sub]) {r:PTerm × Int} (H:zcj.f a0 a1=some r) :
  Calls PP vt #[.pointer a_0,.agg (tmC a1 s_1).toArray] w <| Rt fun v w'=>(∃ so0:SlV,v = .tuple #[.agg (tmC r.1 so0).toArray,.int .i64 r.2]∧St A N w w' [] [zf so0 r.1.sub]):=by
 unfold zcj.f at H
 refine zA (n:=12) Tryz.func114 rfl rfl zbr (zb (za ?_))
 refine zI rfl zbp fun b2 w1 hw1=>?_
 replace S:=S.new hw1
 refine zO xd zbp fun b4 w3 hw3=>?_
 replace S:=S.new hw3
 refine wd (zh rfl) (zd (zb ?_))
 refine xT 5 (Ext w3) hmix zbs zbs (Ext.drawn _) (zE (fun v K=>zz zX rfl (((S.ext K).blk 1).all _ (Term.len _)) (Term.len _)) (zE (fun v K=>ze zw rfl (o':=4) rfl) (zE (fun v K=>zl zr rfl (((S.ext K).blk 1).cell (Term.get_sub _))) ?_)))
 obtain ⟨hi5,H⟩ := zU H
 refine zE (fun v K=>does_indexF zp rfl rfl ((S.ext K).onZ 1) (zC hi5).1 (zC hi5).2) ?_
 obtain ⟨s6,hc7,S⟩ := S.viewTerm 1 (zC hi5)
 replace S:=S
 refine zE (fun v K=>zz zX rfl (hc7.chg K (fun x=>x)) (Term.len _)) ?_
 refine yE fun w8 K=>?_
 replace S:=S.ext K
 clear K
 obtain ⟨r9,er9,H⟩ := zq H
 obtain ⟨_,_,T,bk⟩ := S.sub [2,0] [] [oB b4 zj (Term.C tmZ),oB b2 zj (tmC a1 s_1)]
 refine zB (zx ca_reduce_side) zbp (reduce_side_st (a0:=a1) (a1:=(kd a1 0)) T er9) ?_
 rintro _ w10 ⟨s12,rfl,S2⟩
 replace S:=bk _ _ _ _ _ S2 rfl rfl
 refine wsT rfl rfl (S.blk 0) fun w13 B hw13 zw13=>?_
 replace S:=S.store 0 B hw13
 refine wd (zh rfl) (zd (zt ?_))
 refine ⟨_,(xi (rtT rfl (S.blk 0)) (zg rfl)),?_⟩
 replace S:=S.arr [] [0]
 obtain rfl:=zbt H
 exact ⟨s12,rfl,S⟩
theorem reduce_rules_7_st {a0:Tb} {a_0:Option Addr} {a1:PTerm} {s_1:SlV} (S:St A N w w [] [oT a_0 a0,zf s_1 a1.sub]) {r:Bool} (H:zck.f a0 a1=some r) :
  Calls PP v8 #[.pointer a_0,.agg (tmC a1 s_1).toArray] w <| Rt fun v w'=>(v = .bool r∧St A N w w' [] []):=by
 unfold zck.f at H
 refine zA (n:=12) Tryz.func116 rfl rfl zbr (zb (za ?_))
 refine zI rfl zbp fun b2 w1 hw1=>?_
 replace S:=S.new hw1
 refine wd (zk rfl) (zd (zb (za (wd (ldT rfl (S.blk 0)) ?_))))
 obtain ⟨r3,er3,H⟩ := zq H
 obtain ⟨_,_,T,bk⟩ := S.calln 0 ((.z 1 rfl .nil))
 refine zB (zx ca_reduce_takes) zbp (reduce_takes_st (a0:=a1) T er3) ?_
 rintro _ w4 ⟨rfl,S2⟩
 replace S:=bk _ _ _ _ S2 rfl
 refine wd (zy rfl) ?_
 refine wg (fun hg=>zD rfl) ?_
 refine wg (fun hg=>ldT rfl (S.blk 0)) ?_
 obtain ⟨r6,er6,H⟩ := zq H
 refine xu (j:=2) (pol:=true) rfl rfl rfl zbp (fun hg=>zJ uS (zQ (zn hg) (zQ (zn hg) (zQ rfl (zQ rfl rfl))))) zbp (fun hg=>(have ⟨M,SS⟩ := S.lend ((.z 0 rfl (.z 1 rfl .nil))); quiet (uT (a1:=a1) SS (if_t (by simpa using hg) er6)) (fun v w' h=>⟨h.1,_,_,h.2⟩))) fun w7 hw7=>?_
 replace S:=S.ext hw7
 refine wd (zW rfl (fun hp=>(zn (xe hp)))) (wd (zk rfl) (zd (zt ?_)))
 refine ⟨_,(zP (zg rfl)),?_⟩
 replace S:=S.arr [] []
 obtain rfl:=zbt H
 exact ⟨rfl,S⟩
theorem reduce_rules_8_st {a0:Tb} {a_0:Option Addr} {a1:PTerm} {s_1:SlV} (S:St A N w w [] [oT a_0 a0,zf s_1 a1.sub]) {r:PTerm × Int} (H:zcl.f a0 a1=some r) :
  Calls PP vu #[.pointer a_0,.agg (tmC a1 s_1).toArray] w <| Rt fun v w'=>(∃ so0:SlV,v = .tuple #[.agg (tmC r.1 so0).toArray,.int .i64 r.2]∧St A N w w' [] [zf so0 r.1.sub]):=by
 unfold zcl.f at H
 refine zA (n:=22) Tryz.func117 rfl rfl zbr (zb (za ?_))
 refine zI rfl zbp fun b2 w1 hw1=>?_
 replace S:=S.new hw1
 refine zO xd zbp fun b4 w3 hw3=>?_
 replace S:=S.new hw3
 refine wd (zh rfl) (zd (zb ?_))
 obtain ⟨hi12,H⟩ := zU H
 obtain ⟨hi14,H⟩ := zU H
 obtain ⟨r16,er16,H⟩ := zq H
 obtain ⟨s13,S⟩ := S.viewTermC 1 (zC hi12)
 replace S:=S
 obtain ⟨s15,S⟩ := S.viewTermC 1 (zC hi14)
 replace S:=S.zs [4,5,2,3,0,1]
 refine x8 14 ⟨fun _ _=>True,fun _ _ _=>True,fun i v _=>match i with
  | 0=>v=Value.agg (tmC a1 s_1).toArray
  | 1=>v=Value.pointer (some ⟨b2,4,none⟩)
  | 2=>v=s_1.v
  | 3=>v=Value.pointer (some ⟨s_1.blk,s_1.off + Int.toNat 0 * 5,none⟩)
  | 4=>v=Value.pointer (some ⟨s_1.blk,s_1.off + Int.toNat 0 * 5 + 4,none⟩)
  | 5=>v=s13.v
  | 6=>v=Value.pointer (some ⟨s13.blk,s13.off + Int.toNat 0 * 5,none⟩)
  | 7=>v=Value.agg (tmC (kd (kd a1 0) 0) s15).toArray
  | 9=>v=Value.pointer a_0
  | 10=>v=Value.agg (tmC a1 s_1).toArray
  | 11=>v=Value.pointer (some ⟨b2,0,none⟩)
  | 12=>v=Value.int .i64 a1.kind
  | 13=>v=Value.bool (decide (a1.kind=6))
  | _=>True⟩ (fun L g v => ∃ Z20:List OA,(∀ z ∈ [oT a_0 a0,zf s_1 a1.sub,oCl s_1.blk (s_1.off + Int.toNat 0 * 5) (tmC (kd a1 0) s13),zf s13 ((kd a1 0).sub),oCl s13.blk (s13.off + Int.toNat 0 * 5) (tmC (kd (kd a1 0) 0) s15),zf s15 ((kd (kd a1 0) 0).sub)],z ∈ Z20)∧Made L g Z20 8 14 (fun (c:SlV)=>Value.agg (tmC r16 c).toArray) (fun (c:SlV)=>[zf c r16.sub])∧St A N w v [oB b4 zj (Term.C tmZ),oB b2 zj (tmC a1 s_1)] Z20) hmix zbs (fun _ _ _ _ _ _ _ hv=>hv) (fun g=>⟨_,fun _ h=>h,Made.no,S.ext (Ext.drawn _)⟩) ⟨?_,?_,?_,?_,?_,?_,?_,?_,?_,?_,?_,?_,?_,?_,trivial⟩ ?_
 ·rintro L g v hL hcl hclo ⟨Z20,hZ,hm8,S⟩ 
  refine wd (ldT rfl (S.blk 1)) ?_
  exact w4 rfl ⟨_,hZ,hm8.keep rfl rfl tl0,S⟩
 ·rintro L g v hL hcl hclo ⟨Z20,hZ,hm8,S⟩ 
  refine wd (ze zw rfl (o':=4) rfl) ?_
  exact w4 rfl ⟨_,hZ,hm8.keep rfl rfl tl0,S⟩
 ·rintro L g v hL hcl hclo ⟨Z20,hZ,hm8,S⟩ hv1
  refine wd (zl zr hv1 ((S.blk 1).cell (Term.get_sub _))) ?_
  exact w4 rfl ⟨_,hZ,hm8.keep rfl rfl tl0,S⟩
 ·rintro L g v hL hcl hclo ⟨Z20,hZ,hm8,S⟩ hv2
  replace S:=(S.zneed hZ)
  refine wd (does_indexF zp hv2 rfl (S.onZ 1) (zC hi12).1 (zC hi12).2) ?_
  exact w4 rfl ⟨_,(fun z h=>tl6 z (hZ z h)),hm8.keep rfl rfl tl6,S⟩
 ·rintro L g v hL hcl hclo ⟨Z20,hZ,hm8,S⟩ hv3
  refine wd (ze zw hv3 (o':=_) rfl) ?_
  exact w4 rfl ⟨_,hZ,hm8.keep rfl rfl tl0,S⟩
 ·rintro L g v hL hcl hclo ⟨Z20,hZ,hm8,S⟩ hv4
  replace S:=(S.zneed hZ)
  refine wd (zl zr hv4 ((S.cl 2).get (Term.get_sub _))) ?_
  exact w4 rfl ⟨_,(fun z h=>tl6 z (hZ z h)),hm8.keep rfl rfl tl6,S⟩
 ·rintro L g v hL hcl hclo ⟨Z20,hZ,hm8,S⟩ hv5
  replace S:=(S.zneed hZ)
  refine wd (does_indexF zp hv5 rfl (S.onZ 3) (zC hi14).1 (zC hi14).2) ?_
  exact w4 rfl ⟨_,(fun z h=>tl6 z (hZ z h)),hm8.keep rfl rfl tl6,S⟩
 ·rintro L g v hL hcl hclo ⟨Z20,hZ,hm8,S⟩ hv6
  replace S:=(S.zneed hZ)
  refine wd (zz zX hv6 (S.cl 4) (Term.len _)) ?_
  exact w4 rfl ⟨_,(fun z h=>tl6 z (hZ z h)),hm8.keep rfl rfl tl6,S⟩
 ·rintro L g v hL hcl hclo ⟨Z20,hZ,hm8,S⟩ hv0 hv7
  replace S:=(S.zneed hZ)
  obtain ⟨_,_,T,bk⟩ := S.sub [1,5] [] [oB b4 zj (Term.C tmZ),oB b2 zj (tmC a1 s_1)]
  refine zB (zJ ca_reduce_side (zQ hv0 (zQ hv7 rfl))) zbp (reduce_side_st (a0:=a1) (a1:=(kd (kd a1 0) 0)) T er16) ?_
  rintro _ w25 ⟨s27,rfl,S2⟩
  replace S:=bk _ _ _ _ _ S2 rfl rfl
  exact w4 trivial ⟨_,(fun z h=>tl7 z (hZ z h)),Made.one (val:=(fun (c:SlV)=>Value.agg (tmC r16 c).toArray)) (ps:=(fun (c:SlV)=>[zf c r16.sub])) s27 (xQ List.mem_cons_self x7),S⟩
 ·rintro L g v hL hcl hclo ⟨Z20,hZ,hm8,S⟩ 
  refine wd (zD rfl) ?_
  exact w4 rfl ⟨_,hZ,hm8.keep rfl rfl tl0,S⟩
 ·rintro L g v hL hcl hclo ⟨Z20,hZ,hm8,S⟩ 
  refine wd (ldT rfl (S.blk 1)) ?_
  exact w4 rfl ⟨_,hZ,hm8.keep rfl rfl tl0,S⟩
 ·rintro L g v hL hcl hclo ⟨Z20,hZ,hm8,S⟩ 
  refine wd (ze zV rfl (o':=0) rfl) ?_
  exact w4 rfl ⟨_,hZ,hm8.keep rfl rfl tl0,S⟩
 ·rintro L g v hL hcl hclo ⟨Z20,hZ,hm8,S⟩ hv11
  refine wd (zl zM hv11 ((S.blk 1).cell (Term.get_kind _))) ?_
  exact w4 rfl ⟨_,hZ,hm8.keep rfl rfl tl0,S⟩
 ·rintro L g v hL hcl hclo ⟨Z20,hZ,hm8,S⟩ hv12
  refine wd (zL hv12 rfl) ?_
  exact w4 rfl ⟨_,hZ,hm8.keep rfl rfl tl0,S⟩
 rintro L g w28 hLm ⟨Z20,hZ,hm8,S⟩ hv29_0 hv29_1 hv29_2 hv29_3 hv29_4 hv29_5 hv29_6 hv29_7 _ hv29_9 hv29_10 hv29_11 hv29_12 hv29_13
 have hLt : ∀ j,j < 14→L j=true:=fun j hj=>by rw [hLm]; exact decide_eq_true hj
 obtain ⟨s19,hv29_8,hp8⟩ := hm8 (hLt 8 zbp)
 replace S:=S.pickZ (xw (l1:=[zf s19 r16.sub]) hp8 hZ)
 clear hp8 hZ hm8
 obtain ⟨r30,er30,H⟩ := zq H
 obtain ⟨_,_,T,bk⟩ := S.calln 0 ((.z 1 rfl (.z 2 rfl .nil)))
 refine zB (zJ jO (zQ hv29_9 (zQ hv29_10 (zQ hv29_13 rfl)))) zbp (jZ (a1:=a1) T er30) ?_
 rintro _ w31 ⟨rfl,S2⟩
 replace S:=bk _ _ _ _ S2 rfl
 obtain ⟨r33,er33,H⟩ := zq H
 obtain ⟨_,_,T,bk⟩ := S.sub [0] [] [oB b4 zj (Term.C tmZ),oB b2 zj (tmC a1 s_1)]
 refine zB (zJ ku (zQ hv29_8 (zQ rfl rfl))) zbp (kw (a0:=r16) T er33) ?_
 rintro _ w34 ⟨s36,rfl,S2⟩
 replace S:=bk _ _ _ _ _ S2 rfl rfl
 refine wsT rfl rfl (S.blk 0) fun w37 B hw37 zw37=>?_
 replace S:=S.store 0 B hw37
 refine wd (zh rfl) (zd (zt ?_))
 refine ⟨_,(xi (rtT rfl (S.blk 0)) (zg rfl)),?_⟩
 replace S:=S.arr [] [0]
 obtain rfl:=zbt H
 exact ⟨s36,rfl,S⟩
theorem reduce_rules_9_st {a0:Tb} {a_0:Option Addr} {a1:PTerm} {s_1:SlV} (S:St A N w w [] [oT a_0 a0,zf s_1 a1.sub]) {r:Bool} (H:zcm.f a0 a1=some r) :
  Calls PP ua #[.pointer a_0,.agg (tmC a1 s_1).toArray] w <| Rt fun v w'=>(v = .bool r∧St A N w w' [] []):=by
 unfold zcm.f at H
 refine zA (n:=13) Tryz.func118 rfl rfl zbr (zb (za ?_))
 refine zI rfl zbp fun b2 w1 hw1=>?_
 replace S:=S.new hw1
 refine wd (zk rfl) (zd (zb (za (wd (ldT rfl (S.blk 0)) ?_))))
 obtain ⟨r3,er3,H⟩ := zq H
 obtain ⟨_,_,T,bk⟩ := S.calln 0 ((.z 1 rfl .nil))
 refine zB (zx zar) zbp (zaC (a0:=a1) T er3) ?_
 rintro _ w4 ⟨rfl,S2⟩
 replace S:=bk _ _ _ _ S2 rfl
 refine wd (z7 rfl) (wd (zo rfl rfl) (wd (zo rfl rfl) (wd (zk rfl) (wd (zk rfl) (zd (zb (za ?_)))))))
 refine wd (zy rfl) (wd (zk rfl) (zd (zt ?_)))
 refine ⟨_,(zP (zg rfl)),?_⟩
 replace S:=S.arr [] []
 obtain rfl:=zbt H
 exact ⟨rfl,S⟩
theorem reduce_rules_11_st {a0:Tb} {a_0:Option Addr} {a1:PTerm} {s_1:SlV} (S:St A N w w [] [oT a_0 a0,zf s_1 a1.sub]) {r:Bool} (H:zcn.f a0 a1=some r) :
  Calls PP vE #[.pointer a_0,.agg (tmC a1 s_1).toArray] w <| Rt fun v w'=>(v = .bool r∧St A N w w' [] []):=by
 unfold zcn.f at H
 refine zA (n:=14) Tryz.func122 rfl rfl zbr (zb (za ?_))
 refine zI rfl zbp fun b2 w1 hw1=>?_
 replace S:=S.new hw1
 refine wd (zk rfl) (zd (zb (za (wd (zD rfl) (wd (ldT rfl (S.blk 0)) ?_)))))
 obtain ⟨r3,er3,H⟩ := zq H
 obtain ⟨_,_,T,bk⟩ := S.calln 0 ((.z 0 rfl (.z 1 rfl .nil)))
 refine zB (zx ca_reduce_told) zbp (reduce_told_st (a1:=a1) T er3) ?_
 rintro _ w4 ⟨rfl,S2⟩
 replace S:=bk _ _ _ _ S2 rfl
 refine wd (z7 rfl) (wd (zo rfl rfl) (wd (zo rfl rfl) (wd (zk rfl) (wd (zk rfl) (zd (zb (za ?_)))))))
 refine wd (zy rfl) (wd (zk rfl) (zd (zt ?_)))
 refine ⟨_,(zP (zg rfl)),?_⟩
 replace S:=S.arr [] []
 obtain rfl:=zbt H
 exact ⟨rfl,S⟩
theorem reduce_rules_13_st {a0:Tb} {a_0:Option Addr} {a1:PTerm} {s_1:SlV} (S:St A N w w [] [oT a_0 a0,zf s_1 a1.sub]) {r:Bool} (H:zco.f a0 a1=some r) :
  Calls PP vF #[.pointer a_0,.agg (tmC a1 s_1).toArray] w <| Rt fun v w'=>(v = .bool r∧St A N w w' [] []):=by
 unfold zco.f at H
 refine zA (n:=8) Tryz.func125 rfl rfl zbr (zb (za ?_))
 refine zI rfl zbp fun b2 w1 hw1=>?_
 replace S:=S.new hw1
 refine wd (zk rfl) (zd (zb (za (wd (ze zV rfl (o':=0) rfl) (wd (zl zM rfl ((S.blk 0).cell (Term.get_kind _))) (wd (zL rfl rfl) ?_))))))
 refine wd (zk rfl) (zd (zt ?_))
 refine ⟨_,(zP (zg rfl)),?_⟩
 replace S:=S.arr [] []
 obtain rfl:=zbt H
 exact ⟨rfl,S⟩
theorem reduce_rules_15_st {a0:Tb} {a_0:Option Addr} {a1:PTerm} {s_1:SlV} (S:St A N w w [] [oT a_0 a0,zf s_1 a1.sub]) {r:Bool} (H:zcp.f a0 a1=some r) :
  Calls PP vG #[.pointer a_0,.agg (tmC a1 s_1).toArray] w <| Rt fun v w'=>(v = .bool r∧St A N w w' [] []):=by
 unfold zcp.f at H
 refine zA (n:=19) Tryz.func127 rfl rfl zbr (zb (za ?_))
 refine zI rfl zbp fun b2 w1 hw1=>?_
 replace S:=S.new hw1
 refine wd (zk rfl) (zd (zb (zb (za (wd (ze zV rfl (o':=0) rfl) (wd (zl zM rfl ((S.blk 0).cell (Term.get_kind _))) (wd (xp rfl rfl) (zd ?_))))))))
 refine zF rfl (fun hc3=>?_) (fun hc3=>?_)
 ·replace H:=if_t hc3 H
  refine zb (za (wd (zk rfl) (zd (zt ?_))))
  refine ⟨_,(zP (zg rfl)),?_⟩
  replace S:=S.arr [] []
  obtain rfl:=zbt H
  exact ⟨rfl,S⟩
 replace H:=if_f hc3 H
 refine zu (zb (zb (za (wd (ze zw rfl (o':=4) rfl) (wd (zl zr rfl ((S.blk 0).cell (Term.get_sub _))) ?_)))))
 obtain ⟨hi4,H⟩ := zU H
 refine wd (does_indexF zp rfl rfl (S.onZ 1) (zC hi4).1 (zC hi4).2) (wd (ze zV rfl (o':=_) rfl) (wd (zl zM rfl (yM.get_kind (S.onZ 1) (zC hi4))) (zd ?_)))
 refine zK (zb (zb (za (wd (zL rfl rfl) (wd (zk rfl) (zd ?_))))))
 refine zF rfl (fun hc5=>?_) (fun hc5=>?_)
 ·replace H:=if_t hc5 H
  refine zu ?_
  refine zF rfl (fun hc6=>?_) (fun hc6=>?_)
  ·replace H:=if_t hc6 H
   refine zb (za (wd (zk rfl) (zd (zt ?_))))
   refine ⟨_,(zP (zg rfl)),?_⟩
   replace S:=S.arr [] []
   obtain rfl:=zbt H
   exact ⟨rfl,S⟩
  replace H:=if_f hc6 H
  refine zu (zb (za (wd (zk rfl) (zd (zt ?_)))))
  refine ⟨_,(zP (zg rfl)),?_⟩
  replace S:=S.arr [] []
  obtain rfl:=zbt H
  exact ⟨rfl,S⟩
 ·replace H:=if_f hc5 H
  refine zb (za (wd (zL rfl rfl) (wd (zk rfl) (zd ?_))))
  refine zF rfl (fun hc7=>?_) (fun hc7=>?_)
  ·replace H:=if_t hc7 H
   refine zu ?_
   refine zF rfl (fun hc8=>?_) (fun hc8=>?_)
   ·replace H:=if_t hc8 H
    refine zb (za (wd (zk rfl) (zd (zt ?_))))
    refine ⟨_,(zP (zg rfl)),?_⟩
    replace S:=S.arr [] []
    obtain rfl:=zbt H
    exact ⟨rfl,S⟩
   replace H:=if_f hc8 H
   refine zu (zb (za (wd (zk rfl) (zd (zt ?_)))))
   refine ⟨_,(zP (zg rfl)),?_⟩
   replace S:=S.arr [] []
   obtain rfl:=zbt H
   exact ⟨rfl,S⟩
  ·replace H:=if_f hc7 H
   refine zb (za (wd (zL rfl rfl) (wd (zk rfl) (zd ?_))))
   refine zF rfl (fun hc9=>?_) (fun hc9=>?_)
   ·replace H:=if_t hc9 H
    refine zu ?_
    refine zF rfl (fun hc10=>?_) (fun hc10=>?_)
    ·replace H:=if_t hc10 H
     refine zb (za (wd (zk rfl) (zd (zt ?_))))
     refine ⟨_,(zP (zg rfl)),?_⟩
     replace S:=S.arr [] []
     obtain rfl:=zbt H
     exact ⟨rfl,S⟩
    replace H:=if_f hc10 H
    refine zu (zb (za (wd (zk rfl) (zd (zt ?_)))))
    refine ⟨_,(zP (zg rfl)),?_⟩
    replace S:=S.arr [] []
    obtain rfl:=zbt H
    exact ⟨rfl,S⟩
   ·replace H:=if_f hc9 H
    refine zb (za (wd (zL rfl rfl) (wd (zk rfl) (zd ?_))))
    refine zF rfl (fun hc11=>?_) (fun hc11=>?_)
    ·replace H:=if_t hc11 H
     refine zu ?_
     refine zF rfl (fun hc12=>?_) (fun hc12=>?_)
     ·replace H:=if_t hc12 H
      refine zb (za (wd (zk rfl) (zd (zt ?_))))
      refine ⟨_,(zP (zg rfl)),?_⟩
      replace S:=S.arr [] []
      obtain rfl:=zbt H
      exact ⟨rfl,S⟩
     replace H:=if_f hc12 H
     refine zu (zb (za (wd (zk rfl) (zd (zt ?_)))))
     refine ⟨_,(zP (zg rfl)),?_⟩
     replace S:=S.arr [] []
     obtain rfl:=zbt H
     exact ⟨rfl,S⟩
    ·replace H:=if_f hc11 H
     refine za (wd (zL rfl rfl) (wd (zk rfl) (zd ?_)))
     refine zF rfl (fun hc13=>?_) (fun hc13=>?_)
     ·replace H:=if_t hc13 H
      refine zb (za (wd (zk rfl) (zd (zt ?_))))
      refine ⟨_,(zP (zg rfl)),?_⟩
      replace S:=S.arr [] []
      obtain rfl:=zbt H
      exact ⟨rfl,S⟩
     replace H:=if_f hc13 H
     refine zu (zb (za (wd (zk rfl) (zd (zt ?_)))))
     refine ⟨_,(zP (zg rfl)),?_⟩
     replace S:=S.arr [] []
     obtain rfl:=zbt H
     exact ⟨rfl,S⟩
theorem reduce_rules_16_st {a0:Tb} {a_0:Option Addr} {a1:PTerm} {s_1:SlV} (S:St A N w w [] [oT a_0 a0,zf s_1 a1.sub]) {r:PTerm × Int} (H:zcq.f a0 a1=some r) :
  Calls PP va #[.pointer a_0,.agg (tmC a1 s_1).toArray] w <| Rt fun v w'=>(∃ so0:SlV,v = .tuple #[.agg (tmC r.1 so0).toArray,.int .i64 r.2]∧St A N w w' [] [zf so0 r.1.sub]):=by
 unfold zcq.f at H
 refine zA (n:=10) Tryz.func128 rfl rfl zbr (zb (za ?_))
 refine zI rfl zbp fun b2 w1 hw1=>?_
 replace S:=S.new hw1
 refine zO xd zbp fun b4 w3 hw3=>?_
 replace S:=S.new hw3
 refine wd (zh rfl) (zd (zb (za (wd (ze zw rfl (o':=4) rfl) (wd (zl zr rfl ((S.blk 1).cell (Term.get_sub _))) ?_)))))
 obtain ⟨hi5,H⟩ := zU H
 refine wd (does_indexF zp rfl rfl (S.onZ 1) (zC hi5).1 (zC hi5).2) ?_
 obtain ⟨s6,hc7,S⟩ := S.viewTerm 1 (zC hi5)
 replace S:=S
 refine wd (ldC rfl hc7) ?_
 refine wsT rfl rfl (S.blk 0) fun w8 B hw8 zw8=>?_
 replace S:=S.store 0 B hw8
 refine wd (zh rfl) (zd (zt ?_))
 refine ⟨_,(xi (rtT rfl (S.blk 0)) (zg rfl)),?_⟩
 replace S:=S.arr [] [0]
 obtain rfl:=zbt H
 exact ⟨s6,rfl,S⟩
theorem reduce_known_1_gst {zem:Tb→PTerm→Option Bool} (zdO : ∀ {A:Nat→Prop} {N:Oth} {w:World} {a0:Tb} {a_0:Option Addr} {a1:PTerm} {s_1:SlV} (S:St A N w w [] [oT a_0 a0,zf s_1 a1.sub]) {r:Bool} (H:zem a0 a1=some r),Calls PP y0 #[.pointer a_0,.agg (tmC a1 s_1).toArray] w <| Rt fun v w'=>(v = .bool r∧St A N w w' [] [])) {A:Nat→Prop} {N:Oth} {w:World} {a0:PTerm} {s_0:SlV} {a1:Tb} {b_1:Nat} {a_1_1:Option Addr} (S:St A N w w [] [zf s_0 a0.sub,oB b_1 y4 [.pointer a_1_1],oT a_1_1 a1]) {r:Bool} (H:zcr.g zem a0 a1=some r) :
  Calls PP uR #[.agg (tmC a0 s_0).toArray,.pointer (some ⟨b_1,0,none⟩)] w <| Rt fun v w'=>(v = .bool r∧St A N w w' [] []):=by
 unfold zcr.g at H
 refine zA (n:=8) Tryz.func102 rfl rfl zbr (zb (za ?_))
 refine zI rfl zbp fun b2 w1 hw1=>?_
 replace S:=S.new hw1
 refine wd (zk rfl) (zd (zb (za (wd (zl xE rfl ((S.blkZ 1).cell rfl)) (wd (ldT rfl (S.blk 0)) ?_)))))
 obtain ⟨r3,er3,H⟩ := zq H
 obtain ⟨_,_,T,bk⟩ := S.calln 0 ((.z 2 rfl (.z 0 rfl .nil)))
 refine zB (zx ca_reduce_known) zbp (zdO (a1:=a0) T er3) ?_
 rintro _ w4 ⟨rfl,S2⟩
 replace S:=bk _ _ _ _ S2 rfl
 refine wd (xc rfl) (wd (zk rfl) (zd (zt ?_)))
 refine ⟨_,(zP (zg rfl)),?_⟩
 replace S:=S.arr [] []
 obtain rfl:=zbt H
 exact ⟨rfl,S⟩
theorem vg {zem:Tb→PTerm→Option Bool} (zdO : ∀ {A:Nat→Prop} {N:Oth} {w:World} {a0:Tb} {a_0:Option Addr} {a1:PTerm} {s_1:SlV} (S:St A N w w [] [oT a_0 a0,zf s_1 a1.sub]) {r:Bool} (H:zem a0 a1=some r),Calls PP y0 #[.pointer a_0,.agg (tmC a1 s_1).toArray] w <| Rt fun v w'=>(v = .bool r∧St A N w w' [] [])) {A:Nat→Prop} {N:Oth} {w:World} {a0:List PTerm} {s_0:SlV} {a1_0:Tb} {b_1:Nat} {a_1_1:Option Addr} (S:St A N w w [] [zf s_0 a0,oB b_1 y4 [.pointer a_1_1],oT a_1_1 a1_0]) {r:Int} (H:zcs.g zem a0 a1_0=some r) :
  Calls PP yn #[s_0.v,.func (.func uR) #[] #[.pointer (some ⟨b_1,0,none⟩)]] w <| Rt fun v w'=>(v = .int .i64 r∧St A N w w' [] []):=by
 unfold zcs.g at H
 refine zA (n:=19) Tryz.func162 rfl rfl zbr (zb (za (wd (zh rfl) (zd (zb (zb (za (wd (zN rfl) ?_))))))))
 refine wd (does_lenF zp rfl (S.onZ 0)) (wd (zi rfl) (zd ?_))
 obtain ⟨o1,e1,Ho1⟩ := zq H
 clear H
 refine xr ([4,5] ++ rg 8 11) (fun fr W => ∃ s1:Unit,o1 = .inl s1∧St A N w W [] [zf s_0 a0,oB b_1 y4 [.pointer a_1_1],oT a_1_1 a1_0]) ?_ ?_
 ·refine zK ?_
  refine xy (α:=Nat × Int × Unit) ([4,5] ++ rg 8 11) (fun x fr W=>(x.1:Int)=(a0.length:Int) - x.2.1∧0 ≤ x.2.1∧forN (fun i s=>zcs.b0 zem a0 a1_0 i) x.1 x.2.1 x.2.2=some o1∧fr 8 = .int .i64 x.2.1∧St A N w W [] [zf s_0 a0,oB b_1 y4 [.pointer a_1_1],oT a_1_1 a1_0]) (fun x=>x.1) (((a0.length:Int) - 0).toNat,0,()) ⟨(by dsimp only; have hle:=Int.natCast_nonneg (a0.length); omega),(Int.le_refl _),(by dsimp only; exact e1),rfl,S⟩ ?_
  rintro ⟨m1,i1,_⟩ g1 u1 ⟨hm1,hl1,e1,q1_i,S⟩
  try dsimp only at hm1
  try dsimp only at hl1
  try dsimp only at e1
  try dsimp only at S
  try dsimp only at q1_i
  refine zb (za (wd (xn q1_i rfl) (zd (zb ?_))))
  refine zF rfl (fun hc2=>?_) (fun hc2=>?_)
  rotate_left
  ·refine xG ?_
   have hge:(a0.length:Int) ≤ i1:=Int.not_lt.1 (of_decide_eq_false hc2)
   obtain rfl:m1=0:=by omega
   replace e1:=zax e1
   exact ⟨rfl,df,(),e1,S⟩
  refine zu ?_
  have hlt1:i1 < (a0.length:Int):=of_decide_eq_true hc2
  obtain ⟨m1,rfl⟩ : ∃ m,m1=m + 1:=⟨m1 - 1,by omega⟩
  obtain ⟨q1,H,e1⟩ := zay e1
  unfold zcs.b0 at H
  try dsimp only at H
  have hb1:=(S.lenFZ 0)
  refine zb ?_
  refine zK (zb (za (wd (zi q1_i) (wd (zh rfl) (zd (zb (za ?_)))))))
  refine wd (js rfl) (wd (zN rfl) (wd (zi rfl) (wd (does_indexF zp rfl rfl (S.onZ 0) (And.intro (show 0 ≤ i1 by omega) (show i1 < (a0.length:Int) from hlt1)).1 (And.intro (show 0 ≤ i1 by omega) (show i1 < (a0.length:Int) from hlt1)).2) ?_)))
  obtain ⟨s4,hc5,S⟩ := S.viewTerm 0 (And.intro (show 0 ≤ i1 by omega) (show i1 < (a0.length:Int) from hlt1))
  replace S:=S
  refine wd (ldC rfl hc5) ?_
  obtain ⟨r6,er6,H⟩ := zq H
  obtain ⟨_,_,T,bk⟩ := S.calln 0 ((.z 0 rfl (.z 2 rfl (.z 3 rfl .nil))))
  refine zB (yT ca_reduce_known_1 rfl) zbp (reduce_known_1_gst zdO (a0:=(at_ PTerm.z a0 i1)) T er6) ?_
  rintro _ w7 ⟨rfl,S2⟩
  replace S:=bk _ _ _ _ S2 rfl
  refine zd ?_
  refine zF rfl (fun hc9=>?_) (fun hc9=>?_)
  ·replace H:=if_t hc9 H
   refine zb (za (wd (zi rfl) (wd (zh rfl) (zd (zt ?_)))))
   refine ⟨_,(zP (zg rfl)),?_⟩
   replace S:=S.arr [] []
   obtain rfl:=zbt H
   obtain rfl:=e1
   obtain rfl:=ue Ho1
   exact ⟨rfl,S⟩
  replace H:=if_f hc9 H
  refine zu (za (wd (xA q1_i rfl (c:=i1 + 1) rfl zbq zbq) (wd (zi rfl) (zd ?_))))
  replace S:=S.arr [] [1,2,3]
  obtain rfl:=zbt H
  exact ⟨rfl,df,(m1,i1 + 1,()),⟨(by dsimp only; omega),(by dsimp only; omega),e1,rfl,S⟩,by dsimp only; omega⟩
 rintro g10 u11 ⟨s1,rfl,S⟩
 have H:=Ho1
 dsimp only [aft] at H
 refine zb (za (wd (zh rfl) (zd (zt ?_))))
 refine ⟨_,(zP (zg rfl)),?_⟩
 replace S:=S.arr [] []
 obtain rfl:=zbt H
 exact ⟨rfl,S⟩
theorem yZ {zem:Tb→PTerm→Option Bool} (zdO : ∀ {A:Nat→Prop} {N:Oth} {w:World} {a0:Tb} {a_0:Option Addr} {a1:PTerm} {s_1:SlV} (S:St A N w w [] [oT a_0 a0,zf s_1 a1.sub]) {r:Bool} (H:zem a0 a1=some r),Calls PP y0 #[.pointer a_0,.agg (tmC a1 s_1).toArray] w <| Rt fun v w'=>(v = .bool r∧St A N w w' [] [])) {A:Nat→Prop} {N:Oth} {w:World} {a0:List PTerm} {s_0:SlV} {a1_0:Tb} {b_1:Nat} {a_1_1:Option Addr} (S:St A N w w [] [zf s_0 a0,oB b_1 y4 [.pointer a_1_1],oT a_1_1 a1_0]) {r:Bool} (H:zct.g zem a0 a1_0=some r) :
  Calls PP x9 #[s_0.v,.func (.func uR) #[] #[.pointer (some ⟨b_1,0,none⟩)]] w <| Rt fun v w'=>(v = .bool r∧St A N w w' [] []):=by
 unfold zct.g at H
 refine zA (n:=9) Tryz.func101 rfl rfl zbr (zb (za (wd (zk rfl) (zd (zb (za (wd (zN rfl) ?_)))))))
 refine wd (js rfl) ?_
 obtain ⟨r1,er1,H⟩ := zq H
 obtain ⟨_,_,T,bk⟩ := S.calln 0 ((.z 0 rfl (.z 1 rfl (.z 2 rfl .nil))))
 refine zB (zx vb) zbp (vg zdO T er1) ?_
 rintro _ w2 ⟨rfl,S2⟩
 replace S:=bk _ _ _ _ S2 rfl
 refine wd (vX rfl rfl) (wd (zk rfl) (zd (zt ?_)))
 refine ⟨_,(zP (zg rfl)),?_⟩
 replace S:=S.arr [] []
 obtain rfl:=zbt H
 exact ⟨rfl,S⟩
theorem reduce_known_gst {zem:Tb→PTerm→Option Bool} (zdO : ∀ {A:Nat→Prop} {N:Oth} {w:World} {a0:Tb} {a_0:Option Addr} {a1:PTerm} {s_1:SlV} (S:St A N w w [] [oT a_0 a0,zf s_1 a1.sub]) {r:Bool} (H:zem a0 a1=some r),Calls PP y0 #[.pointer a_0,.agg (tmC a1 s_1).toArray] w <| Rt fun v w'=>(v = .bool r∧St A N w w' [] [])) {A:Nat→Prop} {N:Oth} {w:World} {a0:Tb} {a_0:Option Addr} {a1:PTerm} {s_1:SlV} (S:St A N w w [] [oT a_0 a0,zf s_1 a1.sub]) {r:Bool} (H:zcu.g zem a0 a1=some r) :
  Calls PP y0 #[.pointer a_0,.agg (tmC a1 s_1).toArray] w <| Rt fun v w'=>(v = .bool r∧St A N w w' [] []):=by
 unfold zcu.g at H
 refine zA (n:=20) Tryz.func67 rfl rfl zbr (zb (za ?_))
 refine wl_box_p rfl zbp fun b2 w1 hw1=>?_
 replace S:=S.new hw1
 refine zI rfl zbp fun b4 w3 hw3=>?_
 replace S:=S.new hw3
 refine wd (zk rfl) (zd (zb (zb ?_)))
 refine xT 8 (Ext w3) hmix zbs zbs (Ext.drawn _) (zE (fun v K=>ze zV rfl (o':=0) rfl) (zE (fun v K=>zl zM rfl (((S.ext K).blk 0).cell (Term.get_kind _))) (zE (fun v K=>zL rfl rfl) (zE (fun v K=>zy rfl) (yi (j:=3) (pol:=true) rfl rfl rfl (fun hg v K=>ze x0 rfl (o':=3) rfl) ?_)))))
 refine yi (j:=3) (pol:=true) rfl rfl rfl (fun hg v K=>zl xK (zn hg) (((S.ext K).blk 0).cell (Term.get_form _))) (yi (j:=3) (pol:=true) rfl rfl rfl (fun hg v K=>zl xE rfl (((S.ext K).blk 1).cell rfl)) ?_)
 obtain ⟨r5,er5,H⟩ := zq H
 refine wq_gcall (j:=3) (pol:=true) rfl rfl rfl (fun hg v=>zJ kH (zQ (zn hg) rfl)) (fun hg v K=>(have ⟨M,SS⟩ := (S.ext K).lend ((.z 0 rfl .nil)); quiet (kM SS (if_t (by simpa using hg) er5)) (fun v w' h=>⟨h.1,_,_,h.2⟩))) (fun v v' K h=>K.thenExt h) ?_
 refine yE fun w6 K=>?_
 replace S:=S.ext K
 clear K
 refine wg (fun hg=>vX (zn hg) (zn hg)) (wd (zW rfl (fun hp=>(zn (xe hp)))) (zd ?_))
 refine zF rfl (fun hc7=>?_) (fun hc7=>?_)
 ·replace H:=if_t hc7 H
  refine zb (za (wd (zk rfl) (zd (zt ?_))))
  refine ⟨_,(zP (zg rfl)),?_⟩
  replace S:=S.arr [] []
  obtain rfl:=zbt H
  exact ⟨rfl,S⟩
 replace H:=if_f hc7 H
 refine zu (zb (za (wd (ze zw rfl (o':=4) rfl) (wd (zl zr rfl ((S.blk 0).cell (Term.get_sub _))) (wd (does_funcl) ?_)))))
 obtain ⟨r8,er8,H⟩ := zq H
 obtain ⟨_,_,T,bk⟩ := S.calln 0 ((.z 1 rfl (.o 1 rfl (.z 0 rfl .nil))))
 refine zB (zx yQ) zbp (yZ zdO T er8) ?_
 rintro _ w9 ⟨rfl,S2⟩
 replace S:=bk _ _ _ _ S2 rfl
 refine wd (xc rfl) (wd (zk rfl) (zd (zt ?_)))
 refine ⟨_,(zP (zg rfl)),?_⟩
 replace S:=S.arr [] []
 obtain rfl:=zbt H
 exact ⟨rfl,S⟩
theorem reduce_known_st {a0:Tb} {a_0:Option Addr} {a1:PTerm} {s_1:SlV} (S:St A N w w [] [oT a_0 a0,zf s_1 a1.sub]) {k:Nat} {r:Bool} (H:zcu.f k a0 a1=some r) :
  Calls PP y0 #[.pointer a_0,.agg (tmC a1 s_1).toArray] w <| Rt fun v w'=>(v = .bool r∧St A N w w' [] []):=by
 have main : ∀ (k:Nat) {A:Nat→Prop} {N:Oth} {w:World} {a0:Tb} {a_0:Option Addr} {a1:PTerm} {s_1:SlV} (S:St A N w w [] [oT a_0 a0,zf s_1 a1.sub]) {r:Bool} (H:zcu.f k a0 a1=some r),Calls PP y0 #[.pointer a_0,.agg (tmC a1 s_1).toArray] w <| Rt fun v w'=>(v = .bool r∧St A N w w' [] []):=by
  intro k
  induction k with
  | zero=>intro A N w a0 a_0 a1 s_1 S r H; cases H
  | succ k ih=>intro A N w a0 a_0 a1 s_1 S r H; exact reduce_known_gst ih S H
 exact main k S H
theorem reduce_rules_st  (S:St A N w w [] [oPw]) {r:Unit} (H:zcv.f  = some r) :
  Calls PP F_reduce_rules #[] w <| Rt fun v w'=>(∃ so0:SlV,v=so0.v∧St A N w w' [oS ji 2 RRule.C so0 zbn] []):=by
 unfold zcv.f at H
 refine zA (n:=10) Tryz.func68 rfl rfl zbr (zb (za (wd (xN) (zd (zb (za (wd (Does.to (v':=Value.agg (RRule.C (uV 0)).toArray) (xa (vs:=[(0,.func (.func vZ) #[] #[]),(1,.func (.func vq) #[] #[])]) jL (xR rfl (xR rfl rfl)) (Bld.one rfl rfl (by rw [RRule.len]; decide) (RRule.set_fits _ (.mk (.func vZ) #[] #[])) (Bld.one rfl rfl (by rw [RRule.len]; decide) (RRule.set_does _ (.mk (.func vq) #[] #[])) Bld.nil))) rfl) ?_)))))))
 refine wd (Does.to (v':=Value.agg (RRule.C (uV 1)).toArray) (xa (vs:=[(0,.func (.func v6) #[] #[]),(1,.func (.func vr) #[] #[])]) jL (xR rfl (xR rfl rfl)) (Bld.one rfl rfl (by rw [RRule.len]; decide) (RRule.set_fits _ (.mk (.func v6) #[] #[])) (Bld.one rfl rfl (by rw [RRule.len]; decide) (RRule.set_does _ (.mk (.func vr) #[] #[])) Bld.nil))) rfl) (wd (Does.to (v':=Value.agg (RRule.C (uV 2)).toArray) (xa (vs:=[(0,.func (.func v7) #[] #[]),(1,.func (.func vt) #[] #[])]) jL (xR rfl (xR rfl rfl)) (Bld.one rfl rfl (by rw [RRule.len]; decide) (RRule.set_fits _ (.mk (.func v7) #[] #[])) (Bld.one rfl rfl (by rw [RRule.len]; decide) (RRule.set_does _ (.mk (.func vt) #[] #[])) Bld.nil))) rfl) (wd (Does.to (v':=Value.agg (RRule.C (uV 3)).toArray) (xa (vs:=[(0,.func (.func v8) #[] #[]),(1,.func (.func vu) #[] #[])]) jL (xR rfl (xR rfl rfl)) (Bld.one rfl rfl (by rw [RRule.len]; decide) (RRule.set_fits _ (.mk (.func v8) #[] #[])) (Bld.one rfl rfl (by rw [RRule.len]; decide) (RRule.set_does _ (.mk (.func vu) #[] #[])) Bld.nil))) rfl) (wd (Does.to (v':=Value.agg (RRule.C (uV 4)).toArray) (xa (vs:=[(0,.func (.func ua) #[] #[]),(1,.func (.func y7) #[] #[])]) jL (xR rfl (xR rfl rfl)) (Bld.one rfl rfl (by rw [RRule.len]; decide) (RRule.set_fits _ (.mk (.func ua) #[] #[])) (Bld.one rfl rfl (by rw [RRule.len]; decide) (RRule.set_does _ (.mk (.func y7) #[] #[])) Bld.nil))) rfl) (wd (Does.to (v':=Value.agg (RRule.C (uV 5)).toArray) (xa (vs:=[(0,.func (.func vE) #[] #[]),(1,.func (.func y8) #[] #[])]) jL (xR rfl (xR rfl rfl)) (Bld.one rfl rfl (by rw [RRule.len]; decide) (RRule.set_fits _ (.mk (.func vE) #[] #[])) (Bld.one rfl rfl (by rw [RRule.len]; decide) (RRule.set_does _ (.mk (.func y8) #[] #[])) Bld.nil))) rfl) (wd (Does.to (v':=Value.agg (RRule.C (uV 6)).toArray) (xa (vs:=[(0,.func (.func vF) #[] #[]),(1,.func (.func y9) #[] #[])]) jL (xR rfl (xR rfl rfl)) (Bld.one rfl rfl (by rw [RRule.len]; decide) (RRule.set_fits _ (.mk (.func vF) #[] #[])) (Bld.one rfl rfl (by rw [RRule.len]; decide) (RRule.set_does _ (.mk (.func y9) #[] #[])) Bld.nil))) rfl) ?_)))))
 refine wd (Does.to (v':=Value.agg (RRule.C (uV 7)).toArray) (xa (vs:=[(0,.func (.func vG) #[] #[]),(1,.func (.func va) #[] #[])]) jL (xR rfl (xR rfl rfl)) (Bld.one rfl rfl (by rw [RRule.len]; decide) (RRule.set_fits _ (.mk (.func vG) #[] #[])) (Bld.one rfl rfl (by rw [RRule.len]; decide) (RRule.set_does _ (.mk (.func va) #[] #[])) Bld.nil))) rfl) ?_
 refine yb (C:=RRule.C) (l:=zbn) (vs:=[.agg (RRule.C (uV 0)).toArray,.agg (RRule.C (uV 1)).toArray,.agg (RRule.C (uV 2)).toArray,.agg (RRule.C (uV 3)).toArray,.agg (RRule.C (uV 4)).toArray,.agg (RRule.C (uV 5)).toArray,.agg (RRule.C (uV 6)).toArray,.agg (RRule.C (uV 7)).toArray]) x4 el_RRule.zero rfl rfl (fun a _=>RRule.len a) zbp rfl zbp fun b2 w1 s3 hBw1 hw1=>?_
 replace S:=S.lit hBw1 hw1 zbp
 refine wd (ya rfl) (zd (zt ?_))
 refine ⟨_,(zP (zg rfl)),?_⟩
 replace S:=S.arr [0] []
 obtain rfl:=zbt H
 exact ⟨s3,rfl,S⟩
theorem kX {a0:Tb} {a_0:Option Addr} {a1:PTerm} {s_1:SlV} (S:St A N w w [] [oT a_0 a0,zf s_1 a1.sub,oPw]) {k:Nat} {r:Bool × Int} (H:zcw.f k a0 a1=some r) :
  Calls PP F_reduce_begun #[.pointer a_0,.agg (tmC a1 s_1).toArray] w <| Rt fun v w'=>(∃ ao0:Option Addr,v = .tuple #[.pointer ao0,.int .i64 r.2]∧St A N w w' [] [oMa ao0 a_0 r.1]):=by
 unfold zcw.f at H
 refine zA (n:=23) Tryz.func38 rfl rfl zbr ?_
 refine zb (za ?_)
 refine zI rfl zbp fun b2 w1 hw1=>?_
 replace S:St A N w w1 [oB b2 zj (tmC a1 s_1)] [oT a_0 a0,zf s_1 a1.sub,oPw]:=S.new hw1
 refine wd (xk rfl) ?_
 replace S:St A N w w1 [oB b2 zj (tmC a1 s_1)] [oMa none a_0 false,oT a_0 a0,zf s_1 a1.sub,oPw]:=S.nil_oMaZ
 refine wd (zh rfl) ?_
 refine zd ?_
 refine zb (zb (za ?_))
 refine wd (zD rfl) ?_
 obtain ⟨r3,er3,H⟩ := zq H
 obtain ⟨_,_,T,bk⟩ := S.calln 0 ((.z 1 rfl .nil))
 refine zB (zx ca_formula_Table_Copy) zbp (formula_Table_Copy_st T er3) ?_
 rintro _ w4 ⟨a6,rfl,hnilw4,S2⟩
 replace S:St A N w w4 [oT a6 r3,oB b2 zj (tmC a1 s_1)] [oMa none a_0 false,oT a_0 a0,zf s_1 a1.sub,oPw]:=bk _ _ _ _ S2 rfl
 refine wd (does_isnilp vA rfl rfl hnilw4) ?_
 refine zd ?_
 refine zF rfl (fun hc7=>?_) (fun hc7=>?_)
 ·replace H:=if_t hc7 H
  refine zb (za ?_)
  refine wd (xk rfl) ?_
  replace S:St A N w w4 [oT a6 r3,oB b2 zj (tmC a1 s_1)] [oMa none a_0 false,oMa none a_0 false,oT a_0 a0,zf s_1 a1.sub,oPw]:=S.nil_oMaZ
  refine wd (zh rfl) ?_
  refine zd ?_
  refine zt ?_
  refine ⟨_,(xi (zg rfl) (zg rfl)),?_⟩
  replace S:St A N w w4 [] [oMa none a_0 false]:=S.arr [] [0]
  obtain rfl:=zbt H
  exact ⟨none,rfl,S⟩
 replace H:=if_f hc7 H
 refine zu ?_
 refine zb (zb (za ?_))
 refine wd (ldT rfl (S.blk 1)) ?_
 obtain ⟨r8,er8,H⟩ := zq H
 obtain ⟨_,_,T,bk⟩ := S.calln 0 ((.z 2 rfl .nil))
 refine zB (zx jf) zbp (jh (a0:=a1) T er8) ?_
 rintro _ w9 ⟨rfl,S2⟩
 replace S:St A N w w9 [oT a6 r3,oB b2 zj (tmC a1 s_1)] [oMa none a_0 false,oT a_0 a0,zf s_1 a1.sub,oPw]:=bk _ _ _ _ S2 rfl
 refine wd (zh rfl) ?_
 refine zd ?_
 refine zb (za ?_)
 refine wd (zi rfl) ?_
 refine wd (xp rfl rfl) ?_
 refine zd ?_
 refine zF rfl (fun hc11=>?_) (fun hc11=>?_)
 ·replace H:=if_t hc11 H
  refine zb (za ?_)
  refine wd (zi rfl) ?_
  refine wd (xk rfl) ?_
  replace S:St A N w w9 [oT a6 r3,oB b2 zj (tmC a1 s_1)] [oMa none a_0 false,oMa none a_0 false,oT a_0 a0,zf s_1 a1.sub,oPw]:=S.nil_oMaZ
  refine wd (zh rfl) ?_
  refine zd ?_
  refine zt ?_
  refine ⟨_,(xi (zg rfl) (zg rfl)),?_⟩
  replace S:St A N w w9 [] [oMa none a_0 false]:=S.arr [] [0]
  obtain rfl:=zbt H
  exact ⟨none,rfl,S⟩
 replace H:=if_f hc11 H
 refine zu ?_
 refine zb (zb (za ?_))
 refine wd (zD rfl) ?_
 refine wd (ldT rfl (S.blk 1)) ?_
 obtain ⟨r12,er12,H⟩ := zq H
 obtain ⟨_,_,T,bk⟩ := S.calln 0 ((.z 1 rfl (.z 2 rfl .nil)))
 refine zB (zx ca_reduce_known) zbp (reduce_known_st (a1:=a1) T er12) ?_
 rintro _ w13 ⟨rfl,S2⟩
 replace S:St A N w w13 [oT a6 r3,oB b2 zj (tmC a1 s_1)] [oMa none a_0 false,oT a_0 a0,zf s_1 a1.sub,oPw]:=bk _ _ _ _ S2 rfl
 refine wd (xc rfl) ?_
 refine zd ?_
 refine zF rfl (fun hc15=>?_) (fun hc15=>?_)
 ·replace H:=if_t hc15 H
  refine zb (za ?_)
  refine wd (xk rfl) ?_
  replace S:St A N w w13 [oT a6 r3,oB b2 zj (tmC a1 s_1)] [oMa none a_0 false,oMa none a_0 false,oT a_0 a0,zf s_1 a1.sub,oPw]:=S.nil_oMaZ
  refine wd (zh rfl) ?_
  refine zd ?_
  refine zt ?_
  refine ⟨_,(xi (zg rfl) (zg rfl)),?_⟩
  replace S:St A N w w13 [] [oMa none a_0 false]:=S.arr [] [0]
  obtain rfl:=zbt H
  exact ⟨none,rfl,S⟩
 replace H:=if_f hc15 H
 refine zu ?_
 refine zb (za ?_)
 refine wd (zD rfl) ?_
 obtain ⟨r16,er16,H⟩ := zq H
 obtain ⟨_,_,T,bk⟩ := S.calln 0 ((.z 3 rfl .nil))
 refine zB (zx ca_reduce_rules) zbp (reduce_rules_st T er16) ?_
 rintro _ w17 ⟨s19,rfl,S2⟩
 replace S:St A N w w17 [oS ji 2 RRule.C s19 zbn,oT a6 r3,oB b2 zj (tmC a1 s_1)] [oMa none a_0 false,oT a_0 a0,zf s_1 a1.sub,oPw]:=bk _ _ _ _ S2 rfl
 refine wd (Does.to (v' := .agg (Machine.C (⟨a_0,s19⟩ : Machine)).toArray) (xa (vs:=[(0,.pointer a_0),(1,s19.v)]) bu_Machine (xR rfl (xR rfl rfl)) (Bld.one rfl rfl (by rw [Machine.len]; decide) (Machine.set_t _ _) (Bld.one rfl (SlV.one _ _ rfl) (by rw [Machine.len]; decide) (Machine.set_rules _ _) Bld.nil))) rfl) ?_
 refine zI rfl zbp fun b21 w20 hw20=>?_
 replace S:St A N w w20 [oB b21 j9 (Machine.C (⟨a_0,s19⟩ : Machine)),oS ji 2 RRule.C s19 zbn,oT a6 r3,oB b2 zj (tmC a1 s_1)] [oMa none a_0 false,oT a_0 a0,zf s_1 a1.sub,oPw]:=S.new hw20
 replace S:=S.front 1
 replace S:=S.front 1
 replace S:St A N w w20 [oMa (some ⟨b21,0,none⟩) a_0 true,oT a6 r3,oB b2 zj (tmC a1 s_1)] [oMa none a_0 false,oT a_0 a0,zf s_1 a1.sub,oPw]:=S.shut_oMa rfl
 replace S:St A N w w20 [oT a6 r3,oB b2 zj (tmC a1 s_1)] [oMa (some ⟨b21,0,none⟩) a_0 true,oMa none a_0 false,oT a_0 a0,zf s_1 a1.sub,oPw]:=S.frzO 0
 refine wd (xk rfl) ?_
 refine wd (zh rfl) ?_
 refine zd ?_
 refine zt ?_
 refine ⟨_,(xi (zg rfl) (zg rfl)),?_⟩
 replace S:St A N w w20 [] [oMa (some ⟨b21,0,none⟩) a_0 true]:=S.arr [] [0]
 obtain rfl:=zbt H
 exact ⟨(some ⟨b21,0,none⟩),rfl,S⟩
end
section
open Go.RowKit
namespace Gw
variable {Z:List OA}
theorem tl10 {a0 a1 a2 a3 a4 a5 a6 a7 a8 a9:OA} : ∀ z ∈ Z,z ∈ a0 :: a1 :: a2 :: a3 :: a4 :: a5 :: a6 :: a7 :: a8 :: a9 :: Z:=fun z q => .tail _ (.tail _ (.tail _ (.tail _ (.tail _ (.tail _ (.tail _ (.tail _ (.tail _ (.tail _ (q))))))))))
theorem tl11 {a0 a1 a2 a3 a4 a5 a6 a7 a8 a9 a10:OA} : ∀ z ∈ Z,z ∈ a0 :: a1 :: a2 :: a3 :: a4 :: a5 :: a6 :: a7 :: a8 :: a9 :: a10 :: Z:=fun z q => .tail _ (.tail _ (.tail _ (.tail _ (.tail _ (.tail _ (.tail _ (.tail _ (.tail _ (.tail _ (.tail _ (q)))))))))))
end Gw
end
section
open Gw
theorem term_clone_nil {zeD:PTerm→Option PTerm} {a0 r:PTerm} (h:a0.sub=[]) (H:zcB.g zeD a0=some r):some a0=some r:=by
 unfold zcB.g at H
 rw [h] at H
 cases a0
 simp only [PTerm.sub] at h
 subst h
 exact H
end
section
open Gw Go.RowKit
set_option maxHeartbeats 4000000
set_option maxRecDepth 20000
variable {A:Nat→Prop} {N:Oth} {w:World}
theorem zaV {a0:PTerm} {s_0:SlV} {a1:Int} (S:St A N w w [] [zf s_0 a0.sub]) {r:ByteArray} (H:zcx.f a0 a1=some r) :
  Calls PP F_term_binds #[.agg (tmC a0 s_0).toArray,.int .i64 a1] w <| Rt fun v w'=>(v = .string r∧St A N w w' [] []):=by
 unfold zcx.f at H
 refine zA (n:=35) Tryz.func84 rfl rfl zbr (zb (za ?_))
 refine zI rfl zbp fun b2 w1 hw1=>?_
 replace S:=S.new hw1
 refine wd (xV rfl) (zd (zb ?_))
 refine zK (zb (za (wd (ze zV rfl (o':=0) rfl) (wd (zl zM rfl ((S.blk 0).cell (Term.get_kind _))) (wd (zL rfl rfl) (wd (zy rfl) ?_))))))
 refine wg (fun hg=>zi rfl) ?_
 refine wg (fun hg=>zL (zn hg) rfl) ?_
 refine wg (fun hg=>zy (zn hg)) (xl (j:=6) (pol:=true) rfl rfl rfl zbp (fun hg=>ze zV rfl (o':=0) rfl) zbp (xl (j:=6) (pol:=true) rfl rfl rfl zbp (fun hg=>zl zM (zn hg) ((S.blk 0).cell (Term.get_kind _))) zbp (xl (j:=6) (pol:=true) rfl rfl rfl zbp (fun hg=>zL (zn hg) rfl) zbp (xl (j:=6) (pol:=true) rfl rfl rfl zbp (fun hg=>zy (zn hg)) zbp (xl (j:=10) (pol:=false) rfl rfl rfl zbp (fun hg=>ze zV rfl (o':=0) rfl) zbp ?_)))))
 refine xl (j:=10) (pol:=false) rfl rfl rfl zbp (fun hg=>zl zM (zn hg) ((S.blk 0).cell (Term.get_kind _))) zbp (xl (j:=10) (pol:=false) rfl rfl rfl zbp (fun hg=>zL (zn hg) rfl) zbp (xl (j:=6) (pol:=true) rfl rfl rfl zbp (fun hg=>xq (zn hg) (fun hp=>(zn (zaJ hg hp)))) zbp ?_))
 refine wg (fun hg=>zW (zn hg) (fun hp=>(zn (zaJ hg hp)))) (wd (xq rfl (fun hp=>(zn (xe hp)))) (wd (zk rfl) (zd ?_)))
 refine zF rfl (fun hc3=>?_) (fun hc3=>?_)
 ·replace H:=if_t hc3 H
  refine zb (za (wd (ze xz rfl (o':=1) rfl) (wd (zl xf rfl ((S.blk 0).cell (Term.get_name _))) (wd (xV rfl) (zd (zt ?_))))))
  refine ⟨_,(zP (zg rfl)),?_⟩
  replace S:=S.arr [] []
  obtain rfl:=zbt H
  exact ⟨rfl,S⟩
 replace H:=if_f hc3 H
 refine zb (za (wd (ze zV rfl (o':=0) rfl) (wd (zl zM rfl ((S.blk 0).cell (Term.get_kind _))) (wd (zL rfl rfl) (wd (zy rfl) ?_)))))
 refine wg (fun hg=>zi rfl) ?_
 refine wg (fun hg=>zL (zn hg) rfl) (wd (zW rfl (fun hp=>(zn (xe hp)))) (wd (zk rfl) (zd ?_)))
 refine zF rfl (fun hc4=>?_) (fun hc4=>?_)
 ·replace H:=if_t hc4 H
  refine zb (za (wd (ze yr rfl (o':=2) rfl) (wd (zl xf rfl ((S.blk 0).cell (Term.get_other _))) (wd (xV rfl) (zd (zt ?_))))))
  refine ⟨_,(zP (zg rfl)),?_⟩
  replace S:=S.arr [] []
  obtain rfl:=zbt H
  exact ⟨rfl,S⟩
 replace H:=if_f hc4 H
 refine zu (zb (za (wd (xV rfl) (zd (zt ?_)))))
 refine ⟨_,(zP (zg rfl)),?_⟩
 replace S:=S.arr [] []
 obtain rfl:=zbt H
 exact ⟨rfl,S⟩
theorem term_grown_gst {zeF:PTerm→ByteArray→Int→Int→Option (Int × Int)} (zeh : ∀ {A:Nat→Prop} {N:Oth} {w:World} {a0:PTerm} {s_0:SlV} {a1:ByteArray} {a2:Int} {a3:Int} (S:St A N w w [] [zf s_0 a0.sub]) {r:Int × Int} (H:zeF a0 a1 a2 a3=some r),Calls PP jH #[.agg (tmC a0 s_0).toArray,.string a1,.int .i64 a2,.int .i64 a3] w <| Rt fun v w'=>(v = .tuple #[.int .i64 r.1,.int .i64 r.2]∧St A N w w' [] [])) {A:Nat→Prop} {N:Oth} {w:World} {a0:PTerm} {s_0:SlV} {a1:ByteArray} {a2:Int} {a3:Int} (S:St A N w w [] [zf s_0 a0.sub]) {k:Nat} {r:Int × Int} (H:zcy.g zeF k a0 a1 a2 a3=some r) :
  Calls PP jH #[.agg (tmC a0 s_0).toArray,.string a1,.int .i64 a2,.int .i64 a3] w <| Rt fun v w'=>(v = .tuple #[.int .i64 r.1,.int .i64 r.2]∧St A N w w' [] []):=by
 unfold zcy.g at H
 refine zA (n:=60) Tryz.func164 rfl rfl zbr (zb (za ?_))
 refine zI rfl zbp fun b2 w1 hw1=>?_
 replace S:=S.new hw1
 refine wd (zh rfl) (wd (zh rfl) (zd (zb (zb (za (wd (ze zV rfl (o':=0) rfl) (wd (zl zM rfl ((S.blk 0).cell (Term.get_kind _))) ?_)))))))
 refine wd (zL rfl rfl) (zd ?_)
 refine zF rfl (fun hc3=>?_) (fun hc3=>?_)
 ·replace H:=if_t hc3 H
  refine zb (zb (za (wd (ze xz rfl (o':=1) rfl) (wd (zl xf rfl ((S.blk 0).cell (Term.get_name _))) (wd (zT rfl) (wd (yf rfl rfl) (zd ?_)))))))
  refine zF rfl (fun hc4=>?_) (fun hc4=>?_)
  ·replace H:=if_t hc4 H
   refine zb (za (wd (zi rfl) (wd (zi rfl) (wd (zh rfl) (wd (zh rfl) (zd (zt ?_)))))))
   refine ⟨_,(xi (zg rfl) (zg rfl)),?_⟩
   replace S:=S.arr [] []
   obtain rfl:=zbt H
   exact ⟨rfl,S⟩
  replace H:=if_f hc4 H
  refine zu (zb (za (wd (zh rfl) (wd (zh rfl) (zd (zt ?_))))))
  refine ⟨_,(xi (zg rfl) (zg rfl)),?_⟩
  replace S:=S.arr [] []
  obtain rfl:=zbt H
  exact ⟨rfl,S⟩
 replace H:=if_f hc3 H
 refine zu (zb (za (wd (zh rfl) (wd (zh rfl) (zd (zb (zb (za ?_))))))))
 refine wd (ze zw rfl (o':=4) rfl) (wd (zl zr rfl ((S.blk 0).cell (Term.get_sub _))) (wd (does_lenF zp rfl (S.onZ 0)) (wd (zi rfl) (zd ?_))))
 obtain ⟨o5,e5,Ho5⟩ := zq H
 clear H
 refine xr ([10,11,12,13,14,15] ++ rg 28 29) (fun fr W=>fr 10 = .int .i64 o5.1∧fr 11 = .int .i64 o5.2∧St A N w W [oB b2 zj (tmC a0 s_0)] [zf s_0 a0.sub]) ?_ ?_
 ·refine zK ?_
  refine xy (α:=Nat × Int × (Int × Int)) ([10,11,12,13,14,15] ++ rg 28 29) (fun x fr W=>(x.1:Int)=(a0.sub.length:Int) - x.2.1∧0 ≤ x.2.1∧forS (fun i s=>zcy.b0 a0 k a1 zeF a2 a3 i s.1 s.2) x.1 x.2.1 x.2.2=some o5∧fr 28 = .int .i64 x.2.1∧fr 10 = .int .i64 (x.2.2.1)∧fr 11 = .int .i64 (x.2.2.2)∧St A N w W [oB b2 zj (tmC a0 s_0)] [zf s_0 a0.sub]) (fun x=>x.1) (((a0.sub.length:Int) - 0).toNat,0,(1,0)) ⟨(by dsimp only; have hle:=Int.natCast_nonneg (a0.sub.length); omega),(Int.le_refl _),(by dsimp only; exact e5),rfl,rfl,rfl,S⟩ ?_
  rintro ⟨m5,i5,⟨x5_0,x5_1⟩⟩ g5 u5 ⟨hm5,hl5,e5,q5_i,q5_10,q5_11,S⟩
  try dsimp only at hm5
  try dsimp only at hl5
  try dsimp only at e5
  try dsimp only at S
  try dsimp only at q5_i
  try dsimp only at q5_10
  try dsimp only at q5_11
  refine zb (za (wd (xn q5_i rfl) (zd (zb ?_))))
  refine zF rfl (fun hc6=>?_) (fun hc6=>?_)
  rotate_left
  ·refine xG ?_
   have hge:(a0.sub.length:Int) ≤ i5:=Int.not_lt.1 (of_decide_eq_false hc6)
   obtain rfl:m5=0:=by omega
   replace e5:=forS_0 e5
   obtain rfl:=e5
   exact ⟨rfl,df,q5_10,q5_11,S⟩
  refine zu ?_
  have hlt5:i5 < (a0.sub.length:Int):=of_decide_eq_true hc6
  obtain ⟨m5,rfl⟩ : ∃ m,m5=m + 1:=⟨m5 - 1,by omega⟩
  obtain ⟨q5,H,e5⟩ := forS_s e5
  unfold zcy.b0 at H
  try dsimp only at H
  have hb5:=(S.lenFZ 0)
  refine zb ?_
  refine zK (zb (za (wd (zi q5_i) (wd (does_indexF zp rfl q5_i (S.onZ 0) (And.intro (show 0 ≤ i5 by omega) (show i5 < (a0.sub.length:Int) from hlt5)).1 (And.intro (show 0 ≤ i5 by omega) (show i5 < (a0.sub.length:Int) from hlt5)).2) ?_))))
  obtain ⟨s8,hc9,S⟩ := S.viewTerm 0 (And.intro (show 0 ≤ i5 by omega) (show i5 < (a0.sub.length:Int) from hlt5))
  replace S:=S
  refine wd (ldC rfl hc9) ?_
  refine zO xd zbp fun b11 w10 hw10=>?_
  replace S:=S.new hw10
  refine wd (zh rfl) ?_
  refine wsT rfl rfl (S.blk 0) fun w12 B hw12 zw12=>?_
  replace S:=S.store 0 B hw12
  refine zd (zb ?_)
  refine xT 3 (Ext w12) hmix zbs zbs (Ext.drawn _) (zE (fun v K=>zz zX rfl (((S.ext K).blk 0).all _ (Term.len _)) (Term.len _)) ?_)
  obtain ⟨r13,er13,H⟩ := zq H
  refine kz (fun v=>zx ca_term_Size) (fun v K=>(have ⟨M,SS⟩ := (S.ext K).lend ((.z 0 rfl .nil)); quiet (term_Size_st (a0:=(kd a0 i5)) SS er13) (fun v w' h=>⟨h.1,_,_,h.2⟩))) (fun v v' K h=>K.thenExt h) (zE (fun v K=>zz zX rfl (((S.ext K).blk 0).all _ (Term.len _)) (Term.len _)) ?_)
  refine yE fun w14 K=>?_
  replace S:=S.ext K
  clear K
  obtain ⟨r15,er15,H⟩ := zq H
  obtain ⟨_,_,T,bk⟩ := S.calln 0 ((.z 0 rfl .nil))
  refine zB (zx ca_term_Deep) zbp (term_Deep_st (a0:=(kd a0 i5)) T er15) ?_
  rintro _ w16 ⟨rfl,S2⟩
  replace S:=bk _ _ _ _ S2 rfl
  refine wd (zh rfl) (wd (zh rfl) (zd (zb (zb (za (wd (ldT rfl (S.blk 1)) (wd (zi rfl) ?_)))))))
  obtain ⟨r18,er18,H⟩ := zq H
  obtain ⟨_,_,T,bk⟩ := S.calln 0 ((.z 1 rfl .nil))
  refine zB (zx zaQ) zbp (zaV (a0:=a0) T er18) ?_
  rintro _ w19 ⟨rfl,S2⟩
  replace S:=bk _ _ _ _ S2 rfl
  refine wd (zT rfl) (wd (vi rfl rfl) (zd ?_))
  refine zF rfl (fun hc21=>?_) (fun hc21=>?_)
  ·replace H:=if_t hc21 H
   refine za (wd (ldT rfl (S.blk 0)) (wd (zT rfl) (wd (zi rfl) (wd (zi rfl) ?_))))
   obtain ⟨r22,er22,H⟩ := zq H
   obtain ⟨_,_,T,bk⟩ := S.calln 0 ((.z 0 rfl .nil))
   refine zB (zx ca_term_grown) zbp (zeh (a0:=(kd a0 i5)) T er22) ?_
   rintro _ w23 ⟨rfl,S2⟩
   replace S:=bk _ _ _ _ S2 rfl
   refine wd (z7 rfl) (wd (zo rfl rfl) (wd (zo rfl rfl) (wd (zh rfl) (wd (zh rfl) (zd (za ?_))))))
   refine wd (zi q5_10) (wd (zi rfl) (wd (xI rfl rfl) (wd (zi q5_11) (wd (zi rfl) (wd (does_max rfl rfl) ?_)))))
   refine wd (zh rfl) (wd (zh rfl) (zd (za (wd (xA q5_i rfl (c:=i5 + 1) rfl zbq zbq) (wd (zi rfl) (zd ?_))))))
   replace S:=S.arr [1] [1]
   obtain rfl:=zbt H
   exact ⟨rfl,df,(m5,i5 + 1,(IntKind.i64.wrap (x5_0 + r22.1),(if x5_1 < r22.2 then r22.2 else x5_1))),⟨(by dsimp only; omega),(by dsimp only; omega),e5,rfl,rfl,rfl,S⟩,by dsimp only; omega⟩
  ·replace H:=if_f hc21 H
   refine zu (za (wd (zi q5_10) (wd (zi rfl) (wd (xI rfl rfl) (wd (zi q5_11) ?_)))))
   refine wd (zi rfl) (wd (does_max rfl rfl) (wd (zh rfl) (wd (zh rfl) (zd (za ?_)))))
   refine wd (xA q5_i rfl (c:=i5 + 1) rfl zbq zbq) (wd (zi rfl) (zd ?_))
   replace S:=S.arr [1] [1]
   obtain rfl:=zbt H
   exact ⟨rfl,df,(m5,i5 + 1,(IntKind.i64.wrap (x5_0 + r13),(if x5_1 < r15 then r15 else x5_1))),⟨(by dsimp only; omega),(by dsimp only; omega),e5,rfl,rfl,rfl,S⟩,by dsimp only; omega⟩
 rintro g25 u26 ⟨p5_10,p5_11,S⟩
 have H:=Ho5
 refine zb (za (wd (zi p5_10) (wd (zi p5_11) (wd (xI rfl rfl) (wd (zh rfl) (wd (zh rfl) (zd (zt ?_))))))))
 refine ⟨_,(xi (zg rfl) (zg rfl)),?_⟩
 replace S:=S.arr [] []
 obtain rfl:=zbt H
 exact ⟨rfl,S⟩
theorem term_grown_st {a0:PTerm} {s_0:SlV} {a1:ByteArray} {a2:Int} {a3:Int} (S:St A N w w [] [zf s_0 a0.sub]) {k:Nat} {r:Int × Int} (H:zcy.f k a0 a1 a2 a3=some r) :
  Calls PP jH #[.agg (tmC a0 s_0).toArray,.string a1,.int .i64 a2,.int .i64 a3] w <| Rt fun v w'=>(v = .tuple #[.int .i64 r.1,.int .i64 r.2]∧St A N w w' [] []):=by
 have main : ∀ (k:Nat) {A:Nat→Prop} {N:Oth} {w:World} {a0:PTerm} {s_0:SlV} {a1:ByteArray} {a2:Int} {a3:Int} (S:St A N w w [] [zf s_0 a0.sub]) {r:Int × Int} (H:zcy.f k a0 a1 a2 a3=some r),Calls PP jH #[.agg (tmC a0 s_0).toArray,.string a1,.int .i64 a2,.int .i64 a3] w <| Rt fun v w'=>(v = .tuple #[.int .i64 r.1,.int .i64 r.2]∧St A N w w' [] []):=by
  intro k
  induction k with
  | zero=>intro A N w a0 s_0 a1 a2 a3 S r H; cases H
  | succ k ih=>intro A N w a0 s_0 a1 a2 a3 S r H; exact term_grown_gst ih S H
 exact main k S H
theorem term_names_gst {zeG:PTerm→(List (ByteArray × Int))→(List (ByteArray × Int))→Option ((List (ByteArray × Int)) × (List (ByteArray × Int)))} (zei : ∀ {A:Nat→Prop} {N:Oth} {w:World} {a0:PTerm} {s_0:SlV} {a1:List (ByteArray × Int)} {m_1:Nat} {a2:List (ByteArray × Int)} {m_2:Nat} (S:St A N w w [oMS m_1 a1,oMS m_2 a2] [zf s_0 a0.sub]) {r:(List (ByteArray × Int)) × (List (ByteArray × Int))} (H:zeG a0 a1 a2=some r),Calls PP jI #[.agg (tmC a0 s_0).toArray,.map (some m_1),.map (some m_2)] w <| Rt fun v w'=>(v = .tuple #[]∧St A N w w' [oMS m_1 r.1,oMS m_2 r.2] [])) {A:Nat→Prop} {N:Oth} {w:World} {a0:PTerm} {s_0:SlV} {a1:List (ByteArray × Int)} {m_1:Nat} {a2:List (ByteArray × Int)} {m_2:Nat} (S:St A N w w [oMS m_1 a1,oMS m_2 a2] [zf s_0 a0.sub]) {r:(List (ByteArray × Int)) × (List (ByteArray × Int))} (H:zcz.g zeG a0 a1 a2=some r) :
  Calls PP jI #[.agg (tmC a0 s_0).toArray,.map (some m_1),.map (some m_2)] w <| Rt fun v w'=>(v = .tuple #[]∧St A N w w' [oMS m_1 r.1,oMS m_2 r.2] []):=by
 unfold zcz.g at H
 refine zA (n:=46) Tryz.func87 rfl rfl zbr (zb (za ?_))
 refine zI rfl zbp fun b2 w1 hw1=>?_
 replace S:=S.new hw1
 refine zd (zb (zb (za (wd (ze zV rfl (o':=0) rfl) (wd (zl zM rfl ((S.blk 0).cell (Term.get_kind _))) (wd (zL rfl rfl) (zd ?_)))))))
 refine zF rfl (fun hc3=>?_) (fun hc3=>?_)
 ·replace H:=if_t hc3 H
  refine zb (zb (za (wd (yH rfl) (wd (ze xz rfl (o':=1) rfl) (wd (zl xf rfl ((S.blk 0).cell (Term.get_name _))) (wd (vN (C:=Value.string) (D:=(Value.int .i64)) (key:=a0.name) (zv:=0) xX ve zv_int rfl rfl (S.map 1)) (wd (zL rfl rfl) (zd ?_))))))))
  obtain ⟨o4,e4,Ho4⟩ := zq H
  replace H:=e4; clear e4
  refine xr [17,18,19,20,21] (fun fr W=>St A N w W [oB b2 zj (tmC a0 s_0),oMS m_1 a1,oMS m_2 o4] [zf s_0 a0.sub]) ?_ ?_
  ·refine zF rfl (fun hc5=>?_) (fun hc5=>?_)
   ·replace H:=if_t hc5 H
    refine za (wd (yH rfl) (wd (ze xz rfl (o':=1) rfl) (wd (zl xf rfl ((S.blk 0).cell (Term.get_name _))) (wd (vN (C:=Value.string) (D:=(Value.int .i64)) (key:=a0.name) (zv:=0) xX ve zv_int rfl rfl (S.map 2)) (wd (xI rfl rfl) ?_)))))
    refine j3 (C:=Value.string) (D:=(Value.int .i64)) (key:=a0.name) (v:=IntKind.i64.wrap (((Gw.look a0.name a2).getD 0) + 1)) xX ve rfl rfl rfl (S.map 2) fun w6 hmw6 hcw6 hsw6=>?_
    replace S:=S.mapSet 2 ⟨hmw6,hcw6,hsw6⟩
    refine zd ?_
    replace S:=S.arr [1,2,0] [0]
    obtain rfl:=zbt H
    exact ⟨rfl,df,S⟩
   ·replace H:=if_f hc5 H
    refine zu ?_
    obtain rfl:=zbt H
    exact ⟨rfl,df,S⟩
  rintro g7 u8 S
  have H:=Ho4
  refine zt ?_
  refine ⟨_,rets0,?_⟩
  replace S:=S.arr [1,2] []
  obtain rfl:=zbt H
  exact ⟨rfl,S⟩
 replace H:=if_f hc3 H
 refine zu (zb (za (wd (ze zw rfl (o':=4) rfl) (wd (zl zr rfl ((S.blk 0).cell (Term.get_sub _))) (wd (does_lenF zp rfl (S.onZ 0)) (wd (zi rfl) (zd ?_)))))))
 obtain ⟨o9,e9,Ho9⟩ := zq H
 clear H
 refine xr ([6,7,8] ++ rg 25 21) (fun fr W=>St A N w W [oB b2 zj (tmC a0 s_0),oMS m_1 o9.1,oMS m_2 o9.2] [zf s_0 a0.sub]) ?_ ?_
 ·refine zK ?_
  refine xy (α:=Nat × Int × ((List (ByteArray × Int)) × (List (ByteArray × Int)))) ([6,7,8] ++ rg 25 21) (fun x fr W=>(x.1:Int)=(a0.sub.length:Int) - x.2.1∧0 ≤ x.2.1∧forS (fun i s=>zcz.b0 a0 zeG i s.1 s.2) x.1 x.2.1 x.2.2=some o9∧fr 25 = .int .i64 x.2.1∧St A N w W [oB b2 zj (tmC a0 s_0),oMS m_1 (x.2.2.1),oMS m_2 (x.2.2.2)] [zf s_0 a0.sub]) (fun x=>x.1) (((a0.sub.length:Int) - 0).toNat,0,(a1,a2)) ⟨(by dsimp only; have hle:=Int.natCast_nonneg (a0.sub.length); omega),(Int.le_refl _),(by dsimp only; exact e9),rfl,S⟩ ?_
  rintro ⟨m9,i9,⟨x9_0,x9_1⟩⟩ g9 u9 ⟨hm9,hl9,e9,q9_i,S⟩
  try dsimp only at hm9
  try dsimp only at hl9
  try dsimp only at e9
  try dsimp only at S
  try dsimp only at q9_i
  refine zb (za (wd (xn q9_i rfl) (zd (zb ?_))))
  refine zF rfl (fun hc10=>?_) (fun hc10=>?_)
  rotate_left
  ·refine xG ?_
   have hge:(a0.sub.length:Int) ≤ i9:=Int.not_lt.1 (of_decide_eq_false hc10)
   obtain rfl:m9=0:=by omega
   replace e9:=forS_0 e9
   obtain rfl:=e9
   exact ⟨rfl,df,S⟩
  refine zu ?_
  have hlt9:i9 < (a0.sub.length:Int):=of_decide_eq_true hc10
  obtain ⟨m9,rfl⟩ : ∃ m,m9=m + 1:=⟨m9 - 1,by omega⟩
  obtain ⟨q9,H,e9⟩ := forS_s e9
  unfold zcz.b0 at H
  try dsimp only at H
  have hb9:=(S.lenFZ 0)
  refine zb ?_
  refine zK (zb (za (wd (zi q9_i) (wd (does_indexF zp rfl q9_i (S.onZ 0) (And.intro (show 0 ≤ i9 by omega) (show i9 < (a0.sub.length:Int) from hlt9)).1 (And.intro (show 0 ≤ i9 by omega) (show i9 < (a0.sub.length:Int) from hlt9)).2) ?_))))
  obtain ⟨s12,hc13,S⟩ := S.viewTerm 0 (And.intro (show 0 ≤ i9 by omega) (show i9 < (a0.sub.length:Int) from hlt9))
  replace S:=S
  refine wd (ldC rfl hc13) ?_
  refine zO xd zbp fun b15 w14 hw14=>?_
  replace S:=S.new hw14
  refine wd (zh rfl) ?_
  refine wsT rfl rfl (S.blk 0) fun w16 B hw16 zw16=>?_
  replace S:=S.store 0 B hw16
  refine zd (zb (za (wd (ldT rfl (S.blk 1)) (wd (zi rfl) ?_))))
  obtain ⟨r17,er17,H⟩ := zq H
  obtain ⟨_,_,T,bk⟩ := S.calln 0 ((.z 1 rfl .nil))
  refine zB (zx zaQ) zbp (zaV (a0:=a0) T er17) ?_
  rintro _ w18 ⟨rfl,S2⟩
  replace S:=bk _ _ _ _ S2 rfl
  refine wd (xV rfl) (zd (zb (za (wd (yH rfl) (wd (zT rfl) (wd (vN (C:=Value.string) (D:=(Value.int .i64)) (key:=r17) (zv:=0) xX ve zv_int rfl rfl (S.map 2)) ?_))))))
  refine wd (xI rfl rfl) ?_
  refine j3 (C:=Value.string) (D:=(Value.int .i64)) (key:=r17) (v:=IntKind.i64.wrap (((Gw.look r17 x9_0).getD 0) + 1)) xX ve rfl rfl rfl (S.map 2) fun w20 hmw20 hcw20 hsw20=>?_
  replace S:=S.mapSet 2 ⟨hmw20,hcw20,hsw20⟩
  refine zd (zb (za (wd (ldT rfl (S.blk 1)) (wd (yH rfl) (wd (yH rfl) ?_)))))
  obtain ⟨r21,er21,H⟩ := zq H
  replace S:=(S.front 3).front 1
  obtain ⟨_,_,T,bk⟩ := S.calln 2 ((.z 0 rfl .nil))
  refine zB (zx ca_term_names) zbp (zei (a0:=(kd a0 i9)) T er21) ?_
  rintro _ w22 ⟨rfl,S2⟩
  replace S:=bk _ _ _ _ S2 rfl
  refine zd (za (wd (yH rfl) (wd (zT rfl) (wd (vN (C:=Value.string) (D:=(Value.int .i64)) (key:=r17) (zv:=0) xX ve zv_int rfl rfl (S.map 0)) (wd (zbb rfl rfl) ?_)))))
  refine j3 (C:=Value.string) (D:=(Value.int .i64)) (key:=r17) (v:=IntKind.i64.wrap (((Gw.look r17 r21.1).getD 0) - 1)) xX ve rfl rfl rfl (S.map 0) fun w24 hmw24 hcw24 hsw24=>?_
  replace S:=S.mapSet 0 ⟨hmw24,hcw24,hsw24⟩
  refine zd (za (wd (xA q9_i rfl (c:=i9 + 1) rfl zbq zbq) (wd (zi rfl) (zd ?_))))
  replace S:=S.arr [3,0,1] [1]
  obtain rfl:=zbt H
  exact ⟨rfl,df,(m9,i9 + 1,(Gw.ins r17 (IntKind.i64.wrap (((Gw.look r17 r21.1).getD 0) - 1)) r21.1,r21.2)),⟨(by dsimp only; omega),(by dsimp only; omega),e9,rfl,S⟩,by dsimp only; omega⟩
 rintro g25 u26 S
 have H:=Ho9
 refine ⟨_,rets0,?_⟩
 replace S:=S.arr [1,2] []
 obtain rfl:=zbt H
 exact ⟨rfl,S⟩
theorem term_names_st {a0:PTerm} {s_0:SlV} {a1:List (ByteArray × Int)} {m_1:Nat} {a2:List (ByteArray × Int)} {m_2:Nat} (S:St A N w w [oMS m_1 a1,oMS m_2 a2] [zf s_0 a0.sub]) {k:Nat} {r:(List (ByteArray × Int)) × (List (ByteArray × Int))} (H:zcz.f k a0 a1 a2=some r) :
  Calls PP jI #[.agg (tmC a0 s_0).toArray,.map (some m_1),.map (some m_2)] w <| Rt fun v w'=>(v = .tuple #[]∧St A N w w' [oMS m_1 r.1,oMS m_2 r.2] []):=by
 have main : ∀ (k:Nat) {A:Nat→Prop} {N:Oth} {w:World} {a0:PTerm} {s_0:SlV} {a1:List (ByteArray × Int)} {m_1:Nat} {a2:List (ByteArray × Int)} {m_2:Nat} (S:St A N w w [oMS m_1 a1,oMS m_2 a2] [zf s_0 a0.sub]) {r:(List (ByteArray × Int)) × (List (ByteArray × Int))} (H:zcz.f k a0 a1 a2=some r),Calls PP jI #[.agg (tmC a0 s_0).toArray,.map (some m_1),.map (some m_2)] w <| Rt fun v w'=>(v = .tuple #[]∧St A N w w' [oMS m_1 r.1,oMS m_2 r.2] []):=by
  intro k
  induction k with
  | zero=>intro A N w a0 s_0 a1 m_1 a2 m_2 S r H; cases H
  | succ k ih=>intro A N w a0 s_0 a1 m_1 a2 m_2 S r H; exact term_names_gst ih S H
 exact main k S H
theorem term_freely_st {a0:PTerm} {s_0:SlV} (S:St A N w w [] [zf s_0 a0.sub]) {k:Nat} {r:(List (ByteArray × Int))} (H:zcA.f k a0=some r) :
  Calls PP F_term_freely #[.agg (tmC a0 s_0).toArray] w <| Rt fun v w'=>(∃ mo0:Nat,v = .map (some mo0)∧St A N w w' [oMS mo0 r] []):=by
 unfold zcA.f at H
 refine zA (n:=10) Tryz.func58 rfl rfl zbr (zb (za ?_))
 refine zI rfl zbp fun b2 w1 hw1=>?_
 replace S:=S.new hw1
 refine wd (does_as_m rfl) (zd (zb (za ?_)))
 refine wl_makeMap (C:=Value.string) (D:=(Value.int .i64)) zbp fun m3 w4 hmw4 hxw4 hlw4=>?_
 replace S:=S.newM hmw4 hxw4 hlw4
 refine wd (does_as_m rfl) (zd (zb (za (wd (ldT rfl (S.blk 1)) ?_))))
 refine wl_makeMap (C:=Value.string) (D:=(Value.int .i64)) zbp fun m5 w6 hmw6 hxw6 hlw6=>?_
 replace S:=S.newM hmw6 hxw6 hlw6
 refine wd (yH rfl) ?_
 obtain ⟨r7,er7,H⟩ := zq H
 replace S:=(S.front 1).front 1
 obtain ⟨_,_,T,bk⟩ := S.calln 2 ((.z 0 rfl .nil))
 refine zB (zx ca_term_names) zbp (term_names_st (a0:=a0) T er7) ?_
 rintro _ w8 ⟨rfl,S2⟩
 replace S:=bk _ _ _ _ S2 rfl
 refine zd (zb (za (wd (yH rfl) (wd (does_as_m rfl) (zd (zt ?_))))))
 refine ⟨_,(zP (zg rfl)),?_⟩
 replace S:=S.arr [1] []
 obtain rfl:=zbt H
 exact ⟨m3,rfl,S⟩
theorem term_clone_gst {zeD:PTerm→Option PTerm} (zef : ∀ {A:Nat→Prop} {N:Oth} {w:World} {a0:PTerm} {s_0:SlV} (S:St A N w w [] [zf s_0 a0.sub]) {r:PTerm} (H:zeD a0=some r),Calls PP jG #[.agg (tmC a0 s_0).toArray] w <| Rt fun v w'=>(∃ so0:SlV,v = .agg (tmC r so0).toArray∧St A N w w' [] [zf so0 r.sub])) {A:Nat→Prop} {N:Oth} {w:World} {a0:PTerm} {s_0:SlV} (S:St A N w w [] [zf s_0 a0.sub]) {r:PTerm} (H:zcB.g zeD a0=some r) :
  Calls PP jG #[.agg (tmC a0 s_0).toArray] w <| Rt fun v w'=>(∃ so0:SlV,v = .agg (tmC r so0).toArray∧St A N w w' [] [zf so0 r.sub]):=by
 unfold zcB.g at H
 refine zA (n:=31) Tryz.func180 rfl rfl zbr (zb (za ?_))
 refine zI rfl zbp fun b2 w1 hw1=>?_
 replace S:=S.new hw1
 refine zO xd zbp fun b4 w3 hw3=>?_
 replace S:=S.new hw3
 refine zd (zb (zb (za (wd (ze zw rfl (o':=4) rfl) (wd (zl zr rfl ((S.blk 1).cell (Term.get_sub _))) (wd (does_isnil zp rfl rfl) (zd ?_)))))))
 refine zF rfl (fun hc5=>?_) (fun hc5=>?_)
 ·replace H:=term_clone_nil (S.nilZ_ 0 hc5) (show zcB.g zeD a0=some r from H)
  refine zb (za (wd (ldT rfl (S.blk 1)) ?_))
  refine wsT rfl rfl (S.blk 0) fun w6 B hw6 zw6=>?_
  replace S:=S.store 0 B hw6
  refine zd (zt ?_)
  refine ⟨_,(zP (rtT rfl (S.blk 0))),?_⟩
  replace S:=S.arr [] [0]
  obtain rfl:=zbt H
  exact ⟨s_0,rfl,S⟩
 refine zu (zb (za (wd (ze zw rfl (o':=4) rfl) (wd (zl zr rfl ((S.blk 1).cell (Term.get_sub _))) (wd (does_lenF zp rfl (S.onZ 0)) ?_)))))
 obtain ⟨hm10,H⟩ := zU H
 have hm10:=of_decide_eq_true hm10
 refine wl_makeN (C:=Term.C) (z:=Term.z) zp yN zT_Term rfl rfl rfl hm10.1 zbq hm10.2 zbp fun b8 w7 s9 hBw7 hw7=>?_
 replace S:=(S.lit hBw7 hw7 (by rw [List.length_replicate]; omega)).repTm (Int.toNat (a0.sub.length:Int))
 refine wd (ya rfl) (zd (zb (zb (za (wd (ze zw rfl (o':=4) rfl) (wd (zl zr rfl ((S.blk 2).cell (Term.get_sub _))) (wd (does_lenF zp rfl (S.onZ 1)) ?_)))))))
 refine wd (zi rfl) (zd ?_)
 replace S:=(S.nil zj 5 Term.C).bigTm
 obtain ⟨o11,e11,Ho11⟩ := zq H
 clear H
 refine xr ([4,5] ++ rg 17 11) (fun fr W => ∃ m12:List Term,St A N w W [oS zj 5 Term.C SlV.nil ([]:List Term),oS zj 5 Term.C s9 m12,oB b4 zj (Term.C tmZ),oB b2 zj (tmC a0 s_0)] [bigA xj ([]:List Term) ([]:List PTerm),bigA xj m12 o11,zf s_0 a0.sub]) ?_ ?_
 ·refine zK ?_
  refine xy (α:=Nat × Int × (List PTerm)) ([4,5] ++ rg 17 11) (fun x fr W=>(x.1:Int)=(a0.sub.length:Int) - x.2.1∧0 ≤ x.2.1∧forS (fun i s=>zcB.b0 zeD a0 i s) x.1 x.2.1 x.2.2=some o11 ∧ ∃ m13:List Term,fr 17 = .int .i64 x.2.1∧St A N w W [oS zj 5 Term.C SlV.nil ([]:List Term),oS zj 5 Term.C s9 m13,oB b4 zj (Term.C tmZ),oB b2 zj (tmC a0 s_0)] [bigA xj ([]:List Term) ([]:List PTerm),bigA xj m13 (x.2.2),zf s_0 a0.sub]) (fun x=>x.1) (((a0.sub.length:Int) - 0).toNat,0,List.replicate (Int.toNat (a0.sub.length:Int)) PTerm.z) ⟨(by dsimp only; have hle:=Int.natCast_nonneg (a0.sub.length); omega),(Int.le_refl _),(by dsimp only; exact e11),List.replicate (Int.toNat (a0.sub.length:Int)) Term.z,rfl,S⟩ ?_
  rintro ⟨m11,i11,x11_0⟩ g11 u11 ⟨hm11,hl11,e11,m14,q11_i,S⟩
  try dsimp only at hm11
  try dsimp only at hl11
  try dsimp only at e11
  try dsimp only at S
  try dsimp only at q11_i
  refine zb (za (wd (xn q11_i rfl) (zd (zb ?_))))
  refine zF rfl (fun hc15=>?_) (fun hc15=>?_)
  rotate_left
  ·refine xG ?_
   have hge:(a0.sub.length:Int) ≤ i11:=Int.not_lt.1 (of_decide_eq_false hc15)
   obtain rfl:m11=0:=by omega
   replace e11:=forS_0 e11
   obtain rfl:=e11
   exact ⟨rfl,df,m14,S⟩
  refine zu ?_
  have hlt11:i11 < (a0.sub.length:Int):=of_decide_eq_true hc15
  obtain ⟨m11,rfl⟩ : ∃ m,m11=m + 1:=⟨m11 - 1,by omega⟩
  obtain ⟨q11,H,e11⟩ := forS_s e11
  unfold zcB.b0 at H
  try dsimp only at H
  have hb11:=(S.lenFZ 2)
  refine zb ?_
  refine zK (zb (za (wd (zi q11_i) (wd (does_indexF zp rfl q11_i (S.onZ 2) (And.intro (show 0 ≤ i11 by omega) (show i11 < (a0.sub.length:Int) from hlt11)).1 (And.intro (show 0 ≤ i11 by omega) (show i11 < (a0.sub.length:Int) from hlt11)).2) ?_))))
  obtain ⟨s17,hc18,S⟩ := S.viewTerm 2 (And.intro (show 0 ≤ i11 by omega) (show i11 < (a0.sub.length:Int) from hlt11))
  replace S:=S
  refine wd (ldC rfl hc18) ?_
  refine zO xd zbp fun b20 w19 hw19=>?_
  replace S:=S.new hw19
  refine wd (zh rfl) ?_
  refine wsT rfl rfl (S.blk 0) fun w21 B hw21 zw21=>?_
  replace S:=S.store 0 B hw21
  refine zd (za (wd (zN rfl) (wd (zi rfl) (wd (ldT rfl (S.blk 0)) ?_))))
  obtain ⟨r22,er22,H⟩ := zq H
  obtain ⟨_,_,T,bk⟩ := S.sub [0] [] [oB b20 zj (tmC (kd a0 i11) s17),oS zj 5 Term.C SlV.nil ([]:List Term),oS zj 5 Term.C s9 m14,oB b4 zj (Term.C tmZ),oB b2 zj (tmC a0 s_0)]
  refine zB (zx zaR) zbp (zef (a0:=(kd a0 i11)) T er22) ?_
  rintro _ w23 ⟨s25,rfl,S2⟩
  replace S:=bk _ _ _ _ _ S2 rfl rfl
  obtain ⟨hi26,H⟩ := zU H
  refine wd (xg zp rfl rfl (S.rdO 2) (zC hi26).1 (by rw [(S.lenTm 3)]; exact (zC hi26).2)) ?_
  have hlw27:=S.lenO 2
  have hqw27:=(S.lenTm 3)
  refine kr (C:=Term.C) (a:=(tmT r22 s25)) zX rfl rfl (S.sl 2) ⟨(zC hi26).1,by rw [hqw27]; exact (zC hi26).2⟩ (Term.len _) (Term.one _) fun w27 O hw27=>?_
  replace S:=S.push 2 O (by rw [List.length_set]; exact hlw27) hw27 (fun i hi => .inl hi)
  clear O hlw27 hqw27
  replace S:=S.setTm (x:=r22) 3 0 (Int.toNat i11)
  refine zd (za (wd (xA q11_i rfl (c:=i11 + 1) rfl zbq zbq) (wd (zi rfl) (zd ?_))))
  replace S:=S.arr [2,0,3,4] [3,0,5]
  obtain rfl:=zbt H
  exact ⟨rfl,df,(m11,i11 + 1,x11_0.set (Int.toNat i11) r22),⟨(by dsimp only; omega),(by dsimp only; omega),e11,m14.set (Int.toNat i11) (tmT r22 s25),rfl,S⟩,by dsimp only; omega⟩
 rintro g28 u29 ⟨m12,S⟩
 have H:=Ho11
 refine zb (za (wd (zN rfl) (wd (ze zw rfl (o':=4) rfl) ?_)))
 refine xY zr rfl rfl (S.blk 3) (by rw [Term.len]; decide) (SlV.one _ _ rfl) (Term.set_sub _ _) fun w30 B hw30 zw30=>?_
 replace S:=S.store 3 B hw30
 refine zd (zb (za ?_))
 replace S:=S.frzTm 2 1
 refine wd (ldT rfl (S.blk 0)) ?_
 refine wsT rfl rfl (S.blk 2) fun w31 B hw31 zw31=>?_
 replace S:=S.store 2 B hw31
 refine zd (zt ?_)
 refine ⟨_,(zP (rtT rfl (S.blk 0))),?_⟩
 replace S:=S.arr [] [0]
 obtain rfl:=zbt H
 exact ⟨s9,rfl,S⟩
theorem term_clone_st {a0:PTerm} {s_0:SlV} (S:St A N w w [] [zf s_0 a0.sub]) {k:Nat} {r:PTerm} (H:zcB.f k a0=some r) :
  Calls PP jG #[.agg (tmC a0 s_0).toArray] w <| Rt fun v w'=>(∃ so0:SlV,v = .agg (tmC r so0).toArray∧St A N w w' [] [zf so0 r.sub]):=by
 have main : ∀ (k:Nat) {A:Nat→Prop} {N:Oth} {w:World} {a0:PTerm} {s_0:SlV} (S:St A N w w [] [zf s_0 a0.sub]) {r:PTerm} (H:zcB.f k a0=some r),Calls PP jG #[.agg (tmC a0 s_0).toArray] w <| Rt fun v w'=>(∃ so0:SlV,v = .agg (tmC r so0).toArray∧St A N w w' [] [zf so0 r.sub]):=by
  intro k
  induction k with
  | zero=>intro A N w a0 s_0 S r H; cases H
  | succ k ih=>intro A N w a0 s_0 S r H; exact term_clone_gst ih S H
 exact main k S H
theorem term_fresh_st {a0:List (ByteArray × Int)} {m_0:Nat} {a1:List (ByteArray × Int)} {m_1:Nat} {a2:ByteArray} (S:St A N w w [] [oMS m_0 a0,oMS m_1 a1,oPw]) {k:Nat} {r:ByteArray} (H:zcC.f k a0 a1 a2=some r) :
  Calls PP F_term_fresh #[.map (some m_0),.map (some m_1),.string a2] w <| Rt fun v w'=>(v = .string r∧St A N w w' [] []):=by
 unfold zcC.f at H
 refine zA (n:=30) Tryz.func181 rfl rfl zbr (zb (za (wd (xV rfl) (zd (zb (za (wd (zh rfl) (zd ?_))))))))
 obtain ⟨o1,e1,Ho1⟩ := zq H
 clear H
 refine xr (rg 6 24) (fun fr W => ∃ s1:Int,o1 = .inl s1∧fr 7 = .int .i64 s1∧St A N w W [] [oMS m_0 a0,oMS m_1 a1,oPw]) ?_ ?_
 ·refine zK ?_
  refine xy (α:=Nat × Int) (rg 6 24) (fun x fr W=>iter (fun s=>zcC.b0 a0 a1 a2 s) x.1 x.2=some o1∧fr 7 = .int .i64 (x.2)∧St A N w W [] [oMS m_0 a0,oMS m_1 a1,oPw]) (fun x=>x.1) (k,0) ⟨(by dsimp only; exact e1),rfl,S⟩ ?_
  rintro ⟨m1,x1_0⟩ g1 u1 ⟨e1,q1_7,S⟩
  try dsimp only at e1
  try dsimp only at S
  try dsimp only at q1_7
  obtain ⟨m1,rfl⟩ : ∃ m,m1=m + 1:=⟨m1 - 1,by cases m1 with | zero=>cases e1 | succ m=>rfl⟩
  obtain ⟨q1,H,e1⟩ := uk e1
  unfold zcC.b0 at H
  try dsimp only at H
  refine zb ?_
  refine zK (zb (za (wd (zi q1_7) ?_)))
  obtain ⟨r2,er2,H⟩ := zq H
  obtain ⟨_,_,T,bk⟩ := S.calln 0 ((.z 2 rfl .nil))
  refine zB (zx ca_strconv_Itoa) zbp (strconv_Itoa_st T er2) ?_
  rintro _ w3 ⟨rfl,S2⟩
  replace S:=bk _ _ _ _ S2 rfl
  obtain ⟨hs5,H⟩ := zU H
  refine wd (does_concat rfl rfl (of_decide_eq_true hs5)) (wd (xV rfl) (zd (zb (za (wd (yH rfl) (wd (zT rfl) ?_))))))
  refine wd (vN (C:=Value.string) (D:=(Value.int .i64)) (key:=(bA #[118]) ++ r2) (zv:=0) xX ve zv_int rfl rfl (S.mapZ 0)) (wd (zL rfl rfl) (wd (zy rfl) ?_))
  refine wg (fun hg=>yH rfl) ?_
  refine wg (fun hg=>zT rfl) ?_
  refine wg (fun hg=>vN (C:=Value.string) (D:=(Value.int .i64)) (key:=(bA #[118]) ++ r2) (zv:=0) xX ve zv_int (zn hg) (zn hg) (S.mapZ 1)) ?_
  refine wg (fun hg=>zL (zn hg) rfl) (wd (zW rfl (fun hp=>(zn (xe hp)))) (wd (zy rfl) ?_))
  refine wg (fun hg=>zT rfl) ?_
  refine wg (fun hg=>zT rfl) ?_
  refine wg (fun hg=>vi (zn hg) (zn hg)) (wd (zW rfl (fun hp=>(zn (xe hp)))) (zd ?_))
  refine zF rfl (fun hc6=>?_) (fun hc6=>?_)
  ·replace H:=if_t hc6 H
   refine zb (za (wd (zT rfl) (wd (xV rfl) (zd (zt ?_)))))
   refine ⟨_,(zP (zg rfl)),?_⟩
   replace S:=S.arr [] []
   obtain rfl:=zbt H
   obtain rfl:=e1
   obtain rfl:=ue Ho1
   exact ⟨rfl,S⟩
  replace H:=if_f hc6 H
  refine zu (za (wd (zi q1_7) (wd (xI rfl rfl) (wd (zh rfl) (zd ?_)))))
  obtain rfl:=zbt H
  exact ⟨rfl,df,(m1,IntKind.i64.wrap (x1_0 + 1)),⟨e1,rfl,S⟩,by dsimp only; omega⟩
 rintro g7 u8 ⟨s1,rfl,p1_7,S⟩
 have H:=Ho1
 dsimp only [aft] at H
 cases H
theorem term_put_gst {zeH:PTerm→ByteArray→PTerm→(List (ByteArray × Int))→Option PTerm} (zej : ∀ {A:Nat→Prop} {N:Oth} {w:World} {a0:PTerm} {s_0:SlV} {a1:ByteArray} {a2:PTerm} {s_2:SlV} {a3:List (ByteArray × Int)} {m_3:Nat} (S:St A N w w [] [zf s_0 a0.sub,zf s_2 a2.sub,oMS m_3 a3,oPw]) {r:PTerm} (H:zeH a0 a1 a2 a3=some r),Calls PP zao #[.agg (tmC a0 s_0).toArray,.string a1,.agg (tmC a2 s_2).toArray,.map (some m_3)] w <| Rt fun v w'=>(∃ so0:SlV,v = .agg (tmC r so0).toArray∧St A N w w' [] [zf so0 r.sub])) {A:Nat→Prop} {N:Oth} {w:World} {a0:PTerm} {s_0:SlV} {a1:ByteArray} {a2:PTerm} {s_2:SlV} {a3:List (ByteArray × Int)} {m_3:Nat} (S:St A N w w [] [zf s_0 a0.sub,zf s_2 a2.sub,oMS m_3 a3,oPw]) {k:Nat} {r:PTerm} (H:zcD.g zeH k a0 a1 a2 a3=some r) :
  Calls PP zao #[.agg (tmC a0 s_0).toArray,.string a1,.agg (tmC a2 s_2).toArray,.map (some m_3)] w <| Rt fun v w'=>(∃ so0:SlV,v = .agg (tmC r so0).toArray∧St A N w w' [] [zf so0 r.sub]):=by
 unfold zcD.g at H
 refine zA (n:=96) Tryz.func165 rfl rfl zbr (zb (za ?_))
 refine zI rfl zbp fun b2 w1 hw1=>?_
 replace S:=S.new hw1
 refine zI rfl zbp fun b4 w3 hw3=>?_
 replace S:=S.new hw3
 refine zO xd zbp fun b6 w5 hw5=>?_
 replace S:=S.new hw5
 refine zd (zb (zb (za (wd (ze zV rfl (o':=0) rfl) (wd (zl zM rfl ((S.blk 2).cell (Term.get_kind _))) (wd (zL rfl rfl) (zd ?_)))))))
 refine zF rfl (fun hc7=>?_) (fun hc7=>?_)
 ·replace H:=if_t hc7 H
  refine zb (zb (za (wd (ze xz rfl (o':=1) rfl) (wd (zl xf rfl ((S.blk 2).cell (Term.get_name _))) (wd (zT rfl) (wd (yf rfl rfl) (zd ?_)))))))
  refine zF rfl (fun hc8=>?_) (fun hc8=>?_)
  ·replace H:=if_t hc8 H
   refine zb (za (wd (ldT rfl (S.blk 1)) ?_))
   obtain ⟨r9,er9,H⟩ := zq H
   obtain ⟨_,_,T,bk⟩ := S.sub [1] [] [oB b6 zj (Term.C tmZ),oB b4 zj (tmC a2 s_2),oB b2 zj (tmC a0 s_0)]
   refine zB (zx zaR) zbp (term_clone_st (a0:=a2) T er9) ?_
   rintro _ w10 ⟨s12,rfl,S2⟩
   replace S:=bk _ _ _ _ _ S2 rfl rfl
   refine wsT rfl rfl (S.blk 0) fun w13 B hw13 zw13=>?_
   replace S:=S.store 0 B hw13
   refine zd (zt ?_)
   refine ⟨_,(zP (rtT rfl (S.blk 0))),?_⟩
   replace S:=S.arr [] [0]
   obtain rfl:=zbt H
   exact ⟨s12,rfl,S⟩
  replace H:=if_f hc8 H
  refine zu (zb (za (wd (ldT rfl (S.blk 2)) ?_)))
  refine wsT rfl rfl (S.blk 0) fun w14 B hw14 zw14=>?_
  replace S:=S.store 0 B hw14
  refine zd (zt ?_)
  refine ⟨_,(zP (rtT rfl (S.blk 0))),?_⟩
  replace S:=S.arr [] [0]
  obtain rfl:=zbt H
  exact ⟨s_0,rfl,S⟩
 replace H:=if_f hc7 H
 refine zu (zb (za (wd (ldT rfl (S.blk 2)) ?_)))
 refine zO xd zbp fun b16 w15 hw15=>?_
 replace S:=S.new hw15
 refine wsT rfl rfl (S.blk 0) fun w17 B hw17 zw17=>?_
 replace S:=S.store 0 B hw17
 refine zd (zb (za (wd (ze zw rfl (o':=4) rfl) (wd (zl zr rfl ((S.blk 3).cell (Term.get_sub _))) (wd (does_lenF zp rfl (S.onZ 0)) ?_)))))
 obtain ⟨hm21,H⟩ := zU H
 have hm21:=of_decide_eq_true hm21
 refine wl_makeN (C:=Term.C) (z:=Term.z) zp yN zT_Term rfl rfl rfl hm21.1 zbq hm21.2 zbp fun b19 w18 s20 hBw18 hw18=>?_
 replace S:=(S.lit hBw18 hw18 (by rw [List.length_replicate]; omega)).repTm (Int.toNat (a0.sub.length:Int))
 refine wd (ze zw rfl (o':=4) rfl) ?_
 refine xY zr rfl rfl (S.blk 1) (by rw [Term.len]; decide) (SlV.one _ _ rfl) (Term.set_sub _ _) fun w22 B hw22 zw22=>?_
 replace S:=S.store 1 B hw22
 refine zd (zb (zb (za (wd (ze zw rfl (o':=4) rfl) (wd (zl zr rfl ((S.blk 4).cell (Term.get_sub _))) (wd (does_lenF zp rfl (S.onZ 1)) (wd (zi rfl) (zd ?_))))))))
 replace S:=(S.nil zj 5 Term.C).bigTm
 obtain ⟨o23,e23,Ho23⟩ := zq H
 clear H
 let LT1:List OA:=[zf s_0 a0.sub,zf s_2 a2.sub,oMS m_3 a3,oPw]
 refine xr ([10,11,12,13,14] ++ rg 34 61) (fun fr W => ∃ s24:SlV,∃ m25:List Term,St A N w W [oS zj 5 Term.C SlV.nil ([]:List Term),oB b16 zj (tmC o23 s24),oS zj 5 Term.C s24 m25,oB b6 zj (Term.C tmZ),oB b4 zj (tmC a2 s_2),oB b2 zj (tmC a0 s_0)] (bigA xj ([]:List Term) ([]:List PTerm) :: bigA xj m25 o23.sub :: LT1)) ?_ ?_
 ·refine zK ?_
  refine xy (α:=Nat × Int × PTerm) ([10,11,12,13,14] ++ rg 34 61) (fun x fr W=>(x.1:Int)=(a0.sub.length:Int) - x.2.1∧0 ≤ x.2.1∧forS (fun i s=>zcD.b0 a0 k a1 a3 zeH a2 i s) x.1 x.2.1 x.2.2=some o23 ∧ ∃ s26:SlV,∃ m27:List Term,fr 34 = .int .i64 x.2.1∧St A N w W [oS zj 5 Term.C SlV.nil ([]:List Term),oB b16 zj (tmC (x.2.2) s26),oS zj 5 Term.C s26 m27,oB b6 zj (Term.C tmZ),oB b4 zj (tmC a2 s_2),oB b2 zj (tmC a0 s_0)] (bigA xj ([]:List Term) ([]:List PTerm) :: bigA xj m27 (x.2.2).sub :: LT1)) (fun x=>x.1) (((a0.sub.length:Int) - 0).toNat,0,(⟨a0.kind,a0.name,a0.other,a0.form,List.replicate (Int.toNat (a0.sub.length:Int)) PTerm.z⟩ : PTerm)) ⟨(by dsimp only; have hle:=Int.natCast_nonneg (a0.sub.length); omega),(Int.le_refl _),(by dsimp only; exact e23),s20,List.replicate (Int.toNat (a0.sub.length:Int)) Term.z,rfl,S⟩ ?_
  rintro ⟨m23,i23,x23_0⟩ g23 u23 ⟨hm23,hl23,e23,s28,m29,q23_i,S⟩
  try dsimp only at hm23
  try dsimp only at hl23
  try dsimp only at e23
  try dsimp only at S
  try dsimp only at q23_i
  refine zb (za (wd (xn q23_i rfl) (zd (zb ?_))))
  refine zF rfl (fun hc30=>?_) (fun hc30=>?_)
  rotate_left
  ·refine xG ?_
   have hge:(a0.sub.length:Int) ≤ i23:=Int.not_lt.1 (of_decide_eq_false hc30)
   obtain rfl:m23=0:=by omega
   replace e23:=forS_0 e23
   obtain rfl:=e23
   exact ⟨rfl,df,s28,m29,S⟩
  refine zu ?_
  have hlt23:i23 < (a0.sub.length:Int):=of_decide_eq_true hc30
  obtain ⟨m23,rfl⟩ : ∃ m,m23=m + 1:=⟨m23 - 1,by omega⟩
  obtain ⟨q23,H,e23⟩ := forS_s e23
  unfold zcD.b0 at H
  try dsimp only at H
  have hb23:=(S.lenFZ 2)
  refine zb ?_
  refine zK (zb (za (wd (zi q23_i) (wd (does_indexF zp rfl q23_i (S.onZ 2) (And.intro (show 0 ≤ i23 by omega) (show i23 < (a0.sub.length:Int) from hlt23)).1 (And.intro (show 0 ≤ i23 by omega) (show i23 < (a0.sub.length:Int) from hlt23)).2) ?_))))
  obtain ⟨s32,hc33,S⟩ := S.viewTerm 2 (And.intro (show 0 ≤ i23 by omega) (show i23 < (a0.sub.length:Int) from hlt23))
  replace S:=S
  refine wd (ldC rfl hc33) ?_
  refine zO xd zbp fun b35 w34 hw34=>?_
  replace S:=S.new hw34
  refine wd (zh rfl) ?_
  refine wsT rfl rfl (S.blk 0) fun w36 B hw36 zw36=>?_
  replace S:=S.store 0 B hw36
  refine zd (zb (za (wd (ldT rfl (S.blk 6)) (wd (zi rfl) ?_))))
  obtain ⟨r37,er37,H⟩ := zq H
  obtain ⟨_,_,T,bk⟩ := S.calln 0 ((.z 3 rfl .nil))
  refine zB (zx zaQ) zbp (zaV (a0:=a0) T er37) ?_
  rintro _ w38 ⟨rfl,S2⟩
  replace S:=bk _ _ _ _ S2 rfl
  refine wd (xV rfl) (zd (zb (za (wd (ldT rfl (S.blk 0)) ?_))))
  obtain ⟨r40,er40,H⟩ := zq H
  obtain ⟨_,_,T,bk⟩ := S.calln 0 ((.z 0 rfl .nil))
  refine zB (zx ca_term_freely) zbp (term_freely_st (a0:=(kd a0 i23)) T er40) ?_
  rintro _ w41 ⟨m43,rfl,S2⟩
  replace S:=bk _ _ _ _ S2 rfl
  refine wd (does_as_m rfl) (zd (zb (zb (za (wd (zT rfl) (wd (zT rfl) (wd (yf rfl rfl) ?_)))))))
  refine wd (zy rfl) ?_
  refine wg (fun hg=>yH rfl) ?_
  refine wg (fun hg=>zT rfl) ?_
  refine wg (fun hg=>vN (C:=Value.string) (D:=(Value.int .i64)) (key:=a1) (zv:=0) xX ve zv_int (zn hg) (zn hg) (S.map 0)) ?_
  refine wg (fun hg=>zL (zn hg) rfl) (wd (xq rfl (fun hp=>(zn (xe hp)))) (zd ?_))
  refine zF rfl (fun hc44=>?_) (fun hc44=>?_)
  ·replace H:=if_t hc44 H
   refine zb ?_
   obtain ⟨r46,er46,H⟩ := zq H
   refine x8 5 ⟨fun _ _=>True,fun _ _ _=>True,fun i v _=>match i with
    | 0=>v=Value.pointer (some ⟨b16,4,none⟩)
    | 1=>v=s28.v
    | 2=>v=Value.int .i64 i23
    | 3=>v=Value.agg (tmC (kd a0 i23) s32).toArray
    | _=>True⟩ (fun L g v => ∃ Z50:List OA,(∀ z ∈ (zf s32 ((kd a0 i23).sub) :: bigA xj ([]:List Term) ([]:List PTerm) :: bigA xj m29 x23_0.sub :: LT1),z ∈ Z50)∧Made L g Z50 4 57 (fun (c:SlV)=>Value.agg (tmC r46 c).toArray) (fun (c:SlV)=>[zf c r46.sub])∧St A N w v [oMS m43 r40,oB b35 zj (tmC (kd a0 i23) s32),oS zj 5 Term.C SlV.nil ([]:List Term),oB b16 zj (tmC x23_0 s28),oS zj 5 Term.C s28 m29,oB b6 zj (Term.C tmZ),oB b4 zj (tmC a2 s_2),oB b2 zj (tmC a0 s_0)] Z50) hmix zbs (fun _ _ _ _ _ _ _ hv=>hv) (fun g=>⟨_,fun _ h=>h,Made.no,S.ext (Ext.drawn _)⟩) ⟨?_,?_,?_,?_,?_,trivial⟩ ?_
   ·rintro L g v hL hcl hclo ⟨Z50,hZ,hm4,S⟩ 
    refine wd (ze zw rfl (o':=4) rfl) ?_
    exact w4 rfl ⟨_,hZ,hm4.keep rfl rfl tl0,S⟩
   ·rintro L g v hL hcl hclo ⟨Z50,hZ,hm4,S⟩ hv0
    refine wd (zl zr hv0 ((S.blk 3).cell (Term.get_sub _))) ?_
    exact w4 rfl ⟨_,hZ,hm4.keep rfl rfl tl0,S⟩
   ·rintro L g v hL hcl hclo ⟨Z50,hZ,hm4,S⟩ 
    refine wd (zi rfl) ?_
    exact w4 rfl ⟨_,hZ,hm4.keep rfl rfl tl0,S⟩
   ·rintro L g v hL hcl hclo ⟨Z50,hZ,hm4,S⟩ 
    refine wd (ldT rfl (S.blk 1)) ?_
    exact w4 rfl ⟨_,hZ,hm4.keep rfl rfl tl0,S⟩
   ·rintro L g v hL hcl hclo ⟨Z50,hZ,hm4,S⟩ hv3
    replace S:=(S.zneed hZ)
    obtain ⟨_,_,T,bk⟩ := S.sub [0] [] [oMS m43 r40,oB b35 zj (tmC (kd a0 i23) s32),oS zj 5 Term.C SlV.nil ([]:List Term),oB b16 zj (tmC x23_0 s28),oS zj 5 Term.C s28 m29,oB b6 zj (Term.C tmZ),oB b4 zj (tmC a2 s_2),oB b2 zj (tmC a0 s_0)]
    refine zB (zJ zaR (zQ hv3 rfl)) zbp (term_clone_st (a0:=(kd a0 i23)) T er46) ?_
    rintro _ w53 ⟨s55,rfl,S2⟩
    replace S:=bk _ _ _ _ _ S2 rfl rfl
    exact w4 trivial ⟨_,(fun z h=>tl8 z (hZ z h)),Made.one (val:=(fun (c:SlV)=>Value.agg (tmC r46 c).toArray)) (ps:=(fun (c:SlV)=>[zf c r46.sub])) s55 (xQ List.mem_cons_self x7),S⟩
   rintro L g w56 hLm ⟨Z50,hZ,hm4,S⟩ hv57_0 hv57_1 hv57_2 hv57_3 _
   have hLt : ∀ j,j < 5→L j=true:=fun j hj=>by rw [hLm]; exact decide_eq_true hj
   obtain ⟨s49,hv57_4,hp4⟩ := hm4 (hLt 4 zbp)
   replace S:=S.pickZ (xw (l1:=[zf s49 r46.sub]) hp4 hZ)
   clear hp4 hZ hm4
   obtain ⟨hi58,H⟩ := zU H
   refine wd (xg zp hv57_1 hv57_2 (S.rdO 4) (zC hi58).1 (by rw [(S.lenTm 3)]; exact (zC hi58).2)) ?_
   have hlw59:=S.lenO 4
   have hqw59:=(S.lenTm 3)
   refine kr (C:=Term.C) (a:=(tmT r46 s49)) zX rfl hv57_4 (S.sl 4) ⟨(zC hi58).1,by rw [hqw59]; exact (zC hi58).2⟩ (Term.len _) (Term.one _) fun w59 O hw59=>?_
   replace S:=S.push 4 O (by rw [List.length_set]; exact hlw59) hw59 (fun i hi => .inl hi)
   clear O hlw59 hqw59
   replace S:=S.setTm (x:=r46) 3 0 (Int.toNat i23)
   refine zd ?_
   refine xG (za (wd (xA q23_i rfl (c:=i23 + 1) rfl zbq zbq) (wd (zi rfl) (zd ?_))))
   replace S:=S.arr [3,4,0,5,6,7] [3,0,5,6,7,8]
   obtain rfl:=zbt H
   exact ⟨rfl,df,(m23,i23 + 1,(⟨x23_0.kind,x23_0.name,x23_0.other,x23_0.form,x23_0.sub.set (Int.toNat i23) r46⟩ : PTerm)),⟨(by dsimp only; omega),(by dsimp only; omega),e23,s28,m29.set (Int.toNat i23) (tmT r46 s49),rfl,S⟩,by dsimp only; omega⟩
  replace H:=if_f hc44 H
  refine zu (zb (zb (za (wd (zT rfl) (wd (vi rfl rfl) (wd (zy rfl) ?_))))))
  refine wg (fun hg=>yH rfl) ?_
  refine wg (fun hg=>zT rfl) ?_
  refine wg (fun hg=>vN (C:=Value.string) (D:=(Value.int .i64)) (key:=r37) (zv:=0) xX ve zv_int (zn hg) (zn hg) (S.mapZ 5)) ?_
  refine wg (fun hg=>ui (zn hg) rfl) (wd (zW rfl (fun hp=>(zn (xe hp)))) (zd ?_))
  obtain ⟨o60,e60,Ho60⟩ := zq H
  replace H:=e60; clear e60
  refine xr ([14] ++ rg 67 18) (fun fr W => ∃ s61:SlV,∃ s62:SlV,∃ m63:List Term,St A N w W [oMS m43 r40,oB b35 zj (tmC o60.1 s61),oS zj 5 Term.C SlV.nil ([]:List Term),oB b16 zj (tmC o60.2 s62),oS zj 5 Term.C s62 m63,oB b6 zj (Term.C tmZ),oB b4 zj (tmC a2 s_2),oB b2 zj (tmC a0 s_0)] (zf s61 o60.1.sub :: bigA xj ([]:List Term) ([]:List PTerm) :: bigA xj m63 o60.2.sub :: LT1)) ?_ ?_
  ·refine zF rfl (fun hc64=>?_) (fun hc64=>?_)
   ·replace H:=if_t hc64 H
    refine zb (za (wd (yH rfl) (wd (yH rfl) (wd (zT rfl) ?_))))
    obtain ⟨r65,er65,H⟩ := zq H
    obtain ⟨_,_,T,bk⟩ := S.calln 0 ((.o 0 rfl (.z 5 rfl (.z 6 rfl .nil))))
    refine zB (zx ca_term_fresh) zbp (term_fresh_st T er65) ?_
    rintro _ w66 ⟨rfl,S2⟩
    replace S:=bk _ _ _ _ S2 rfl
    refine wd (xV rfl) (zd (zb (za (wd (ldT rfl (S.blk 1)) (wd (zT rfl) (wd (zT rfl) ?_))))))
    refine wd (Does.to (v' := .agg (Term.C (tmM 1 r65 SlV.nil)).toArray) (xa (vs:=[(0,.int .i64 1),(1,.string r65)]) xW (xR rfl (xR rfl rfl)) (Bld.one rfl rfl (by rw [Term.len]; decide) (Term.set_kind _ _) (Bld.one rfl rfl (by rw [Term.len]; decide) (Term.set_name _ _) Bld.nil))) rfl) ?_
    refine wl_makeMap (C:=Value.string) (D:=(Value.int .i64)) zbp fun m68 w69 hmw69 hxw69 hlw69=>?_
    replace S:=S.newM hmw69 hxw69 hlw69
    refine wd (zT rfl) ?_
    refine wl_mapInsert (C:=Value.string) (D:=(Value.int .i64)) (key:=r65) (v:=1) xX ve rfl rfl rfl (S.map 0) fun w70 hmw70 hcw70 hsw70=>?_
    replace S:=S.mapSet 0 ⟨hmw70,hcw70,hsw70⟩
    refine wd (yH rfl) ?_
    replace S:=S.nilTm
    obtain ⟨r71,er71,H⟩ := zq H
    replace S:=S.frzO 0
    obtain ⟨_,_,T,bk⟩ := S.sub [2,1,0,8] [] [oMS m43 r40,oB b35 zj (tmC (kd a0 i23) s32),oS zj 5 Term.C SlV.nil ([]:List Term),oB b16 zj (tmC x23_0 s28),oS zj 5 Term.C s28 m29,oB b6 zj (Term.C tmZ),oB b4 zj (tmC a2 s_2),oB b2 zj (tmC a0 s_0)]
    refine zB (zx ca_term_put) zbp (zej (a0:=(kd a0 i23)) (a2:=(ptM 1 r65 [])) T er71) ?_
    rintro _ w72 ⟨s74,rfl,S2⟩
    replace S:=bk _ _ _ _ _ S2 rfl rfl
    refine wsT rfl rfl (S.blk 1) fun w75 B hw75 zw75=>?_
    replace S:=S.store 1 B hw75
    refine zd (zb (za (wd (zi rfl) (wd (zL rfl rfl) (zd ?_)))))
    refine zF rfl (fun hc76=>?_) (fun hc76=>?_)
    ·replace H:=if_t hc76 H
     refine za (wd (zT rfl) (wd (ze yr rfl (o':=2) rfl) ?_))
     refine xY xf rfl rfl (S.blk 3) (by rw [Term.len]; decide) rfl (Term.set_other _ _) fun w77 B hw77 zw77=>?_
     replace S:=S.store 3 B hw77
     refine zd ?_
     replace S:=S.arr [2,1,3,0,4,5,6,7] [0,4,5,6,7,8,9]
     obtain rfl:=zbt H
     exact ⟨rfl,df,s74,s28,m29,S⟩
    ·replace H:=if_f hc76 H
     refine za (wd (zT rfl) (wd (ze xz rfl (o':=1) rfl) ?_))
     refine xY xf rfl rfl (S.blk 3) (by rw [Term.len]; decide) rfl (Term.set_name _ _) fun w78 B hw78 zw78=>?_
     replace S:=S.store 3 B hw78
     refine zd ?_
     replace S:=S.arr [2,1,3,0,4,5,6,7] [0,4,5,6,7,8,9]
     obtain rfl:=zbt H
     exact ⟨rfl,df,s74,s28,m29,S⟩
   ·replace H:=if_f hc64 H
    refine zu ?_
    obtain rfl:=zbt H
    exact ⟨rfl,df,s32,s28,m29,S⟩
  rintro g79 u80 ⟨s61,s62,m63,S⟩
  have H:=Ho60
  obtain ⟨r82,er82,H⟩ := zq H
  refine x8 8 ⟨fun _ _=>True,fun _ _ _=>True,fun i v _=>match i with
   | 0=>v=Value.pointer (some ⟨b16,4,none⟩)
   | 1=>v=s62.v
   | 2=>v=Value.int .i64 i23
   | 3=>v=Value.agg (tmC o60.1 s61).toArray
   | 4=>v=Value.string a1
   | 5=>v=Value.agg (tmC a2 s_2).toArray
   | 6=>v=Value.map (some m_3)
   | _=>True⟩ (fun L g v => ∃ Z86:List OA,(∀ z ∈ (zf s61 o60.1.sub :: bigA xj ([]:List Term) ([]:List PTerm) :: bigA xj m63 o60.2.sub :: LT1),z ∈ Z86)∧Made L g Z86 7 92 (fun (c:SlV)=>Value.agg (tmC r82 c).toArray) (fun (c:SlV)=>[zf c r82.sub])∧St A N w v [oMS m43 r40,oB b35 zj (tmC o60.1 s61),oS zj 5 Term.C SlV.nil ([]:List Term),oB b16 zj (tmC o60.2 s62),oS zj 5 Term.C s62 m63,oB b6 zj (Term.C tmZ),oB b4 zj (tmC a2 s_2),oB b2 zj (tmC a0 s_0)] Z86) hmix zbs (fun _ _ _ _ _ _ _ hv=>hv) (fun g=>⟨_,fun _ h=>h,Made.no,S.ext (Ext.drawn _)⟩) ⟨?_,?_,?_,?_,?_,?_,?_,?_,trivial⟩ ?_
  ·rintro L g v hL hcl hclo ⟨Z86,hZ,hm7,S⟩ 
   refine wd (ze zw rfl (o':=4) rfl) ?_
   exact w4 rfl ⟨_,hZ,hm7.keep rfl rfl tl0,S⟩
  ·rintro L g v hL hcl hclo ⟨Z86,hZ,hm7,S⟩ hv0
   refine wd (zl zr hv0 ((S.blk 3).cell (Term.get_sub _))) ?_
   exact w4 rfl ⟨_,hZ,hm7.keep rfl rfl tl0,S⟩
  ·rintro L g v hL hcl hclo ⟨Z86,hZ,hm7,S⟩ 
   refine wd (zi rfl) ?_
   exact w4 rfl ⟨_,hZ,hm7.keep rfl rfl tl0,S⟩
  ·rintro L g v hL hcl hclo ⟨Z86,hZ,hm7,S⟩ 
   refine wd (ldT rfl (S.blk 1)) ?_
   exact w4 rfl ⟨_,hZ,hm7.keep rfl rfl tl0,S⟩
  ·rintro L g v hL hcl hclo ⟨Z86,hZ,hm7,S⟩ 
   refine wd (zT rfl) ?_
   exact w4 rfl ⟨_,hZ,hm7.keep rfl rfl tl0,S⟩
  ·rintro L g v hL hcl hclo ⟨Z86,hZ,hm7,S⟩ 
   refine wd (ldT rfl (S.blk 6)) ?_
   exact w4 rfl ⟨_,hZ,hm7.keep rfl rfl tl0,S⟩
  ·rintro L g v hL hcl hclo ⟨Z86,hZ,hm7,S⟩ 
   refine wd (yH rfl) ?_
   exact w4 rfl ⟨_,hZ,hm7.keep rfl rfl tl0,S⟩
  ·rintro L g v hL hcl hclo ⟨Z86,hZ,hm7,S⟩ hv3 hv4 hv5 hv6
   replace S:=(S.zneed hZ)
   obtain ⟨_,_,T,bk⟩ := S.sub [0,4,5,6] [] [oMS m43 r40,oB b35 zj (tmC o60.1 s61),oS zj 5 Term.C SlV.nil ([]:List Term),oB b16 zj (tmC o60.2 s62),oS zj 5 Term.C s62 m63,oB b6 zj (Term.C tmZ),oB b4 zj (tmC a2 s_2),oB b2 zj (tmC a0 s_0)]
   refine zB (zJ ca_term_put (zQ hv3 (zQ hv4 (zQ hv5 (zQ hv6 rfl))))) zbp (zej (a0:=o60.1) (a2:=a2) T er82) ?_
   rintro _ w89 ⟨s91,rfl,S2⟩
   replace S:=bk _ _ _ _ _ S2 rfl rfl
   exact w4 trivial ⟨_,(fun z h=>tl8 z (hZ z h)),Made.one (val:=(fun (c:SlV)=>Value.agg (tmC r82 c).toArray)) (ps:=(fun (c:SlV)=>[zf c r82.sub])) s91 (xQ List.mem_cons_self x7),S⟩
  rintro L g w92 hLm ⟨Z86,hZ,hm7,S⟩ hv93_0 hv93_1 hv93_2 hv93_3 hv93_4 hv93_5 hv93_6 _
  have hLt : ∀ j,j < 8→L j=true:=fun j hj=>by rw [hLm]; exact decide_eq_true hj
  obtain ⟨s85,hv93_7,hp7⟩ := hm7 (hLt 7 zbp)
  replace S:=S.pickZ (xw (l1:=[zf s85 r82.sub]) hp7 hZ)
  clear hp7 hZ hm7
  obtain ⟨hi94,H⟩ := zU H
  refine wd (xg zp hv93_1 hv93_2 (S.rdO 4) (zC hi94).1 (by rw [(S.lenTm 3)]; exact (zC hi94).2)) ?_
  have hlw95:=S.lenO 4
  have hqw95:=(S.lenTm 3)
  refine kr (C:=Term.C) (a:=(tmT r82 s85)) zX rfl hv93_7 (S.sl 4) ⟨(zC hi94).1,by rw [hqw95]; exact (zC hi94).2⟩ (Term.len _) (Term.one _) fun w95 O hw95=>?_
  replace S:=S.push 4 O (by rw [List.length_set]; exact hlw95) hw95 (fun i hi => .inl hi)
  clear O hlw95 hqw95
  replace S:=S.setTm (x:=r82) 3 0 (Int.toNat i23)
  refine zd (za (wd (xA q23_i rfl (c:=i23 + 1) rfl zbq zbq) (wd (zi rfl) (zd ?_))))
  replace S:=S.arr [3,4,0,5,6,7] [3,0,5,6,7,8]
  obtain rfl:=zbt H
  exact ⟨rfl,df,(m23,i23 + 1,(⟨o60.2.kind,o60.2.name,o60.2.other,o60.2.form,o60.2.sub.set (Int.toNat i23) r82⟩ : PTerm)),⟨(by dsimp only; omega),(by dsimp only; omega),e23,s62,m63.set (Int.toNat i23) (tmT r82 s85),rfl,S⟩,by dsimp only; omega⟩
 rintro g96 u97 ⟨s24,m25,S⟩
 have H:=Ho23
 refine zb (za ?_)
 replace S:=S.frzTm 2 1
 refine wd (ldT rfl (S.blk 1)) ?_
 refine wsT rfl rfl (S.blk 2) fun w98 B hw98 zw98=>?_
 replace S:=S.store 2 B hw98
 refine zd (zt ?_)
 refine ⟨_,(zP (rtT rfl (S.blk 0))),?_⟩
 replace S:=S.arr [] [0]
 obtain rfl:=zbt H
 exact ⟨s24,rfl,S⟩
theorem term_put_st {a0:PTerm} {s_0:SlV} {a1:ByteArray} {a2:PTerm} {s_2:SlV} {a3:List (ByteArray × Int)} {m_3:Nat} (S:St A N w w [] [zf s_0 a0.sub,zf s_2 a2.sub,oMS m_3 a3,oPw]) {k:Nat} {r:PTerm} (H:zcD.f k a0 a1 a2 a3=some r) :
  Calls PP zao #[.agg (tmC a0 s_0).toArray,.string a1,.agg (tmC a2 s_2).toArray,.map (some m_3)] w <| Rt fun v w'=>(∃ so0:SlV,v = .agg (tmC r so0).toArray∧St A N w w' [] [zf so0 r.sub]):=by
 have main : ∀ (k:Nat) {A:Nat→Prop} {N:Oth} {w:World} {a0:PTerm} {s_0:SlV} {a1:ByteArray} {a2:PTerm} {s_2:SlV} {a3:List (ByteArray × Int)} {m_3:Nat} (S:St A N w w [] [zf s_0 a0.sub,zf s_2 a2.sub,oMS m_3 a3,oPw]) {r:PTerm} (H:zcD.f k a0 a1 a2 a3=some r),Calls PP zao #[.agg (tmC a0 s_0).toArray,.string a1,.agg (tmC a2 s_2).toArray,.map (some m_3)] w <| Rt fun v w'=>(∃ so0:SlV,v = .agg (tmC r so0).toArray∧St A N w w' [] [zf so0 r.sub]):=by
  intro k
  induction k with
  | zero=>intro A N w a0 s_0 a1 a2 s_2 a3 m_3 S r H; cases H
  | succ k ih=>intro A N w a0 s_0 a1 a2 s_2 a3 m_3 S r H; exact term_put_gst ih S H
 exact main k S H
theorem kR {a0:PTerm} {s_0:SlV} {a1:ByteArray} {a2:PTerm} {s_2:SlV} (S:St A N w w [] [zf s_0 a0.sub,zf s_2 a2.sub,oPw]) {k:Nat} {r:PTerm × Int} (H:zcE.f k a0 a1 a2=some r) :
  Calls PP F_term_Put #[.agg (tmC a0 s_0).toArray,.string a1,.agg (tmC a2 s_2).toArray] w <| Rt fun v w'=>(∃ so0:SlV,v = .tuple #[.agg (tmC r.1 so0).toArray,.int .i64 r.2]∧St A N w w' [] [zf so0 r.1.sub]):=by
 unfold zcE.f at H
 refine zA (n:=51) Tryz.func106 rfl rfl zbr (zb (za ?_))
 refine zI rfl zbp fun b2 w1 hw1=>?_
 replace S:=S.new hw1
 refine zI rfl zbp fun b4 w3 hw3=>?_
 replace S:=S.new hw3
 refine zO xd zbp fun b6 w5 hw5=>?_
 replace S:=S.new hw5
 refine wd (zh rfl) (zd (zb (zb (za (wd (ldT rfl (S.blk 2)) ?_)))))
 obtain ⟨r7,er7,H⟩ := zq H
 obtain ⟨_,_,T,bk⟩ := S.calln 0 ((.z 0 rfl .nil))
 refine zB (zx jf) zbp (jh (a0:=a0) T er7) ?_
 rintro _ w8 ⟨rfl,S2⟩
 replace S:=bk _ _ _ _ S2 rfl
 refine wd (zh rfl) (zd (zb (za (wd (zi rfl) (wd (xp rfl rfl) (zd ?_))))))
 refine zF rfl (fun hc10=>?_) (fun hc10=>?_)
 ·replace H:=if_t hc10 H
  refine zb (za (wd (Does.to (v' := .agg (Term.C tmZ).toArray) (xa (vs:=[]) xW rfl Bld.nil) rfl) (wd (zi rfl) ?_)))
  refine wsT rfl rfl (S.blk 0) fun w11 B hw11 zw11=>?_
  replace S:=S.store 0 B hw11
  refine wd (zh rfl) (zd (zt ?_))
  replace S:=S.nilTm
  refine ⟨_,(xi (rtT rfl (S.blk 0)) (zg rfl)),?_⟩
  replace S:=S.arr [] [0]
  obtain rfl:=zbt H
  exact ⟨SlV.nil,rfl,S⟩
 replace H:=if_f hc10 H
 refine zu (zb (zb (za (wd (ldT rfl (S.blk 1)) ?_))))
 obtain ⟨r12,er12,H⟩ := zq H
 obtain ⟨_,_,T,bk⟩ := S.calln 0 ((.z 1 rfl .nil))
 refine zB (zx jf) zbp (jh (a0:=a2) T er12) ?_
 rintro _ w13 ⟨rfl,S2⟩
 replace S:=bk _ _ _ _ S2 rfl
 refine wd (zh rfl) (zd (zb (za (wd (zi rfl) (wd (xp rfl rfl) (zd ?_))))))
 refine zF rfl (fun hc15=>?_) (fun hc15=>?_)
 ·replace H:=if_t hc15 H
  refine zb (za (wd (Does.to (v' := .agg (Term.C tmZ).toArray) (xa (vs:=[]) xW rfl Bld.nil) rfl) (wd (zi rfl) ?_)))
  refine wsT rfl rfl (S.blk 0) fun w16 B hw16 zw16=>?_
  replace S:=S.store 0 B hw16
  refine wd (zh rfl) (zd (zt ?_))
  replace S:=S.nilTm
  refine ⟨_,(xi (rtT rfl (S.blk 0)) (zg rfl)),?_⟩
  replace S:=S.arr [] [0]
  obtain rfl:=zbt H
  exact ⟨SlV.nil,rfl,S⟩
 replace H:=if_f hc15 H
 refine zu (zb (zb (za (wd (zT rfl) ?_))))
 obtain ⟨r17,er17,H⟩ := zq H
 obtain ⟨_,_,T,bk⟩ := S.calln 0 ((.nil))
 refine zB (zx kU) zbp (formula_Word_st T er17) ?_
 rintro _ w18 ⟨rfl,S2⟩
 replace S:=bk _ _ _ _ S2 rfl
 refine wd (xc rfl) (zd ?_)
 refine zF rfl (fun hc20=>?_) (fun hc20=>?_)
 ·replace H:=if_t hc20 H
  refine zb (za (wd (Does.to (v' := .agg (Term.C tmZ).toArray) (xa (vs:=[]) xW rfl Bld.nil) rfl) ?_))
  refine wsT rfl rfl (S.blk 0) fun w21 B hw21 zw21=>?_
  replace S:=S.store 0 B hw21
  refine wd (zh rfl) (zd (zt ?_))
  replace S:=S.nilTm
  refine ⟨_,(xi (rtT rfl (S.blk 0)) (zg rfl)),?_⟩
  replace S:=S.arr [] [0]
  obtain rfl:=zbt H
  exact ⟨SlV.nil,rfl,S⟩
 replace H:=if_f hc20 H
 refine zu (zb ?_)
 refine xT 11 (Ext w18) hmix zbs zbs (Ext.drawn _) (zE (fun v K=>zz zX rfl (((S.ext K).blk 2).all _ (Term.len _)) (Term.len _)) (zE (fun v K=>zT rfl) (zE (fun v K=>zz zX rfl (((S.ext K).blk 1).all _ (Term.len _)) (Term.len _)) ?_)))
 obtain ⟨r22,er22,H⟩ := zq H
 refine kz (fun v=>zx ca_term_Size) (fun v K=>(have ⟨M,SS⟩ := (S.ext K).lend ((.z 1 rfl .nil)); quiet (term_Size_st (a0:=a2) SS er22) (fun v w' h=>⟨h.1,_,_,h.2⟩))) (fun v v' K h=>K.thenExt h) (zE (fun v K=>zz zX rfl (((S.ext K).blk 1).all _ (Term.len _)) (Term.len _)) ?_)
 obtain ⟨r23,er23,H⟩ := zq H
 refine kz (fun v=>zx ca_term_Deep) (fun v K=>(have ⟨M,SS⟩ := (S.ext K).lend ((.z 1 rfl .nil)); quiet (term_Deep_st (a0:=a2) SS er23) (fun v w' h=>⟨h.1,_,_,h.2⟩))) (fun v v' K h=>K.thenExt h) ?_
 obtain ⟨r24,er24,H⟩ := zq H
 refine kz (fun v=>zx ca_term_grown) (fun v K=>(have ⟨M,SS⟩ := (S.ext K).lend ((.z 0 rfl .nil)); quiet (term_grown_st (a0:=a0) SS er24) (fun v w' h=>⟨h.1,_,_,h.2⟩))) (fun v v' K h=>K.thenExt h) (zE (fun v K=>z7 rfl) (zE (fun v K=>zo rfl rfl) (zE (fun v K=>zo rfl rfl) (zE (fun v K=>zh rfl) ?_))))
 refine yE fun w25 K=>?_
 replace S:=S.ext K
 clear K
 refine wd (zh rfl) (zd (zb (zb (za (wd (zi rfl) (wd (ui rfl rfl) (wd (zy rfl) ?_)))))))
 refine wg (fun hg=>zi rfl) ?_
 refine wg (fun hg=>ui (zn hg) rfl) (wd (xq rfl (fun hp=>(zn (xe hp)))) (zd ?_))
 refine zF rfl (fun hc26=>?_) (fun hc26=>?_)
 ·replace H:=if_t hc26 H
  refine zb (za (wd (Does.to (v' := .agg (Term.C tmZ).toArray) (xa (vs:=[]) xW rfl Bld.nil) rfl) ?_))
  refine wsT rfl rfl (S.blk 0) fun w27 B hw27 zw27=>?_
  replace S:=S.store 0 B hw27
  refine wd (zh rfl) (zd (zt ?_))
  replace S:=S.nilTm
  refine ⟨_,(xi (rtT rfl (S.blk 0)) (zg rfl)),?_⟩
  replace S:=S.arr [] [0]
  obtain rfl:=zbt H
  exact ⟨SlV.nil,rfl,S⟩
 replace H:=if_f hc26 H
 refine zu (zb ?_)
 obtain ⟨r29,er29,H⟩ := zq H
 let LT1:List OA:=[oB b6 zj (Term.C tmZ),oB b4 zj (tmC a2 s_2),oB b2 zj (tmC a0 s_0)]
 refine x8 5 ⟨fun _ _=>True,fun _ _ _=>True,fun i v _=>match i with
  | 0=>v=Value.agg (tmC a0 s_0).toArray
  | 1=>v=Value.string a1
  | 2=>v=Value.agg (tmC a2 s_2).toArray
  | 3=>v=Value.agg (tmC a2 s_2).toArray
  | _=>True⟩ (fun L g v => ∃ m32:Nat,∃ O34:List OA,∃ Z33:List OA,(∀ z ∈ [zf s_0 a0.sub,zf s_2 a2.sub,oPw],z ∈ Z33)∧(L 4=true→g 49=Value.map (some m32))∧O34=((bif L 4 then [oMS m32 r29] else []) ++ LT1)∧St A N w v O34 Z33) hmix zbs (fun _ _ _ _ _ _ _ hv=>hv) (fun g=>⟨0,_,_,fun _ h=>h,(fun h=>by cases h),rfl,S.ext (Ext.drawn _)⟩) ⟨?_,?_,?_,?_,?_,trivial⟩ ?_
 ·rintro L g v hL hcl hclo ⟨m32,O34,Z33,hZ,hk4,hO,S⟩ 
  have SR:St A N w v LT1 (zf s_0 a0.sub :: zf s_2 a2.sub :: oPw :: Z33):=by
   have S2:=S.zneed hZ
   rw [hO] at S2
   exact S2.drops
  refine wd (ldT rfl (SR.blk 2)) ?_
  exact w4 rfl ⟨m32,O34,Z33,hZ,(kpU hk4),by rw [hO]; simp only [pN L 0 4],S⟩
 ·rintro L g v hL hcl hclo ⟨m32,O34,Z33,hZ,hk4,hO,S⟩ 
  have SR:St A N w v LT1 (zf s_0 a0.sub :: zf s_2 a2.sub :: oPw :: Z33):=by
   have S2:=S.zneed hZ
   rw [hO] at S2
   exact S2.drops
  refine wd (zT rfl) ?_
  exact w4 rfl ⟨m32,O34,Z33,hZ,(kpU hk4),by rw [hO]; simp only [pN L 1 4],S⟩
 ·rintro L g v hL hcl hclo ⟨m32,O34,Z33,hZ,hk4,hO,S⟩ 
  have SR:St A N w v LT1 (zf s_0 a0.sub :: zf s_2 a2.sub :: oPw :: Z33):=by
   have S2:=S.zneed hZ
   rw [hO] at S2
   exact S2.drops
  refine wd (ldT rfl (SR.blk 1)) ?_
  exact w4 rfl ⟨m32,O34,Z33,hZ,(kpU hk4),by rw [hO]; simp only [pN L 2 4],S⟩
 ·rintro L g v hL hcl hclo ⟨m32,O34,Z33,hZ,hk4,hO,S⟩ 
  have hl4:=clF hL (hclo 4 3 · zbs)
  have SR:St A N w v LT1 (zf s_0 a0.sub :: zf s_2 a2.sub :: oPw :: Z33):=by
   have S2:=S.zneed hZ
   rw [hO] at S2
   simp only [hl4,cd2,la2] at S2
   exact S2
  refine wd (ldT rfl (SR.blk 1)) ?_
  exact w4 rfl ⟨m32,O34,Z33,hZ,(kpU hk4),by rw [hO]; simp only [pN L 3 4],S⟩
 ·rintro L g v hL hcl hclo ⟨m32,O34,Z33,hZ,hk4,hO,S⟩ hv3
  have hl4:L 4=false:=hL
  have hOP : ∃ P Y,P=[]∧Y=LT1∧O34=P ++ ([] ++ Y):=⟨_,_,rfl,rfl,by rw [hO]; simp only [hl4,cd2,la2]⟩
  obtain ⟨P,Y,hP,hY,hPY⟩ := hOP
  rw [hPY] at S
  replace S:=(S.zneed hZ)
  obtain ⟨_,_,T,bk⟩ := S.calln 0 ((.z 1 rfl .nil))
  refine zB (zJ ca_term_freely (zQ hv3 rfl)) zbp (term_freely_st (a0:=a2) T er29) ?_
  rintro _ w36 ⟨m38,rfl,S2⟩
  replace S:=bk _ _ _ _ S2 rfl
  refine w4 trivial ⟨m38,P ++ ([oMS m38 r29] ++ Y),_,(fun z h=>tl3 z (hZ z h)),(fun _=>upd_same _ _ _),?_,S.ins (P:=[oMS m38 r29])⟩
  rw [hP,hY]; simp only [xB (L:=L) (i:=4),cd2,la2]
 rintro L g w39 hLm ⟨m32,O34,Z33,hZ,hk4,hO,S⟩ hv40_0 hv40_1 hv40_2 hv40_3 _
 have hLt : ∀ j,j < 5→L j=true:=fun j hj=>by rw [hLm]; exact decide_eq_true hj
 have hv40_4:=hk4 (hLt 4 zbp)
 simp only [hLt 4 zbp,cond_true,List.nil_append,List.cons_append] at hO
 rw [hO] at S
 replace S:=S.pickZ hZ
 clear  hZ 
 obtain ⟨r41,er41,H⟩ := zq H
 replace S:=S.frzO 0
 obtain ⟨_,_,T,bk⟩ := S.sub [1,2,0,3] [] LT1
 refine zB (zJ ca_term_put (zQ hv40_0 (zQ hv40_1 (zQ hv40_2 (zQ hv40_4 rfl))))) zbp (term_put_st (a0:=a0) (a2:=a2) T er41) ?_
 rintro _ w42 ⟨s44,rfl,S2⟩
 replace S:=bk _ _ _ _ _ S2 rfl rfl
 refine wsT rfl rfl (S.blk 0) fun w45 B hw45 zw45=>?_
 replace S:=S.store 0 B hw45
 refine wd (zh rfl) (zd (zt ?_))
 refine ⟨_,(xi (rtT rfl (S.blk 0)) (zg rfl)),?_⟩
 replace S:=S.arr [] [0]
 obtain rfl:=zbt H
 exact ⟨s44,rfl,S⟩
theorem reduce_rules_2_st {a0:Tb} {a_0:Option Addr} {a1:PTerm} {s_1:SlV} (S:St A N w w [] [oT a_0 a0,zf s_1 a1.sub,oPw]) {k:Nat} {r:PTerm × Int} (H:zcF.f k a0 a1=some r) :
  Calls PP vq #[.pointer a_0,.agg (tmC a1 s_1).toArray] w <| Rt fun v w'=>(∃ so0:SlV,v = .tuple #[.agg (tmC r.1 so0).toArray,.int .i64 r.2]∧St A N w w' [] [zf so0 r.1.sub]):=by
 unfold zcF.f at H
 refine zA (n:=25) Tryz.func105 rfl rfl zbr (zb (za ?_))
 refine zI rfl zbp fun b2 w1 hw1=>?_
 replace S:=S.new hw1
 refine zO xd zbp fun b4 w3 hw3=>?_
 replace S:=S.new hw3
 refine wd (zh rfl) (zd (zb ?_))
 refine wc_ws hmix fun w16 K=>?_
 replace S:=S.ext K
 clear K
 obtain ⟨hi17,H⟩ := zU H
 obtain ⟨s18,hc19,S⟩ := S.viewTerm 1 (zC hi17)
 replace S:=S.zs [1,2,3,0]
 obtain ⟨hi20,H⟩ := zU H
 obtain ⟨s21,hc22,S⟩ := S.viewTerm 3 (zC hi20)
 replace S:=S.zs [1,2,3,4,0]
 obtain ⟨hi23,H⟩ := zU H
 obtain ⟨hi24,H⟩ := zU H
 obtain ⟨s25,hc26,S⟩ := S.viewTerm 1 (zC hi24)
 replace S:=S.zs [1,2,3,4,5,0]
 refine yO 0 16 [] zbs zbp zbs
  (V:=fun i v u=>match i with
  | _=>True) ?_ ?_
 ·intro i v u u' hi hx hv
  match i,hv with
  | _,_=>exact trivial
 refine zR (fun v K=>ze zw rfl (o':=4) rfl) rfl (zR (fun v K=>zl zr rfl (((S.ext K).blk 1).cell (Term.get_sub _))) rfl (zR (fun v K=>does_indexF zp rfl rfl ((S.ext K).onZ 1) (zC hi17).1 (zC hi17).2) rfl (zR (fun v K=>ze zw rfl (o':=_) rfl) rfl (zR (fun v K=>zl zr rfl ((hc19.chg K (fun x=>x)).get (Term.get_sub _))) rfl (zR (fun v K=>does_indexF zp rfl rfl ((S.ext K).onZ 3) (zC hi20).1 (zC hi20).2) rfl ?_)))))
 refine zR (fun v K=>zz zX rfl (hc22.chg K (fun x=>x)) (Term.len _)) rfl (zR (fun v K=>ze zw rfl (o':=4) rfl) rfl (zR (fun v K=>zl zr rfl (((S.ext K).blk 1).cell (Term.get_sub _))) rfl (zR (fun v K=>does_indexF zp rfl rfl ((S.ext K).onZ 1) (zC hi23).1 (zC hi23).2) rfl (zR (fun v K=>ze xz rfl (o':=_) rfl) rfl (zR (fun v K=>zl xf rfl (yM.get_name ((S.ext K).onZ 1) (zC hi23))) rfl ?_)))))
 refine zR (fun v K=>ze zw rfl (o':=4) rfl) rfl (zR (fun v K=>zl zr rfl (((S.ext K).blk 1).cell (Term.get_sub _))) rfl (zR (fun v K=>does_indexF zp rfl rfl ((S.ext K).onZ 1) (zC hi24).1 (zC hi24).2) rfl (zR (fun v K=>zz zX rfl (hc26.chg K (fun x=>x)) (Term.len _)) rfl ?_)))
 refine vB fun g w27 K hV=>?_
 replace S:=S.ext K
 clear K hV
 refine uQ 16 17 zbs zbp ?_
 obtain ⟨r29,er29,H⟩ := zq H
 obtain ⟨_,_,T,bk⟩ := S.sub [4,5,2] [] [oB b4 zj (Term.C tmZ),oB b2 zj (tmC a1 s_1)]
 refine zB (zx kJ) zbp (kR (a0:=(kd (kd a1 0) 0)) (a2:=(kd a1 1)) T er29) ?_
 rintro _ w30 ⟨s32,rfl,S2⟩
 replace S:=bk _ _ _ _ _ S2 rfl rfl
 refine zd ⟨rfl,?_⟩
 refine yO 17 19 [] zbs zbp zbs
  (V:=fun i v u=>match i with
  | _=>True) ?_ ?_
 ·intro i v u u' hi hx hv
  match i,hv with
  | _,_=>exact trivial
 refine zR (fun v K=>zo rfl rfl) rfl (zR (fun v K=>zo rfl rfl) rfl ?_)
 refine vB fun g w33 K hV=>?_
 replace S:=S.ext K
 clear K hV
 refine j4 19 zbs zbp ?_
 refine wsT rfl rfl (S.blk 0) fun w35 B hw35 zw35=>?_
 replace S:=S.store 0 B hw35
 refine wd (zh rfl) (zd (zt ?_))
 refine ⟨_,(xi (rtT rfl (S.blk 0)) (zg rfl)),?_⟩
 replace S:=S.arr [] [0]
 obtain rfl:=zbt H
 exact ⟨s32,rfl,S⟩
theorem reduce_rules_4_st {a0:Tb} {a_0:Option Addr} {a1:PTerm} {s_1:SlV} (S:St A N w w [] [oT a_0 a0,zf s_1 a1.sub,oPw]) {k:Nat} {r:PTerm × Int} (H:zcG.f k a0 a1=some r) :
  Calls PP vr #[.pointer a_0,.agg (tmC a1 s_1).toArray] w <| Rt fun v w'=>(∃ so0:SlV,v = .tuple #[.agg (tmC r.1 so0).toArray,.int .i64 r.2]∧St A N w w' [] [zf so0 r.1.sub]):=by
 unfold zcG.f at H
 refine zA (n:=40) Tryz.func109 rfl rfl zbr (zb (za ?_))
 refine zI rfl zbp fun b2 w1 hw1=>?_
 replace S:=S.new hw1
 refine zO xd zbp fun b4 w3 hw3=>?_
 replace S:=S.new hw3
 refine wd (zh rfl) (zd (zb (za (wd (ze zw rfl (o':=4) rfl) (wd (zl zr rfl ((S.blk 1).cell (Term.get_sub _))) ?_)))))
 obtain ⟨hi5,H⟩ := zU H
 refine wd (does_indexF zp rfl rfl (S.onZ 1) (zC hi5).1 (zC hi5).2) (wd (ze zw rfl (o':=_) rfl) ?_)
 obtain ⟨s6,hc7,S⟩ := S.viewTerm 1 (zC hi5)
 replace S:=S
 refine wd (zl zr rfl (hc7.get (Term.get_sub _))) ?_
 obtain ⟨hi8,H⟩ := zU H
 refine wd (does_indexF zp rfl rfl (S.onZ 0) (zC hi8).1 (zC hi8).2) ?_
 obtain ⟨s9,hc10,S⟩ := S.viewTerm 0 (zC hi8)
 replace S:=S
 refine wd (ldC rfl hc10) ?_
 refine zO xd zbp fun b12 w11 hw11=>?_
 replace S:=S.new hw11
 refine wsT rfl rfl (S.blk 0) fun w13 B hw13 zw13=>?_
 replace S:=S.store 0 B hw13
 refine zd (zb ?_)
 obtain ⟨hi22,H⟩ := zU H
 obtain ⟨hi24,H⟩ := zU H
 obtain ⟨r26,er26,H⟩ := zq H
 obtain ⟨r29,er29,H⟩ := zq H
 obtain ⟨r33,er33,H⟩ := zq H
 obtain ⟨s23,S⟩ := S.viewTermC 0 (zC hi22)
 replace S:=S
 obtain ⟨s25,S⟩ := S.viewTermC 5 (zC hi24)
 replace S:=S.zs [4,5,6,7,8,2,3,0,1]
 let LT2:List OA:=[oB b12 zj (tmC (kd (kd a1 0) 0) s9),oB b4 zj (Term.C tmZ),oB b2 zj (tmC a1 s_1)]
 refine x8 20 ⟨fun _ _=>True,fun _ _ _=>True,fun i v _=>match i with
  | 0=>v=Value.pointer (some ⟨b12,4,none⟩)
  | 1=>v=s9.v
  | 2=>v=Value.pointer (some ⟨s9.blk,s9.off + Int.toNat 0 * 5,none⟩)
  | 3=>v=Value.agg (tmC (kd (kd (kd a1 0) 0) 0) s23).toArray
  | 4=>v=Value.pointer (some ⟨b12,1,none⟩)
  | 5=>v=Value.string ((kd (kd a1 0) 0).name)
  | 6=>v=Value.pointer (some ⟨b2,4,none⟩)
  | 7=>v=s_1.v
  | 8=>v=Value.pointer (some ⟨s_1.blk,s_1.off + Int.toNat 1 * 5,none⟩)
  | 9=>v=Value.agg (tmC (kd a1 1) s25).toArray
  | 10=>v=Value.pointer a_0
  | 11=>v=Value.agg (tmC a1 s_1).toArray
  | 12=>v=Value.int .i64 r26
  | 17=>v=Value.int .i64 r33.2
  | _=>True⟩ (fun L g v => ∃ b38:Nat,∃ s40:SlV,∃ O42:List OA,∃ Z41:List OA,(∀ z ∈ [zf s9 ((kd (kd a1 0) 0).sub),zf s6 ((kd a1 0).sub),oT a_0 a0,zf s_1 a1.sub,oPw,oCl s9.blk (s9.off + Int.toNat 0 * 5) (tmC (kd (kd (kd a1 0) 0) 0) s23),zf s23 ((kd (kd (kd a1 0) 0) 0).sub),oCl s_1.blk (s_1.off + Int.toNat 1 * 5) (tmC (kd a1 1) s25),zf s25 ((kd a1 1).sub)],z ∈ Z41)∧Made L g Z41 13 30 (fun (c:SlV)=>Value.agg (tmC r29 c).toArray) (fun (c:SlV)=>[zf c r29.sub])∧Made L g Z41 14 31 (fun (c:SlV)=>Value.tuple #[.agg (tmC r33.1 c).toArray,.int .i64 r33.2]) (fun (c:SlV)=>[zf c r33.1.sub])∧Made L g Z41 15 16 (fun (c:SlV)=>Value.tuple #[.agg (tmC r33.1 c).toArray,.int .i64 r33.2]) (fun (c:SlV)=>[zf c r33.1.sub])∧Made L g Z41 16 32 (fun (c:SlV)=>Value.agg (tmC r33.1 c).toArray) (fun (c:SlV)=>[zf c r33.1.sub])∧(L 18=true→g 7=Value.pointer (some ⟨b38,0,none⟩))∧(L 19=true → ∀ z ∈ [zf s40 r33.1.sub],z ∈ Z41)∧O42=((bif L 19 then [oB b38 zj (tmC r33.1 s40)] else (bif L 18 then [oB b38 zj (Term.C tmZ)] else [])) ++ LT2)∧St A N w v O42 Z41) hmix zbs (fun _ _ _ _ _ _ _ hv=>hv) (fun g=>⟨0,SlV.nil,_,_,fun _ h=>h,Made.no,Made.no,Made.no,Made.no,(fun h=>by cases h),(fun h=>by cases h),rfl,S.ext (Ext.drawn _)⟩) ⟨?_,?_,?_,?_,?_,?_,?_,?_,?_,?_,?_,?_,?_,?_,?_,?_,?_,?_,?_,?_,trivial⟩ ?_
 ·rintro L g v hL hcl hclo ⟨b38,s40,O42,Z41,hZ,hm13,hm14,hm15,hm16,hk18,hq19,hO,S⟩ 
  have hl19:=clF hL (hclo 19 0 · zbs)
  have SR:St A N w v LT2 (zf s9 ((kd (kd a1 0) 0).sub) :: zf s6 ((kd a1 0).sub) :: oT a_0 a0 :: zf s_1 a1.sub :: oPw :: oCl s9.blk (s9.off + Int.toNat 0 * 5) (tmC (kd (kd (kd a1 0) 0) 0) s23) :: zf s23 ((kd (kd (kd a1 0) 0) 0).sub) :: oCl s_1.blk (s_1.off + Int.toNat 1 * 5) (tmC (kd a1 1) s25) :: zf s25 ((kd a1 1).sub) :: Z41):=by
   have S2:=S.zneed hZ
   rw [hO] at S2
   simp only [hl19,cd2,la2] at S2
   exact S2.drops
  refine wd (ze zw rfl (o':=4) rfl) ?_
  exact w4 rfl ⟨b38,s40,O42,Z41,hZ,hm13.keep rfl rfl tl0,hm14.keep rfl rfl tl0,hm15.keep rfl rfl tl0,hm16.keep rfl rfl tl0,(kpU hk18),(kpZ tl0 hq19),by rw [hO]; simp only [pN L 0 18,pN L 0 19],S⟩
 ·rintro L g v hL hcl hclo ⟨b38,s40,O42,Z41,hZ,hm13,hm14,hm15,hm16,hk18,hq19,hO,S⟩ hv0
  have hl19:=clF hL (hclo 19 1 · zbs)
  have SR:St A N w v LT2 (zf s9 ((kd (kd a1 0) 0).sub) :: zf s6 ((kd a1 0).sub) :: oT a_0 a0 :: zf s_1 a1.sub :: oPw :: oCl s9.blk (s9.off + Int.toNat 0 * 5) (tmC (kd (kd (kd a1 0) 0) 0) s23) :: zf s23 ((kd (kd (kd a1 0) 0) 0).sub) :: oCl s_1.blk (s_1.off + Int.toNat 1 * 5) (tmC (kd a1 1) s25) :: zf s25 ((kd a1 1).sub) :: Z41):=by
   have S2:=S.zneed hZ
   rw [hO] at S2
   simp only [hl19,cd2,la2] at S2
   exact S2.drops
  refine wd (zl zr hv0 ((SR.blk 0).cell (Term.get_sub _))) ?_
  exact w4 rfl ⟨b38,s40,O42,Z41,hZ,hm13.keep rfl rfl tl0,hm14.keep rfl rfl tl0,hm15.keep rfl rfl tl0,hm16.keep rfl rfl tl0,(kpU hk18),(kpZ tl0 hq19),by rw [hO]; simp only [pN L 1 18,pN L 1 19],S⟩
 ·rintro L g v hL hcl hclo ⟨b38,s40,O42,Z41,hZ,hm13,hm14,hm15,hm16,hk18,hq19,hO,S⟩ hv1
  have hl19:=clF hL (hclo 19 2 · zbs)
  have SR:St A N w v LT2 (zf s9 ((kd (kd a1 0) 0).sub) :: zf s6 ((kd a1 0).sub) :: oT a_0 a0 :: zf s_1 a1.sub :: oPw :: oCl s9.blk (s9.off + Int.toNat 0 * 5) (tmC (kd (kd (kd a1 0) 0) 0) s23) :: zf s23 ((kd (kd (kd a1 0) 0) 0).sub) :: oCl s_1.blk (s_1.off + Int.toNat 1 * 5) (tmC (kd a1 1) s25) :: zf s25 ((kd a1 1).sub) :: Z41):=by
   have S2:=S.zneed hZ
   rw [hO] at S2
   simp only [hl19,cd2,la2] at S2
   exact S2.drops
  refine wd (does_indexF zp hv1 rfl (SR.onZ 0) (zC hi22).1 (zC hi22).2) ?_
  exact w4 rfl ⟨b38,s40,O42,Z41,hZ,hm13.keep rfl rfl tl0,hm14.keep rfl rfl tl0,hm15.keep rfl rfl tl0,hm16.keep rfl rfl tl0,(kpU hk18),(kpZ tl0 hq19),by rw [hO]; simp only [pN L 2 18,pN L 2 19],S⟩
 ·rintro L g v hL hcl hclo ⟨b38,s40,O42,Z41,hZ,hm13,hm14,hm15,hm16,hk18,hq19,hO,S⟩ hv2
  have hl19:=clF hL (hclo 19 3 · zbs)
  have SR:St A N w v LT2 (zf s9 ((kd (kd a1 0) 0).sub) :: zf s6 ((kd a1 0).sub) :: oT a_0 a0 :: zf s_1 a1.sub :: oPw :: oCl s9.blk (s9.off + Int.toNat 0 * 5) (tmC (kd (kd (kd a1 0) 0) 0) s23) :: zf s23 ((kd (kd (kd a1 0) 0) 0).sub) :: oCl s_1.blk (s_1.off + Int.toNat 1 * 5) (tmC (kd a1 1) s25) :: zf s25 ((kd a1 1).sub) :: Z41):=by
   have S2:=S.zneed hZ
   rw [hO] at S2
   simp only [hl19,cd2,la2] at S2
   exact S2.drops
  refine wd (zz zX hv2 (SR.cl 5) (Term.len _)) ?_
  exact w4 rfl ⟨b38,s40,O42,Z41,hZ,hm13.keep rfl rfl tl0,hm14.keep rfl rfl tl0,hm15.keep rfl rfl tl0,hm16.keep rfl rfl tl0,(kpU hk18),(kpZ tl0 hq19),by rw [hO]; simp only [pN L 3 18,pN L 3 19],S⟩
 ·rintro L g v hL hcl hclo ⟨b38,s40,O42,Z41,hZ,hm13,hm14,hm15,hm16,hk18,hq19,hO,S⟩ 
  have hl19:=clF hL (hclo 19 4 · zbs)
  have SR:St A N w v LT2 (zf s9 ((kd (kd a1 0) 0).sub) :: zf s6 ((kd a1 0).sub) :: oT a_0 a0 :: zf s_1 a1.sub :: oPw :: oCl s9.blk (s9.off + Int.toNat 0 * 5) (tmC (kd (kd (kd a1 0) 0) 0) s23) :: zf s23 ((kd (kd (kd a1 0) 0) 0).sub) :: oCl s_1.blk (s_1.off + Int.toNat 1 * 5) (tmC (kd a1 1) s25) :: zf s25 ((kd a1 1).sub) :: Z41):=by
   have S2:=S.zneed hZ
   rw [hO] at S2
   simp only [hl19,cd2,la2] at S2
   exact S2.drops
  refine wd (ze xz rfl (o':=1) rfl) ?_
  exact w4 rfl ⟨b38,s40,O42,Z41,hZ,hm13.keep rfl rfl tl0,hm14.keep rfl rfl tl0,hm15.keep rfl rfl tl0,hm16.keep rfl rfl tl0,(kpU hk18),(kpZ tl0 hq19),by rw [hO]; simp only [pN L 4 18,pN L 4 19],S⟩
 ·rintro L g v hL hcl hclo ⟨b38,s40,O42,Z41,hZ,hm13,hm14,hm15,hm16,hk18,hq19,hO,S⟩ hv4
  have hl19:=clF hL (hclo 19 5 · zbs)
  have SR:St A N w v LT2 (zf s9 ((kd (kd a1 0) 0).sub) :: zf s6 ((kd a1 0).sub) :: oT a_0 a0 :: zf s_1 a1.sub :: oPw :: oCl s9.blk (s9.off + Int.toNat 0 * 5) (tmC (kd (kd (kd a1 0) 0) 0) s23) :: zf s23 ((kd (kd (kd a1 0) 0) 0).sub) :: oCl s_1.blk (s_1.off + Int.toNat 1 * 5) (tmC (kd a1 1) s25) :: zf s25 ((kd a1 1).sub) :: Z41):=by
   have S2:=S.zneed hZ
   rw [hO] at S2
   simp only [hl19,cd2,la2] at S2
   exact S2.drops
  refine wd (zl xf hv4 ((SR.blk 0).cell (Term.get_name _))) ?_
  exact w4 rfl ⟨b38,s40,O42,Z41,hZ,hm13.keep rfl rfl tl0,hm14.keep rfl rfl tl0,hm15.keep rfl rfl tl0,hm16.keep rfl rfl tl0,(kpU hk18),(kpZ tl0 hq19),by rw [hO]; simp only [pN L 5 18,pN L 5 19],S⟩
 ·rintro L g v hL hcl hclo ⟨b38,s40,O42,Z41,hZ,hm13,hm14,hm15,hm16,hk18,hq19,hO,S⟩ 
  have hl19:=clF hL (hclo 19 6 · zbs)
  have SR:St A N w v LT2 (zf s9 ((kd (kd a1 0) 0).sub) :: zf s6 ((kd a1 0).sub) :: oT a_0 a0 :: zf s_1 a1.sub :: oPw :: oCl s9.blk (s9.off + Int.toNat 0 * 5) (tmC (kd (kd (kd a1 0) 0) 0) s23) :: zf s23 ((kd (kd (kd a1 0) 0) 0).sub) :: oCl s_1.blk (s_1.off + Int.toNat 1 * 5) (tmC (kd a1 1) s25) :: zf s25 ((kd a1 1).sub) :: Z41):=by
   have S2:=S.zneed hZ
   rw [hO] at S2
   simp only [hl19,cd2,la2] at S2
   exact S2.drops
  refine wd (ze zw rfl (o':=4) rfl) ?_
  exact w4 rfl ⟨b38,s40,O42,Z41,hZ,hm13.keep rfl rfl tl0,hm14.keep rfl rfl tl0,hm15.keep rfl rfl tl0,hm16.keep rfl rfl tl0,(kpU hk18),(kpZ tl0 hq19),by rw [hO]; simp only [pN L 6 18,pN L 6 19],S⟩
 ·rintro L g v hL hcl hclo ⟨b38,s40,O42,Z41,hZ,hm13,hm14,hm15,hm16,hk18,hq19,hO,S⟩ hv6
  have hl19:=clF hL (hclo 19 7 · zbs)
  have SR:St A N w v LT2 (zf s9 ((kd (kd a1 0) 0).sub) :: zf s6 ((kd a1 0).sub) :: oT a_0 a0 :: zf s_1 a1.sub :: oPw :: oCl s9.blk (s9.off + Int.toNat 0 * 5) (tmC (kd (kd (kd a1 0) 0) 0) s23) :: zf s23 ((kd (kd (kd a1 0) 0) 0).sub) :: oCl s_1.blk (s_1.off + Int.toNat 1 * 5) (tmC (kd a1 1) s25) :: zf s25 ((kd a1 1).sub) :: Z41):=by
   have S2:=S.zneed hZ
   rw [hO] at S2
   simp only [hl19,cd2,la2] at S2
   exact S2.drops
  refine wd (zl zr hv6 ((SR.blk 2).cell (Term.get_sub _))) ?_
  exact w4 rfl ⟨b38,s40,O42,Z41,hZ,hm13.keep rfl rfl tl0,hm14.keep rfl rfl tl0,hm15.keep rfl rfl tl0,hm16.keep rfl rfl tl0,(kpU hk18),(kpZ tl0 hq19),by rw [hO]; simp only [pN L 7 18,pN L 7 19],S⟩
 ·rintro L g v hL hcl hclo ⟨b38,s40,O42,Z41,hZ,hm13,hm14,hm15,hm16,hk18,hq19,hO,S⟩ hv7
  have hl19:=clF hL (hclo 19 8 · zbs)
  have SR:St A N w v LT2 (zf s9 ((kd (kd a1 0) 0).sub) :: zf s6 ((kd a1 0).sub) :: oT a_0 a0 :: zf s_1 a1.sub :: oPw :: oCl s9.blk (s9.off + Int.toNat 0 * 5) (tmC (kd (kd (kd a1 0) 0) 0) s23) :: zf s23 ((kd (kd (kd a1 0) 0) 0).sub) :: oCl s_1.blk (s_1.off + Int.toNat 1 * 5) (tmC (kd a1 1) s25) :: zf s25 ((kd a1 1).sub) :: Z41):=by
   have S2:=S.zneed hZ
   rw [hO] at S2
   simp only [hl19,cd2,la2] at S2
   exact S2.drops
  refine wd (does_indexF zp hv7 rfl (SR.onZ 3) (zC hi24).1 (zC hi24).2) ?_
  exact w4 rfl ⟨b38,s40,O42,Z41,hZ,hm13.keep rfl rfl tl0,hm14.keep rfl rfl tl0,hm15.keep rfl rfl tl0,hm16.keep rfl rfl tl0,(kpU hk18),(kpZ tl0 hq19),by rw [hO]; simp only [pN L 8 18,pN L 8 19],S⟩
 ·rintro L g v hL hcl hclo ⟨b38,s40,O42,Z41,hZ,hm13,hm14,hm15,hm16,hk18,hq19,hO,S⟩ hv8
  have hl19:=clF hL (hclo 19 9 · zbs)
  have SR:St A N w v LT2 (zf s9 ((kd (kd a1 0) 0).sub) :: zf s6 ((kd a1 0).sub) :: oT a_0 a0 :: zf s_1 a1.sub :: oPw :: oCl s9.blk (s9.off + Int.toNat 0 * 5) (tmC (kd (kd (kd a1 0) 0) 0) s23) :: zf s23 ((kd (kd (kd a1 0) 0) 0).sub) :: oCl s_1.blk (s_1.off + Int.toNat 1 * 5) (tmC (kd a1 1) s25) :: zf s25 ((kd a1 1).sub) :: Z41):=by
   have S2:=S.zneed hZ
   rw [hO] at S2
   simp only [hl19,cd2,la2] at S2
   exact S2.drops
  refine wd (zz zX hv8 (SR.cl 7) (Term.len _)) ?_
  exact w4 rfl ⟨b38,s40,O42,Z41,hZ,hm13.keep rfl rfl tl0,hm14.keep rfl rfl tl0,hm15.keep rfl rfl tl0,hm16.keep rfl rfl tl0,(kpU hk18),(kpZ tl0 hq19),by rw [hO]; simp only [pN L 9 18,pN L 9 19],S⟩
 ·rintro L g v hL hcl hclo ⟨b38,s40,O42,Z41,hZ,hm13,hm14,hm15,hm16,hk18,hq19,hO,S⟩ 
  have hl19:=clF hL (hclo 19 10 · zbs)
  have SR:St A N w v LT2 (zf s9 ((kd (kd a1 0) 0).sub) :: zf s6 ((kd a1 0).sub) :: oT a_0 a0 :: zf s_1 a1.sub :: oPw :: oCl s9.blk (s9.off + Int.toNat 0 * 5) (tmC (kd (kd (kd a1 0) 0) 0) s23) :: zf s23 ((kd (kd (kd a1 0) 0) 0).sub) :: oCl s_1.blk (s_1.off + Int.toNat 1 * 5) (tmC (kd a1 1) s25) :: zf s25 ((kd a1 1).sub) :: Z41):=by
   have S2:=S.zneed hZ
   rw [hO] at S2
   simp only [hl19,cd2,la2] at S2
   exact S2.drops
  refine wd (zD rfl) ?_
  exact w4 rfl ⟨b38,s40,O42,Z41,hZ,hm13.keep rfl rfl tl0,hm14.keep rfl rfl tl0,hm15.keep rfl rfl tl0,hm16.keep rfl rfl tl0,(kpU hk18),(kpZ tl0 hq19),by rw [hO]; simp only [pN L 10 18,pN L 10 19],S⟩
 ·rintro L g v hL hcl hclo ⟨b38,s40,O42,Z41,hZ,hm13,hm14,hm15,hm16,hk18,hq19,hO,S⟩ 
  have hl19:=clF hL (hclo 19 11 · zbs)
  have SR:St A N w v LT2 (zf s9 ((kd (kd a1 0) 0).sub) :: zf s6 ((kd a1 0).sub) :: oT a_0 a0 :: zf s_1 a1.sub :: oPw :: oCl s9.blk (s9.off + Int.toNat 0 * 5) (tmC (kd (kd (kd a1 0) 0) 0) s23) :: zf s23 ((kd (kd (kd a1 0) 0) 0).sub) :: oCl s_1.blk (s_1.off + Int.toNat 1 * 5) (tmC (kd a1 1) s25) :: zf s25 ((kd a1 1).sub) :: Z41):=by
   have S2:=S.zneed hZ
   rw [hO] at S2
   simp only [hl19,cd2,la2] at S2
   exact S2.drops
  refine wd (ldT rfl (SR.blk 2)) ?_
  exact w4 rfl ⟨b38,s40,O42,Z41,hZ,hm13.keep rfl rfl tl0,hm14.keep rfl rfl tl0,hm15.keep rfl rfl tl0,hm16.keep rfl rfl tl0,(kpU hk18),(kpZ tl0 hq19),by rw [hO]; simp only [pN L 11 18,pN L 11 19],S⟩
 ·rintro L g v hL hcl hclo ⟨b38,s40,O42,Z41,hZ,hm13,hm14,hm15,hm16,hk18,hq19,hO,S⟩ hv10 hv11
  have hl19:=clF hL (hclo 19 12 · zbs)
  have SR:St A N w v LT2 (zf s9 ((kd (kd a1 0) 0).sub) :: zf s6 ((kd a1 0).sub) :: oT a_0 a0 :: zf s_1 a1.sub :: oPw :: oCl s9.blk (s9.off + Int.toNat 0 * 5) (tmC (kd (kd (kd a1 0) 0) 0) s23) :: zf s23 ((kd (kd (kd a1 0) 0) 0).sub) :: oCl s_1.blk (s_1.off + Int.toNat 1 * 5) (tmC (kd a1 1) s25) :: zf s25 ((kd a1 1).sub) :: Z41):=by
   have S2:=S.zneed hZ
   rw [hO] at S2
   simp only [hl19,cd2,la2] at S2
   exact S2.drops
  refine (have ⟨M,SS⟩ := SR.lend ((.z 2 rfl (.z 3 rfl .nil))); zB (zJ jO (zQ hv10 (zQ hv11 (zQ rfl rfl)))) zbp (quiet (jZ SS er26) (fun v w' h=>⟨h.1,_,_,h.2⟩)) ?_)
  rintro _ v2 ⟨rfl,hx⟩
  exact w4 rfl ⟨b38,s40,O42,Z41,hZ,hm13.keep rfl rfl tl0,hm14.keep rfl rfl tl0,hm15.keep rfl rfl tl0,hm16.keep rfl rfl tl0,(kpU hk18),(kpZ tl0 hq19),by rw [hO]; simp only [pN L 12 18,pN L 12 19],S.ext hx⟩
 ·rintro L g v hL hcl hclo ⟨b38,s40,O42,Z41,hZ,hm13,hm14,hm15,hm16,hk18,hq19,hO,S⟩ hv9 hv12
  have hl19:=clF hL (hclo 19 13 · zbs)
  replace S:=(S.zneed hZ)
  obtain ⟨_,_,T,bk⟩ := S.sub [8] [] (O42)
  refine zB (zJ ku (zQ hv9 (zQ hv12 rfl))) zbp (kw (a0:=(kd a1 1)) T er29) ?_
  rintro _ w46 ⟨s48,rfl,S2⟩
  replace S:=bk _ _ _ _ _ S2 rfl rfl
  exact w4 trivial ⟨b38,s40,O42,_,(fun z h=>tl10 z (hZ z h)),Made.one (val:=(fun (c:SlV)=>Value.agg (tmC r29 c).toArray)) (ps:=(fun (c:SlV)=>[zf c r29.sub])) s48 (xQ List.mem_cons_self x7),hm14.keep rfl rfl tl10,hm15.keep rfl rfl tl10,hm16.keep rfl rfl tl10,(kpU hk18),(kpZ tl10 hq19),by rw [hO]; simp only [pN L 13 18,pN L 13 19],S⟩
 ·rintro L g v hL hcl hclo ⟨b38,s40,O42,Z41,hZ,hm13,hm14,hm15,hm16,hk18,hq19,hO,S⟩ hv3 hv5 _
  obtain ⟨s32,he13,hp13⟩ := hm13 (hcl 13 zbs)
  have hl19:=clF hL (hclo 19 14 · zbs)
  replace S:=(S.zneed (xw (l1:=[zf s32 r29.sub]) hp13 hZ))
  obtain ⟨_,_,T,bk⟩ := S.sub [7,0,5] [] (O42)
  refine zB (zJ kJ (zQ hv3 (zQ hv5 (zQ he13 rfl)))) zbp (kR (a0:=(kd (kd (kd a1 0) 0) 0)) (a2:=r29) T er33) ?_
  rintro _ w50 ⟨s52,rfl,S2⟩
  replace S:=bk _ _ _ _ _ S2 rfl rfl
  exact w4 trivial ⟨b38,s40,O42,_,(fun z h=>tl11 z (hZ z h)),hm13.keep rfl rfl tl11,Made.one (val:=(fun (c:SlV)=>Value.tuple #[.agg (tmC r33.1 c).toArray,.int .i64 r33.2])) (ps:=(fun (c:SlV)=>[zf c r33.1.sub])) s52 (xQ List.mem_cons_self x7),hm15.keep rfl rfl tl11,hm16.keep rfl rfl tl11,(kpU hk18),(kpZ tl11 hq19),by rw [hO]; simp only [pN L 14 18,pN L 14 19],S⟩
 ·rintro L g v hL hcl hclo ⟨b38,s40,O42,Z41,hZ,hm13,hm14,hm15,hm16,hk18,hq19,hO,S⟩ _
  obtain ⟨s36,he14,hp14⟩ := hm14 (hcl 14 zbs)
  have hl19:=clF hL (hclo 19 15 · zbs)
  replace S:=(S.zneed (xw (l1:=[zf s36 r33.1.sub]) hp14 hZ))
  refine wd (z7 he14) ?_
  exact w4 trivial ⟨b38,s40,O42,_,(fun z h=>tl10 z (hZ z h)),hm13.keep rfl rfl tl10,hm14.keep rfl rfl tl10,Made.one (val:=(fun (c:SlV)=>Value.tuple #[.agg (tmC r33.1 c).toArray,.int .i64 r33.2])) (ps:=(fun (c:SlV)=>[zf c r33.1.sub])) s36 (xQ List.mem_cons_self x7),hm16.keep rfl rfl tl10,(kpU hk18),(kpZ tl10 hq19),by rw [hO]; simp only [pN L 15 18,pN L 15 19],S⟩
 ·rintro L g v hL hcl hclo ⟨b38,s40,O42,Z41,hZ,hm13,hm14,hm15,hm16,hk18,hq19,hO,S⟩ _
  obtain ⟨s36,he15,hp15⟩ := hm15 (hcl 15 zbs)
  have hl19:=clF hL (hclo 19 16 · zbs)
  replace S:=(S.zneed (xw (l1:=[zf s36 r33.1.sub]) hp15 hZ))
  refine wd (zo he15 rfl) ?_
  exact w4 trivial ⟨b38,s40,O42,_,(fun z h=>tl10 z (hZ z h)),hm13.keep rfl rfl tl10,hm14.keep rfl rfl tl10,hm15.keep rfl rfl tl10,Made.one (val:=(fun (c:SlV)=>Value.agg (tmC r33.1 c).toArray)) (ps:=(fun (c:SlV)=>[zf c r33.1.sub])) s36 (xQ List.mem_cons_self x7),(kpU hk18),(kpZ tl10 hq19),by rw [hO]; simp only [pN L 16 18,pN L 16 19],S⟩
 ·rintro L g v hL hcl hclo ⟨b38,s40,O42,Z41,hZ,hm13,hm14,hm15,hm16,hk18,hq19,hO,S⟩ _
  obtain ⟨s36,he15,hp15⟩ := hm15 (hcl 15 zbs)
  have SR:St A N w v LT2 (zf s36 r33.1.sub :: zf s9 ((kd (kd a1 0) 0).sub) :: zf s6 ((kd a1 0).sub) :: oT a_0 a0 :: zf s_1 a1.sub :: oPw :: oCl s9.blk (s9.off + Int.toNat 0 * 5) (tmC (kd (kd (kd a1 0) 0) 0) s23) :: zf s23 ((kd (kd (kd a1 0) 0) 0).sub) :: oCl s_1.blk (s_1.off + Int.toNat 1 * 5) (tmC (kd a1 1) s25) :: zf s25 ((kd a1 1).sub) :: Z41):=by
   have S2:=S.zneed (xw (l1:=[zf s36 r33.1.sub]) hp15 hZ)
   rw [hO] at S2
   exact S2.drops
  refine wd (zo he15 rfl) ?_
  exact w4 rfl ⟨b38,s40,O42,Z41,hZ,hm13.keep rfl rfl tl0,hm14.keep rfl rfl tl0,hm15.keep rfl rfl tl0,hm16.keep rfl rfl tl0,(kpU hk18),(kpZ tl0 hq19),by rw [hO]; simp only [pN L 17 18,pN L 17 19],S⟩
 ·rintro L g v hL hcl hclo ⟨b38,s40,O42,Z41,hZ,hm13,hm14,hm15,hm16,hk18,hq19,hO,S⟩ 
  have hl18:L 18=false:=hL
  have hl19:=clF hL (hclo 19 18 · zbs)
  have hOP : ∃ P Y,P=[]∧Y=LT2∧O42=P ++ ([] ++ Y):=⟨_,_,rfl,rfl,by rw [hO]; simp only [hl18,hl19,cd2,la2]⟩
  obtain ⟨P,Y,hP,hY,hPY⟩ := hOP
  rw [hPY] at S
  replace S:=S
  refine zO xd zbp fun b54 w53 hw53=>?_
  replace S:=S.new hw53
  refine w4 trivial ⟨b54,s40,P ++ ([oB b54 zj (Term.C tmZ)] ++ Y),_,hZ,hm13.keep rfl rfl tl0,hm14.keep rfl rfl tl0,hm15.keep rfl rfl tl0,hm16.keep rfl rfl tl0,(fun _=>upd_same _ _ _),(kpZ tl0 hq19),?_,S.ins (P:=[oB b54 zj (Term.C tmZ)])⟩
  rw [hP,hY]; simp only [pN L 18 19,xB (L:=L) (i:=18),hl19,cd2,la2]
 ·rintro L g v hL hcl hclo ⟨b38,s40,O42,Z41,hZ,hm13,hm14,hm15,hm16,hk18,hq19,hO,S⟩ _ _
  obtain ⟨s36,he16,hp16⟩ := hm16 (hcl 16 zbs)
  have hl18:L 18=true:=hcl 18 zbs
  have hl19:L 19=false:=hL
  have hOP : ∃ P Y,P=[]∧Y=LT2∧O42=P ++ ([oB b38 zj (Term.C tmZ)] ++ Y):=⟨_,_,rfl,rfl,by rw [hO]; simp only [hl18,hl19,cd2,la2]⟩
  obtain ⟨P,Y,hP,hY,hPY⟩ := hOP
  rw [hPY] at S
  replace S:=(S.ins.zneed (xw (l1:=[zf s36 r33.1.sub]) hp16 hZ))
  refine wsT (hk18 (hcl 18 zbs)) he16 (S.blk 0) fun w55 B hw55 zw55=>?_
  replace S:=S.store 0 B hw55
  refine zd (ob40 trivial (fun _=>trivial) ⟨b38,s36,P ++ ([oB b38 zj (tmC r33.1 s36)] ++ Y),_,(fun z h=>tl10 z (hZ z h)),hm13.keep0 rfl tl10,hm14.keep0 rfl tl10,hm15.keep0 rfl tl10,hm16.keep0 rfl tl10,(kpP hk18),(fun _ z q=>tl10 z (hp16 z q)),?_,S.ins (P:=[oB b38 zj (tmC r33.1 s36)])⟩)
  rw [hP,hY]; simp only [pN L 19 18,xB (L:=L) (i:=19),hl18,cd2,la2]
 rintro L g w56 hLm ⟨b38,s40,O42,Z41,hZ,hm13,hm14,hm15,hm16,hk18,hq19,hO,S⟩ hv57_0 hv57_1 hv57_2 hv57_3 hv57_4 hv57_5 hv57_6 hv57_7 hv57_8 hv57_9 hv57_10 hv57_11 hv57_12 _ _ _ _ hv57_17 _ _
 have hLt : ∀ j,j < 20→L j=true:=fun j hj=>by rw [hLm]; exact decide_eq_true hj
 obtain ⟨s32,hv57_13,hp13⟩ := hm13 (hLt 13 zbp)
 obtain ⟨s36,hv57_16,hp16⟩ := hm16 (hLt 16 zbp)
 have hv57_18:=hk18 (hLt 18 zbp)
 simp only [hLt 18 zbp,hLt 19 zbp,cond_true,List.nil_append,List.cons_append] at hO
 rw [hO] at S
 replace hq19:=hq19 (hLt 19 zbp)
 replace S:=S.pickZ (xw (l1:=[zf s32 r29.sub]) hp13 (xw (l1:=[zf s36 r33.1.sub]) hp16 (xw (l1:=[zf s40 r33.1.sub]) hq19 hZ)))
 clear hp13 hp16 hZ hm13 hm14 hm15 hm16
 refine wd (zh hv57_17) (zd (zb ?_))
 obtain ⟨r68,er68,H⟩ := zq H
 obtain ⟨r71,er71,H⟩ := zq H
 let LT1:List OA:=[zf s32 r29.sub,zf s36 r33.1.sub,zf s40 r33.1.sub,zf s9 ((kd (kd a1 0) 0).sub),zf s6 ((kd a1 0).sub),oT a_0 a0,zf s_1 a1.sub,oPw,oCl s9.blk (s9.off + Int.toNat 0 * 5) (tmC (kd (kd (kd a1 0) 0) 0) s23),zf s23 ((kd (kd (kd a1 0) 0) 0).sub),oCl s_1.blk (s_1.off + Int.toNat 1 * 5) (tmC (kd a1 1) s25),zf s25 ((kd a1 1).sub)]
 let LT3:List OA:=[oB b38 zj (tmC r33.1 s40),oB b12 zj (tmC (kd (kd a1 0) 0) s9),oB b2 zj (tmC a1 s_1)]
 refine x8 7 ⟨fun _ _=>True,fun _ _ _=>True,fun i v _=>match i with
  | 0=>v=Value.agg (tmC r33.1 s40).toArray
  | 1=>v=Value.pointer a_0
  | 2=>v=Value.agg (tmC a1 s_1).toArray
  | 3=>v=Value.int .i64 r68
  | 5=>v=Value.int .i64 r33.2
  | _=>True⟩ (fun L g v=>bif L 6 then (∃ (s74:SlV),(L 4=true→g 38=Value.agg (tmC r71 s74).toArray)∧St A N w v (oB b4 zj (tmC r71 s74) :: LT3) (zf s74 r71.sub :: LT1)) else bif L 4 then (∃ (s74:SlV),(L 4=true→g 38=Value.agg (tmC r71 s74).toArray)∧St A N w v (oB b38 zj (tmC r33.1 s40) :: LT2) (zf s74 r71.sub :: LT1)) else (St A N w v (oB b38 zj (tmC r33.1 s40) :: LT2) LT1)) hmix zbs (fun _ _ _ _ _ _ _ hv=>hv) (fun g=>S.ext (Ext.drawn _)) ⟨?_,?_,?_,?_,?_,?_,?_,trivial⟩ ?_
 ·rintro L g v hL hcl hclo hT 
  have hl4:=clF hL (hclo 4 0 · zbs)
  have hl6:=clF hL (hclo 6 0 · zbs)
  simp only [hl4,hl6,cd2] at hT
  replace S:=hT
  refine wd (zz zX hv57_18 ((S.blk 0).all _ (Term.len _)) (Term.len _)) ?_
  exact w4 rfl (by simp only [pN L 0 4,pN L 0 6,hl4,hl6,cd2]; exact S)
 ·rintro L g v hL hcl hclo hT 
  have hl4:=clF hL (hclo 4 1 · zbs)
  have hl6:=clF hL (hclo 6 1 · zbs)
  simp only [hl4,hl6,cd2] at hT
  replace S:=hT
  refine wd (zD rfl) ?_
  exact w4 rfl (by simp only [pN L 1 4,pN L 1 6,hl4,hl6,cd2]; exact S)
 ·rintro L g v hL hcl hclo hT 
  have hl4:=clF hL (hclo 4 2 · zbs)
  have hl6:=clF hL (hclo 6 2 · zbs)
  simp only [hl4,hl6,cd2] at hT
  replace S:=hT
  refine wd (ldT rfl (S.blk 3)) ?_
  exact w4 rfl (by simp only [pN L 2 4,pN L 2 6,hl4,hl6,cd2]; exact S)
 ·rintro L g v hL hcl hclo hT hv1 hv2
  have hl4:=clF hL (hclo 4 3 · zbs)
  have hl6:=clF hL (hclo 6 3 · zbs)
  simp only [hl4,hl6,cd2] at hT
  replace S:=hT
  obtain ⟨_,_,T,bk⟩ := S.calln 0 ((.z 5 rfl (.z 6 rfl .nil)))
  refine zB (zJ jO (zQ hv1 (zQ hv2 (zQ rfl rfl)))) zbp (jZ (a1:=a1) T er68) ?_
  rintro _ w77 ⟨rfl,S2⟩
  replace S:=bk _ _ _ _ S2 rfl
  exact w4 rfl (by simp only [pN L 3 4,pN L 3 6,hl4,hl6,cd2]; exact S)
 ·rintro L g v hL hcl hclo hT hv0 hv3
  have hl4:L 4=false:=hL
  have hl6:=clF hL (hclo 6 4 · zbs)
  simp only [hl4,hl6,cd2] at hT
  replace S:=hT
  obtain ⟨_,_,T,bk⟩ := S.sub [2] [] (oB b38 zj (tmC r33.1 s40) :: LT2)
  refine zB (zJ ku (zQ hv0 (zQ hv3 rfl))) zbp (kw (a0:=r33.1) T er71) ?_
  rintro _ w80 ⟨s74,rfl,S2⟩
  replace S:=bk _ _ _ _ _ S2 rfl rfl
  have hT2 : ∃ (s74':SlV),((plus L 4) 4=true→(upd g 38 (Value.agg (tmC r71 s74).toArray)) 38=Value.agg (tmC r71 s74').toArray)∧St A N w w80 (oB b38 zj (tmC r33.1 s40) :: LT2) (zf s74' r71.sub :: LT1):=⟨s74,fun _=>upd_same _ _ _,S⟩
  exact w4 trivial (by simp only [pN L 4 6,xB (L:=L) (i:=4),hl6,cd2] at hT2 ⊢; exact hT2)
 ·rintro L g v hL hcl hclo hT 
  cases hl6:L 6 with
  | true =>
   replace hT : ∃ (s74:SlV),(L 4=true→g 38=Value.agg (tmC r71 s74).toArray)∧St A N w v (oB b4 zj (tmC r71 s74) :: LT3) (zf s74 r71.sub :: LT1):=by simp only [hl6,cd2] at hT ⊢; exact hT
   obtain ⟨s74,he4,S⟩ := hT
   refine wd (zi rfl) ?_
   have hT2 : ∃ (s74':SlV),((plus L 5) 4=true→(upd g 39 (Value.int .i64 r33.2)) 38=Value.agg (tmC r71 s74').toArray)∧St A N w v (oB b4 zj (tmC r71 s74') :: LT3) (zf s74' r71.sub :: LT1):=⟨s74,kpU he4,S⟩
   exact w4 rfl (by simp only [pN L 5 4,pN L 5 6,hl6,cd2] at hT2 ⊢; exact hT2)
  | false =>
   cases hl4:L 4 with
   | true =>
    replace hT : ∃ (s74:SlV),(L 4=true→g 38=Value.agg (tmC r71 s74).toArray)∧St A N w v (oB b38 zj (tmC r33.1 s40) :: LT2) (zf s74 r71.sub :: LT1):=by simp only [hl4,hl6,cd2] at hT ⊢; exact hT
    obtain ⟨s74,he4,S⟩ := hT
    refine wd (zi rfl) ?_
    have hT2 : ∃ (s74':SlV),((plus L 5) 4=true→(upd g 39 (Value.int .i64 r33.2)) 38=Value.agg (tmC r71 s74').toArray)∧St A N w v (oB b38 zj (tmC r33.1 s40) :: LT2) (zf s74' r71.sub :: LT1):=⟨s74,kpU he4,S⟩
    exact w4 rfl (by simp only [pN L 5 4,pN L 5 6,hl4,hl6,cd2] at hT2 ⊢; exact hT2)
   | false =>
    simp only [hl4,hl6,cd2] at hT
    replace S:=hT
    refine wd (zi rfl) ?_
    exact w4 rfl (by simp only [pN L 5 4,pN L 5 6,hl4,hl6,cd2]; exact S)
 ·rintro L g v hL hcl hclo hT hv4
  have hl4:L 4=true:=hcl 4 zbs
  have hl6:L 6=false:=hL
  replace hT : ∃ (s74:SlV),(L 4=true→g 38=Value.agg (tmC r71 s74).toArray)∧St A N w v (oB b38 zj (tmC r33.1 s40) :: LT2) (zf s74 r71.sub :: LT1):=by simp only [hl4,hl6,cd2] at hT ⊢; exact hT
  obtain ⟨s74,he4,S⟩ := hT
  refine wsT rfl (he4 (hcl 4 zbs)) (S.blk 2) fun w82 B hw82 zw82=>?_
  replace S:=S.store 2 B hw82
  have hT2 : ∃ (s74':SlV),((plus L 6) 4=true→g 38=Value.agg (tmC r71 s74').toArray)∧St A N w w82 (oB b4 zj (tmC r71 s74') :: LT3) (zf s74' r71.sub :: LT1):=⟨s74,kpP he4,S⟩
  exact zd (ob40 trivial (fun _=>trivial) (by simp only [pN L 6 4,xB (L:=L) (i:=6),cd2] at hT2 ⊢; exact hT2))
 rintro L g w83 hLm hT hv84_0 hv84_1 hv84_2 hv84_3 _ hv84_5 _
 have hLt : ∀ j,j < 7→L j=true:=fun j hj=>by rw [hLm]; exact decide_eq_true hj
 replace hT : ∃ (s74:SlV),(L 4=true→g 38=Value.agg (tmC r71 s74).toArray)∧St A N w w83 (oB b4 zj (tmC r71 s74) :: LT3) (zf s74 r71.sub :: LT1):=by simp only [hLt 6 zbp,cond_true] at hT ⊢; exact hT
 obtain ⟨s74,he4,S⟩ := hT
 have hv84_4:=he4 (hLt 4 zbp)
 replace S:=S
 refine wd (zh hv84_5) (zd (zt ?_))
 refine ⟨_,(xi (rtT rfl (S.blk 0)) (zg rfl)),?_⟩
 replace S:=S.arr [] [0]
 obtain rfl:=zbt H
 exact ⟨s74,rfl,S⟩
theorem reduce_into_st {a0:PTerm} {s_0:SlV} {a1:PTerm} {s_1:SlV} {a2:Bool} (S:St A N w w [] [zf s_0 a0.sub,zf s_1 a1.sub,oPw]) {k:Nat} {r:PTerm × Int} (H:zcH.f k a0 a1 a2=some r) :
  Calls PP F_reduce_into #[.agg (tmC a0 s_0).toArray,.agg (tmC a1 s_1).toArray,.bool a2] w <| Rt fun v w'=>(∃ so0:SlV,v = .tuple #[.agg (tmC r.1 so0).toArray,.int .i64 r.2]∧St A N w w' [] [zf so0 r.1.sub]):=by
 unfold zcH.f at H
 refine zA (n:=29) Tryz.func121 rfl rfl zbr (zb (za ?_))
 refine zI rfl zbp fun b2 w1 hw1=>?_
 replace S:=S.new hw1
 refine zI rfl zbp fun b4 w3 hw3=>?_
 replace S:=S.new hw3
 refine zO xd zbp fun b6 w5 hw5=>?_
 replace S:=S.new hw5
 refine wd (zh rfl) (zd (zb (zb (za (wd (zy rfl) (zd ?_))))))
 refine zF rfl (fun hc7=>?_) (fun hc7=>?_)
 ·replace H:=if_t hc7 H
  refine zb ?_
  refine wc_ws hmix fun w12 K=>?_
  replace S:=S.ext K
  clear K
  obtain ⟨hi13,H⟩ := zU H
  obtain ⟨s14,hc15,S⟩ := S.viewTerm 0 (zC hi13)
  replace S:=S.zs [1,2,3,0]
  refine yO 0 7 [] zbs zbp zbs
   (V:=fun i v u=>match i with
   | _=>True) ?_ ?_
  ·intro i v u u' hi hx hv
   match i,hv with
   | _,_=>exact trivial
  refine zR (fun v K=>ze zw rfl (o':=4) rfl) rfl (zR (fun v K=>zl zr rfl (((S.ext K).blk 2).cell (Term.get_sub _))) rfl (zR (fun v K=>does_indexF zp rfl rfl ((S.ext K).onZ 0) (zC hi13).1 (zC hi13).2) rfl (zR (fun v K=>zz zX rfl (hc15.chg K (fun x=>x)) (Term.len _)) rfl (zR (fun v K=>ze yr rfl (o':=2) rfl) rfl (zR (fun v K=>zl xf rfl (((S.ext K).blk 2).cell (Term.get_other _))) rfl ?_)))))
  refine zR (fun v K=>zz zX rfl (((S.ext K).blk 1).all _ (Term.len _)) (Term.len _)) rfl ?_
  refine vB fun g w16 K hV=>?_
  replace S:=S.ext K
  clear K hV
  refine uQ 7 8 zbs zbp ?_
  obtain ⟨r18,er18,H⟩ := zq H
  obtain ⟨_,_,T,bk⟩ := S.sub [3,1,2] [] [oB b6 zj (Term.C tmZ),oB b4 zj (tmC a1 s_1),oB b2 zj (tmC a0 s_0)]
  refine zB (zx kJ) zbp (kR (a0:=(kd a0 2)) (a2:=a1) T er18) ?_
  rintro _ w19 ⟨s21,rfl,S2⟩
  replace S:=bk _ _ _ _ _ S2 rfl rfl
  refine zd ⟨rfl,?_⟩
  refine yO 8 10 [] zbs zbp zbs
   (V:=fun i v u=>match i with
   | _=>True) ?_ ?_
  ·intro i v u u' hi hx hv
   match i,hv with
   | _,_=>exact trivial
  refine zR (fun v K=>zo rfl rfl) rfl (zR (fun v K=>zo rfl rfl) rfl ?_)
  refine vB fun g w22 K hV=>?_
  replace S:=S.ext K
  clear K hV
  refine j4 10 zbs zbp ?_
  refine wsT rfl rfl (S.blk 0) fun w24 B hw24 zw24=>?_
  replace S:=S.store 0 B hw24
  refine wd (zh rfl) (zd (zt ?_))
  refine ⟨_,(xi (rtT rfl (S.blk 0)) (zg rfl)),?_⟩
  replace S:=S.arr [] [0]
  obtain rfl:=zbt H
  exact ⟨s21,rfl,S⟩
 replace H:=if_f hc7 H
 refine zu (zb ?_)
 refine wc_ws hmix fun w29 K=>?_
 replace S:=S.ext K
 clear K
 obtain ⟨hi30,H⟩ := zU H
 obtain ⟨s31,hc32,S⟩ := S.viewTerm 0 (zC hi30)
 replace S:=S.zs [1,2,3,0]
 refine yO 0 7 [] zbs zbp zbs
  (V:=fun i v u=>match i with
  | _=>True) ?_ ?_
 ·intro i v u u' hi hx hv
  match i,hv with
  | _,_=>exact trivial
 refine zR (fun v K=>ze zw rfl (o':=4) rfl) rfl (zR (fun v K=>zl zr rfl (((S.ext K).blk 2).cell (Term.get_sub _))) rfl (zR (fun v K=>does_indexF zp rfl rfl ((S.ext K).onZ 0) (zC hi30).1 (zC hi30).2) rfl (zR (fun v K=>zz zX rfl (hc32.chg K (fun x=>x)) (Term.len _)) rfl (zR (fun v K=>ze xz rfl (o':=1) rfl) rfl (zR (fun v K=>zl xf rfl (((S.ext K).blk 2).cell (Term.get_name _))) rfl ?_)))))
 refine zR (fun v K=>zz zX rfl (((S.ext K).blk 1).all _ (Term.len _)) (Term.len _)) rfl ?_
 refine vB fun g w33 K hV=>?_
 replace S:=S.ext K
 clear K hV
 refine uQ 7 8 zbs zbp ?_
 obtain ⟨r35,er35,H⟩ := zq H
 obtain ⟨_,_,T,bk⟩ := S.sub [3,1,2] [] [oB b6 zj (Term.C tmZ),oB b4 zj (tmC a1 s_1),oB b2 zj (tmC a0 s_0)]
 refine zB (zx kJ) zbp (kR (a0:=(kd a0 1)) (a2:=a1) T er35) ?_
 rintro _ w36 ⟨s38,rfl,S2⟩
 replace S:=bk _ _ _ _ _ S2 rfl rfl
 refine zd ⟨rfl,?_⟩
 refine yO 8 10 [] zbs zbp zbs
  (V:=fun i v u=>match i with
  | _=>True) ?_ ?_
 ·intro i v u u' hi hx hv
  match i,hv with
  | _,_=>exact trivial
 refine zR (fun v K=>zo rfl rfl) rfl (zR (fun v K=>zo rfl rfl) rfl ?_)
 refine vB fun g w39 K hV=>?_
 replace S:=S.ext K
 clear K hV
 refine j4 10 zbs zbp ?_
 refine wsT rfl rfl (S.blk 0) fun w41 B hw41 zw41=>?_
 replace S:=S.store 0 B hw41
 refine wd (zh rfl) (zd (zt ?_))
 refine ⟨_,(xi (rtT rfl (S.blk 0)) (zg rfl)),?_⟩
 replace S:=S.arr [] [0]
 obtain rfl:=zbt H
 exact ⟨s38,rfl,S⟩
theorem reduce_rules_10_st {a0:Tb} {a_0:Option Addr} {a1:PTerm} {s_1:SlV} (S:St A N w w [] [oT a_0 a0,zf s_1 a1.sub,oPw]) {k:Nat} {r:PTerm × Int} (H:zcI.f k a0 a1=some r) :
  Calls PP y7 #[.pointer a_0,.agg (tmC a1 s_1).toArray] w <| Rt fun v w'=>(∃ so0:SlV,v = .tuple #[.agg (tmC r.1 so0).toArray,.int .i64 r.2]∧St A N w w' [] [zf so0 r.1.sub]):=by
 unfold zcI.f at H
 refine zA (n:=25) Tryz.func120 rfl rfl zbr (zb (za ?_))
 refine zI rfl zbp fun b2 w1 hw1=>?_
 replace S:=S.new hw1
 refine zO xd zbp fun b4 w3 hw3=>?_
 replace S:=S.new hw3
 refine wd (zh rfl) (zd (zb (za (wd (ldT rfl (S.blk 1)) ?_))))
 obtain ⟨r5,er5,H⟩ := zq H
 obtain ⟨_,_,T,bk⟩ := S.calln 0 ((.z 1 rfl .nil))
 refine zB (zx zar) zbp (zaC (a0:=a1) T er5) ?_
 rintro _ w6 ⟨rfl,S2⟩
 replace S:=bk _ _ _ _ S2 rfl
 refine wd (z7 rfl) (wd (zo rfl rfl) (wd (zo rfl rfl) (wd (zk rfl) (wd (zk rfl) (zd (zb ?_))))))
 refine wc_ws hmix fun w15 K=>?_
 replace S:=S.ext K
 clear K
 obtain ⟨hi16,H⟩ := zU H
 obtain ⟨s17,hc18,S⟩ := S.viewTerm 1 (zC hi16)
 replace S:=S.zs [1,2,3,0]
 obtain ⟨hi19,H⟩ := zU H
 obtain ⟨s20,hc21,S⟩ := S.viewTerm 3 (zC hi19)
 replace S:=S.zs [1,2,3,4,0]
 refine yO 0 9 [] zbs zbp zbs
  (V:=fun i v u=>match i with
  | _=>True) ?_ ?_
 ·intro i v u u' hi hx hv
  match i,hv with
  | _,_=>exact trivial
 refine zR (fun v K=>zz zX rfl (((S.ext K).blk 1).all _ (Term.len _)) (Term.len _)) rfl (zR (fun v K=>ze zw rfl (o':=4) rfl) rfl (zR (fun v K=>zl zr rfl (((S.ext K).blk 1).cell (Term.get_sub _))) rfl (zR (fun v K=>does_indexF zp rfl rfl ((S.ext K).onZ 1) (zC hi16).1 (zC hi16).2) rfl (zR (fun v K=>ze zw rfl (o':=_) rfl) rfl (zR (fun v K=>zl zr rfl ((hc18.chg K (fun x=>x)).get (Term.get_sub _))) rfl ?_)))))
 refine zR (fun v K=>does_indexF zp rfl rfl ((S.ext K).onZ 3) (zC hi19).1 (zC hi19).2) rfl (zR (fun v K=>zz zX rfl (hc21.chg K (fun x=>x)) (Term.len _)) rfl (zR (fun v K=>zy rfl) rfl ?_))
 refine vB fun g w22 K hV=>?_
 replace S:=S.ext K
 clear K hV
 refine uQ 9 10 zbs zbp ?_
 obtain ⟨r24,er24,H⟩ := zq H
 obtain ⟨_,_,T,bk⟩ := S.sub [1,4,2] [] [oB b4 zj (Term.C tmZ),oB b2 zj (tmC a1 s_1)]
 refine zB (zx ca_reduce_into) zbp (reduce_into_st (a0:=a1) (a1:=(kd (kd a1 0) 0)) T er24) ?_
 rintro _ w25 ⟨s27,rfl,S2⟩
 replace S:=bk _ _ _ _ _ S2 rfl rfl
 refine zd ⟨rfl,?_⟩
 refine yO 10 12 [] zbs zbp zbs
  (V:=fun i v u=>match i with
  | _=>True) ?_ ?_
 ·intro i v u u' hi hx hv
  match i,hv with
  | _,_=>exact trivial
 refine zR (fun v K=>zo rfl rfl) rfl (zR (fun v K=>zo rfl rfl) rfl ?_)
 refine vB fun g w28 K hV=>?_
 replace S:=S.ext K
 clear K hV
 refine j4 12 zbs zbp ?_
 refine wsT rfl rfl (S.blk 0) fun w30 B hw30 zw30=>?_
 replace S:=S.store 0 B hw30
 refine wd (zh rfl) (zd (zt ?_))
 refine ⟨_,(xi (rtT rfl (S.blk 0)) (zg rfl)),?_⟩
 replace S:=S.arr [] [0]
 obtain rfl:=zbt H
 exact ⟨s27,rfl,S⟩
theorem reduce_rules_12_st {a0:Tb} {a_0:Option Addr} {a1:PTerm} {s_1:SlV} (S:St A N w w [] [oT a_0 a0,zf s_1 a1.sub,oPw]) {k:Nat} {r:PTerm × Int} (H:zcJ.f k a0 a1=some r) :
  Calls PP y8 #[.pointer a_0,.agg (tmC a1 s_1).toArray] w <| Rt fun v w'=>(∃ so0:SlV,v = .tuple #[.agg (tmC r.1 so0).toArray,.int .i64 r.2]∧St A N w w' [] [zf so0 r.1.sub]):=by
 unfold zcJ.f at H
 refine zA (n:=34) Tryz.func124 rfl rfl zbr (zb (za ?_))
 refine zI rfl zbp fun b2 w1 hw1=>?_
 replace S:=S.new hw1
 refine zO xd zbp fun b4 w3 hw3=>?_
 replace S:=S.new hw3
 refine wd (zh rfl) (zd (zb (za (wd (zD rfl) (wd (ldT rfl (S.blk 1)) ?_)))))
 obtain ⟨r5,er5,H⟩ := zq H
 obtain ⟨_,_,T,bk⟩ := S.calln 0 ((.z 0 rfl (.z 1 rfl .nil)))
 refine zB (zx ca_reduce_told) zbp (reduce_told_st (a1:=a1) T er5) ?_
 rintro _ w6 ⟨rfl,S2⟩
 replace S:=bk _ _ _ _ S2 rfl
 refine wd (z7 rfl) (wd (zo rfl rfl) (wd (zo rfl rfl) (wd (zk rfl) (wd (zk rfl) (zd (zb ?_))))))
 obtain ⟨hi31,H⟩ := zU H
 obtain ⟨hi33,H⟩ := zU H
 obtain ⟨hi35,H⟩ := zU H
 obtain ⟨r37,er37,H⟩ := zq H
 obtain ⟨r40,er40,H⟩ := zq H
 obtain ⟨r44,er44,H⟩ := zq H
 obtain ⟨s32,S⟩ := S.viewTermC 1 (zC hi31)
 replace S:=S
 obtain ⟨s34,S⟩ := S.viewTermC 1 (zC hi33)
 replace S:=S
 obtain ⟨s36,S⟩ := S.viewTermC 1 (zC hi35)
 replace S:=S.zs [6,7,8,4,5,2,3,0,1]
 refine x8 20 ⟨fun _ _=>True,fun _ _ _=>True,fun i v _=>match i with
  | 0=>v=Value.agg (tmC a1 s_1).toArray
  | 1=>v=Value.pointer (some ⟨b2,4,none⟩)
  | 2=>v=s_1.v
  | 3=>v=Value.pointer (some ⟨s_1.blk,s_1.off + Int.toNat 0 * 5,none⟩)
  | 4=>v=Value.pointer (some ⟨s_1.blk,s_1.off + Int.toNat 0 * 5 + 4,none⟩)
  | 5=>v=s32.v
  | 6=>v=Value.pointer (some ⟨s32.blk,s32.off + Int.toNat 0 * 5,none⟩)
  | 7=>v=Value.pointer (some ⟨s32.blk,s32.off + Int.toNat 0 * 5 + 4,none⟩)
  | 8=>v=s34.v
  | 9=>v=Value.pointer (some ⟨s34.blk,s34.off + Int.toNat 0 * 5,none⟩)
  | 10=>v=Value.agg (tmC (kd (kd (kd a1 0) 0) 0) s36).toArray
  | 11=>v=Value.pointer a_0
  | 12=>v=Value.agg (tmC a1 s_1).toArray
  | 13=>v=Value.bool r5.1
  | 14=>v=Value.int .i64 r37
  | 16=>v=Value.bool r5.1
  | 19=>v=Value.int .i64 r44.2
  | _=>True⟩ (fun L g v => ∃ Z48:List OA,(∀ z ∈ [oT a_0 a0,zf s_1 a1.sub,oPw,oCl s_1.blk (s_1.off + Int.toNat 0 * 5) (tmC (kd a1 0) s32),zf s32 ((kd a1 0).sub),oCl s32.blk (s32.off + Int.toNat 0 * 5) (tmC (kd (kd a1 0) 0) s34),zf s34 ((kd (kd a1 0) 0).sub),oCl s34.blk (s34.off + Int.toNat 0 * 5) (tmC (kd (kd (kd a1 0) 0) 0) s36),zf s36 ((kd (kd (kd a1 0) 0) 0).sub)],z ∈ Z48)∧Made L g Z48 15 29 (fun (c:SlV)=>Value.agg (tmC r40 c).toArray) (fun (c:SlV)=>[zf c r40.sub])∧Made L g Z48 17 31 (fun (c:SlV)=>Value.tuple #[.agg (tmC r44.1 c).toArray,.int .i64 r44.2]) (fun (c:SlV)=>[zf c r44.1.sub])∧Made L g Z48 18 32 (fun (c:SlV)=>Value.agg (tmC r44.1 c).toArray) (fun (c:SlV)=>[zf c r44.1.sub])∧St A N w v [oB b4 zj (Term.C tmZ),oB b2 zj (tmC a1 s_1)] Z48) hmix zbs (fun _ _ _ _ _ _ _ hv=>hv) (fun g=>⟨_,fun _ h=>h,Made.no,Made.no,Made.no,S.ext (Ext.drawn _)⟩) ⟨?_,?_,?_,?_,?_,?_,?_,?_,?_,?_,?_,?_,?_,?_,?_,?_,?_,?_,?_,?_,trivial⟩ ?_
 ·rintro L g v hL hcl hclo ⟨Z48,hZ,hm15,hm17,hm18,S⟩ 
  refine wd (ldT rfl (S.blk 1)) ?_
  exact w4 rfl ⟨_,hZ,hm15.keep rfl rfl tl0,hm17.keep rfl rfl tl0,hm18.keep rfl rfl tl0,S⟩
 ·rintro L g v hL hcl hclo ⟨Z48,hZ,hm15,hm17,hm18,S⟩ 
  refine wd (ze zw rfl (o':=4) rfl) ?_
  exact w4 rfl ⟨_,hZ,hm15.keep rfl rfl tl0,hm17.keep rfl rfl tl0,hm18.keep rfl rfl tl0,S⟩
 ·rintro L g v hL hcl hclo ⟨Z48,hZ,hm15,hm17,hm18,S⟩ hv1
  refine wd (zl zr hv1 ((S.blk 1).cell (Term.get_sub _))) ?_
  exact w4 rfl ⟨_,hZ,hm15.keep rfl rfl tl0,hm17.keep rfl rfl tl0,hm18.keep rfl rfl tl0,S⟩
 ·rintro L g v hL hcl hclo ⟨Z48,hZ,hm15,hm17,hm18,S⟩ hv2
  replace S:=(S.zneed hZ)
  refine wd (does_indexF zp hv2 rfl (S.onZ 1) (zC hi31).1 (zC hi31).2) ?_
  exact w4 rfl ⟨_,(fun z h=>tl9 z (hZ z h)),hm15.keep rfl rfl tl9,hm17.keep rfl rfl tl9,hm18.keep rfl rfl tl9,S⟩
 ·rintro L g v hL hcl hclo ⟨Z48,hZ,hm15,hm17,hm18,S⟩ hv3
  refine wd (ze zw hv3 (o':=_) rfl) ?_
  exact w4 rfl ⟨_,hZ,hm15.keep rfl rfl tl0,hm17.keep rfl rfl tl0,hm18.keep rfl rfl tl0,S⟩
 ·rintro L g v hL hcl hclo ⟨Z48,hZ,hm15,hm17,hm18,S⟩ hv4
  replace S:=(S.zneed hZ)
  refine wd (zl zr hv4 ((S.cl 3).get (Term.get_sub _))) ?_
  exact w4 rfl ⟨_,(fun z h=>tl9 z (hZ z h)),hm15.keep rfl rfl tl9,hm17.keep rfl rfl tl9,hm18.keep rfl rfl tl9,S⟩
 ·rintro L g v hL hcl hclo ⟨Z48,hZ,hm15,hm17,hm18,S⟩ hv5
  replace S:=(S.zneed hZ)
  refine wd (does_indexF zp hv5 rfl (S.onZ 4) (zC hi33).1 (zC hi33).2) ?_
  exact w4 rfl ⟨_,(fun z h=>tl9 z (hZ z h)),hm15.keep rfl rfl tl9,hm17.keep rfl rfl tl9,hm18.keep rfl rfl tl9,S⟩
 ·rintro L g v hL hcl hclo ⟨Z48,hZ,hm15,hm17,hm18,S⟩ hv6
  refine wd (ze zw hv6 (o':=_) rfl) ?_
  exact w4 rfl ⟨_,hZ,hm15.keep rfl rfl tl0,hm17.keep rfl rfl tl0,hm18.keep rfl rfl tl0,S⟩
 ·rintro L g v hL hcl hclo ⟨Z48,hZ,hm15,hm17,hm18,S⟩ hv7
  replace S:=(S.zneed hZ)
  refine wd (zl zr hv7 ((S.cl 5).get (Term.get_sub _))) ?_
  exact w4 rfl ⟨_,(fun z h=>tl9 z (hZ z h)),hm15.keep rfl rfl tl9,hm17.keep rfl rfl tl9,hm18.keep rfl rfl tl9,S⟩
 ·rintro L g v hL hcl hclo ⟨Z48,hZ,hm15,hm17,hm18,S⟩ hv8
  replace S:=(S.zneed hZ)
  refine wd (does_indexF zp hv8 rfl (S.onZ 6) (zC hi35).1 (zC hi35).2) ?_
  exact w4 rfl ⟨_,(fun z h=>tl9 z (hZ z h)),hm15.keep rfl rfl tl9,hm17.keep rfl rfl tl9,hm18.keep rfl rfl tl9,S⟩
 ·rintro L g v hL hcl hclo ⟨Z48,hZ,hm15,hm17,hm18,S⟩ hv9
  replace S:=(S.zneed hZ)
  refine wd (zz zX hv9 (S.cl 7) (Term.len _)) ?_
  exact w4 rfl ⟨_,(fun z h=>tl9 z (hZ z h)),hm15.keep rfl rfl tl9,hm17.keep rfl rfl tl9,hm18.keep rfl rfl tl9,S⟩
 ·rintro L g v hL hcl hclo ⟨Z48,hZ,hm15,hm17,hm18,S⟩ 
  refine wd (zD rfl) ?_
  exact w4 rfl ⟨_,hZ,hm15.keep rfl rfl tl0,hm17.keep rfl rfl tl0,hm18.keep rfl rfl tl0,S⟩
 ·rintro L g v hL hcl hclo ⟨Z48,hZ,hm15,hm17,hm18,S⟩ 
  refine wd (ldT rfl (S.blk 1)) ?_
  exact w4 rfl ⟨_,hZ,hm15.keep rfl rfl tl0,hm17.keep rfl rfl tl0,hm18.keep rfl rfl tl0,S⟩
 ·rintro L g v hL hcl hclo ⟨Z48,hZ,hm15,hm17,hm18,S⟩ 
  refine wd (zy rfl) ?_
  exact w4 rfl ⟨_,hZ,hm15.keep rfl rfl tl0,hm17.keep rfl rfl tl0,hm18.keep rfl rfl tl0,S⟩
 ·rintro L g v hL hcl hclo ⟨Z48,hZ,hm15,hm17,hm18,S⟩ hv11 hv12 hv13
  replace S:=(S.zneed hZ)
  obtain ⟨_,_,T,bk⟩ := S.calln 0 ((.z 0 rfl (.z 1 rfl .nil)))
  refine zB (zJ jO (zQ hv11 (zQ hv12 (zQ hv13 rfl)))) zbp (jZ (a1:=a1) T er37) ?_
  rintro _ w54 ⟨rfl,S2⟩
  replace S:=bk _ _ _ _ S2 rfl
  exact w4 rfl ⟨_,(fun z h=>tl9 z (hZ z h)),hm15.keep rfl rfl tl9,hm17.keep rfl rfl tl9,hm18.keep rfl rfl tl9,S⟩
 ·rintro L g v hL hcl hclo ⟨Z48,hZ,hm15,hm17,hm18,S⟩ hv10 hv14
  replace S:=(S.zneed hZ)
  obtain ⟨_,_,T,bk⟩ := S.sub [8] [] [oB b4 zj (Term.C tmZ),oB b2 zj (tmC a1 s_1)]
  refine zB (zJ ku (zQ hv10 (zQ hv14 rfl))) zbp (kw (a0:=(kd (kd (kd a1 0) 0) 0)) T er40) ?_
  rintro _ w57 ⟨s59,rfl,S2⟩
  replace S:=bk _ _ _ _ _ S2 rfl rfl
  exact w4 trivial ⟨_,(fun z h=>tl10 z (hZ z h)),Made.one (val:=(fun (c:SlV)=>Value.agg (tmC r40 c).toArray)) (ps:=(fun (c:SlV)=>[zf c r40.sub])) s59 (xQ List.mem_cons_self x7),hm17.keep rfl rfl tl10,hm18.keep rfl rfl tl10,S⟩
 ·rintro L g v hL hcl hclo ⟨Z48,hZ,hm15,hm17,hm18,S⟩ 
  refine wd (zy rfl) ?_
  exact w4 rfl ⟨_,hZ,hm15.keep rfl rfl tl0,hm17.keep rfl rfl tl0,hm18.keep rfl rfl tl0,S⟩
 ·rintro L g v hL hcl hclo ⟨Z48,hZ,hm15,hm17,hm18,S⟩ hv0 _ hv16
  obtain ⟨s43,he15,hp15⟩ := hm15 (hcl 15 zbs)
  replace S:=(S.zneed (xw (l1:=[zf s43 r40.sub]) hp15 hZ))
  obtain ⟨_,_,T,bk⟩ := S.sub [2,0,3] [] [oB b4 zj (Term.C tmZ),oB b2 zj (tmC a1 s_1)]
  refine zB (zJ ca_reduce_into (zQ hv0 (zQ he15 (zQ hv16 rfl)))) zbp (reduce_into_st (a0:=a1) (a1:=r40) T er44) ?_
  rintro _ w61 ⟨s63,rfl,S2⟩
  replace S:=bk _ _ _ _ _ S2 rfl rfl
  exact w4 trivial ⟨_,(fun z h=>tl11 z (hZ z h)),hm15.keep rfl rfl tl11,Made.one (val:=(fun (c:SlV)=>Value.tuple #[.agg (tmC r44.1 c).toArray,.int .i64 r44.2])) (ps:=(fun (c:SlV)=>[zf c r44.1.sub])) s63 (xQ List.mem_cons_self x7),hm18.keep rfl rfl tl11,S⟩
 ·rintro L g v hL hcl hclo ⟨Z48,hZ,hm15,hm17,hm18,S⟩ _
  obtain ⟨s47,he17,hp17⟩ := hm17 (hcl 17 zbs)
  replace S:=(S.zneed (xw (l1:=[zf s47 r44.1.sub]) hp17 hZ))
  refine wd (zo he17 rfl) ?_
  exact w4 trivial ⟨_,(fun z h=>tl10 z (hZ z h)),hm15.keep rfl rfl tl10,hm17.keep rfl rfl tl10,Made.one (val:=(fun (c:SlV)=>Value.agg (tmC r44.1 c).toArray)) (ps:=(fun (c:SlV)=>[zf c r44.1.sub])) s47 (xQ List.mem_cons_self x7),S⟩
 ·rintro L g v hL hcl hclo ⟨Z48,hZ,hm15,hm17,hm18,S⟩ _
  obtain ⟨s47,he17,hp17⟩ := hm17 (hcl 17 zbs)
  replace S:=(S.zneed (xw (l1:=[zf s47 r44.1.sub]) hp17 hZ))
  refine wd (zo he17 rfl) ?_
  exact w4 rfl ⟨_,(fun z h=>tl10 z (hZ z h)),hm15.keep rfl rfl tl10,hm17.keep rfl rfl tl10,hm18.keep rfl rfl tl10,S⟩
 rintro L g w64 hLm ⟨Z48,hZ,hm15,hm17,hm18,S⟩ hv65_0 hv65_1 hv65_2 hv65_3 hv65_4 hv65_5 hv65_6 hv65_7 hv65_8 hv65_9 hv65_10 hv65_11 hv65_12 hv65_13 hv65_14 _ hv65_16 _ _ hv65_19
 have hLt : ∀ j,j < 20→L j=true:=fun j hj=>by rw [hLm]; exact decide_eq_true hj
 obtain ⟨s43,hv65_15,hp15⟩ := hm15 (hLt 15 zbp)
 obtain ⟨s47,hv65_18,hp18⟩ := hm18 (hLt 18 zbp)
 replace S:=S.pickZ (xw (l1:=[zf s43 r40.sub]) hp15 (xw (l1:=[zf s47 r44.1.sub]) hp18 hZ))
 clear hp15 hp18 hZ hm15 hm17 hm18
 refine wsT rfl hv65_18 (S.blk 0) fun w66 B hw66 zw66=>?_
 replace S:=S.store 0 B hw66
 refine wd (zh hv65_19) (zd (zt ?_))
 refine ⟨_,(xi (rtT rfl (S.blk 0)) (zg rfl)),?_⟩
 replace S:=S.arr [] [1]
 obtain rfl:=zbt H
 exact ⟨s47,rfl,S⟩
theorem reduce_rules_14_st {a0:Tb} {a_0:Option Addr} {a1:PTerm} {s_1:SlV} (S:St A N w w [] [oT a_0 a0,zf s_1 a1.sub,oPw]) {k:Nat} {r:PTerm × Int} (H:zcK.f k a0 a1=some r) :
  Calls PP y9 #[.pointer a_0,.agg (tmC a1 s_1).toArray] w <| Rt fun v w'=>(∃ so0:SlV,v = .tuple #[.agg (tmC r.1 so0).toArray,.int .i64 r.2]∧St A N w w' [] [zf so0 r.1.sub]):=by
 unfold zcK.f at H
 refine zA (n:=19) Tryz.func126 rfl rfl zbr (zb (za ?_))
 refine zI rfl zbp fun b2 w1 hw1=>?_
 replace S:=S.new hw1
 refine zO xd zbp fun b4 w3 hw3=>?_
 replace S:=S.new hw3
 refine wd (zh rfl) (zd (zb ?_))
 refine wc_ws hmix fun w12 K=>?_
 replace S:=S.ext K
 clear K
 obtain ⟨hi13,H⟩ := zU H
 obtain ⟨s14,hc15,S⟩ := S.viewTerm 1 (zC hi13)
 replace S:=S.zs [1,2,3,0]
 obtain ⟨hi16,H⟩ := zU H
 obtain ⟨s17,hc18,S⟩ := S.viewTerm 1 (zC hi16)
 replace S:=S.zs [1,2,3,4,0]
 refine yO 0 10 [] zbs zbp zbs
  (V:=fun i v u=>match i with
  | _=>True) ?_ ?_
 ·intro i v u u' hi hx hv
  match i,hv with
  | _,_=>exact trivial
 refine zR (fun v K=>ze zw rfl (o':=4) rfl) rfl (zR (fun v K=>zl zr rfl (((S.ext K).blk 1).cell (Term.get_sub _))) rfl (zR (fun v K=>does_indexF zp rfl rfl ((S.ext K).onZ 1) (zC hi13).1 (zC hi13).2) rfl (zR (fun v K=>zz zX rfl (hc15.chg K (fun x=>x)) (Term.len _)) rfl (zR (fun v K=>ze xz rfl (o':=1) rfl) rfl (zR (fun v K=>zl xf rfl (((S.ext K).blk 1).cell (Term.get_name _))) rfl ?_)))))
 refine zR (fun v K=>ze zw rfl (o':=4) rfl) rfl (zR (fun v K=>zl zr rfl (((S.ext K).blk 1).cell (Term.get_sub _))) rfl (zR (fun v K=>does_indexF zp rfl rfl ((S.ext K).onZ 1) (zC hi16).1 (zC hi16).2) rfl (zR (fun v K=>zz zX rfl (hc18.chg K (fun x=>x)) (Term.len _)) rfl ?_)))
 refine vB fun g w19 K hV=>?_
 replace S:=S.ext K
 clear K hV
 refine uQ 10 11 zbs zbp ?_
 obtain ⟨r21,er21,H⟩ := zq H
 obtain ⟨_,_,T,bk⟩ := S.sub [3,4,2] [] [oB b4 zj (Term.C tmZ),oB b2 zj (tmC a1 s_1)]
 refine zB (zx kJ) zbp (kR (a0:=(kd a1 1)) (a2:=(kd a1 0)) T er21) ?_
 rintro _ w22 ⟨s24,rfl,S2⟩
 replace S:=bk _ _ _ _ _ S2 rfl rfl
 refine zd ⟨rfl,?_⟩
 refine yO 11 13 [] zbs zbp zbs
  (V:=fun i v u=>match i with
  | _=>True) ?_ ?_
 ·intro i v u u' hi hx hv
  match i,hv with
  | _,_=>exact trivial
 refine zR (fun v K=>zo rfl rfl) rfl (zR (fun v K=>zo rfl rfl) rfl ?_)
 refine vB fun g w25 K hV=>?_
 replace S:=S.ext K
 clear K hV
 refine j4 13 zbs zbp ?_
 refine wsT rfl rfl (S.blk 0) fun w27 B hw27 zw27=>?_
 replace S:=S.store 0 B hw27
 refine wd (zh rfl) (zd (zt ?_))
 refine ⟨_,(xi (rtT rfl (S.blk 0)) (zg rfl)),?_⟩
 replace S:=S.arr [] [0]
 obtain rfl:=zbt H
 exact ⟨s24,rfl,S⟩
end
section
open Gw Go.RowKit
def kE (i:Int):FuncId:=if i=0 then vq else if i=1 then vr else if i=2 then vt else if i=3 then vu else if i=4 then y7 else if i=5 then y8 else if i=6 then y9 else va
theorem ca_rule_does (i:Int):zH PP (kE i):=by
 unfold kE
 repeat' split
 ·exact ca_reduce_rules_2
 ·exact ca_reduce_rules_4
 ·exact ca_reduce_rules_6
 ·exact ca_reduce_rules_8
 ·exact ca_reduce_rules_10
 ·exact ca_reduce_rules_12
 ·exact ca_reduce_rules_14
 ·exact ca_reduce_rules_16
def zcL.f (k:Nat) (i:Int) (a0:Tb) (a1:PTerm):Option (PTerm × Int) :=
 if i=0 then zcF.f k a0 a1 else if i=1 then zcG.f k a0 a1 else if i=2 then zcj.f a0 a1 else if i=3 then zcl.f a0 a1 else if i=4 then zcI.f k a0 a1 else if i=5 then zcJ.f k a0 a1 else if i=6 then zcK.f k a0 a1 else if i=7 then zcq.f a0 a1 else none
theorem rule_does_v {k:Nat} {i:Int} {a0:Tb} {a1:PTerm} {r:PTerm × Int} (H:zcL.f k i a0 a1=some r):(uV i).does.v = .func (.func (kE i)) #[] #[]:=by
 by_cases h:0 ≤ i∧i < 8
 ·have:i=0∨i=1∨i=2∨i=3∨i=4∨i=5∨i=6∨i=7:=by omega
  rcases this with rfl | rfl | rfl | rfl | rfl | rfl | rfl | rfl <;> rfl
 ·unfold zcL.f at H
  simp only [show ¬ i=0 by omega,show ¬ i=1 by omega,show ¬ i=2 by omega,show ¬ i=3 by omega,show ¬ i=4 by omega,show ¬ i=5 by omega,show ¬ i=6 by omega,show ¬ i=7 by omega,if_false] at H
  cases H
section
variable {A:Nat→Prop} {N:Oth} {w:World}
theorem rule_does_st {a0:Tb} {a_0:Option Addr} {a1:PTerm} {s_1:SlV} (S:St A N w w [] [oT a_0 a0,zf s_1 a1.sub,oPw]) {k:Nat} {i:Int} {r:PTerm × Int} (H:zcL.f k i a0 a1=some r) :
  Calls PP (kE i) #[.pointer a_0,.agg (Term.C (⟨a1.kind,a1.name,a1.other,a1.form,s_1⟩ : Term)).toArray] w fun e w' => ∃ v,e = .returned v∧(∃ so0:SlV,v = .tuple #[.agg (Term.C (⟨r.1.kind,r.1.name,r.1.other,r.1.form,so0⟩ : Term)).toArray,.int .i64 r.2]∧St A N w w' [] [zf so0 r.1.sub]):=by
 unfold zcL.f at H
 unfold kE
 have S2:St A N w w [] [oT a_0 a0,zf s_1 a1.sub]:=S.zs [0,1]
 split
 ·rename_i e; rw [if_pos e] at H; exact reduce_rules_2_st S H
 rename_i e; rw [if_neg e] at H; clear e
 split
 ·rename_i e; rw [if_pos e] at H; exact reduce_rules_4_st S H
 rename_i e; rw [if_neg e] at H; clear e
 split
 ·rename_i e; rw [if_pos e] at H; exact reduce_rules_6_st S2 H
 rename_i e; rw [if_neg e] at H; clear e
 split
 ·rename_i e; rw [if_pos e] at H; exact reduce_rules_8_st S2 H
 rename_i e; rw [if_neg e] at H; clear e
 split
 ·rename_i e; rw [if_pos e] at H; exact reduce_rules_10_st S H
 rename_i e; rw [if_neg e] at H; clear e
 split
 ·rename_i e; rw [if_pos e] at H; exact reduce_rules_12_st S H
 rename_i e; rw [if_neg e] at H; clear e
 split
 ·rename_i e; rw [if_pos e] at H; exact reduce_rules_14_st S H
 rename_i e; rw [if_neg e] at H; clear e
 split at H
 ·exact reduce_rules_16_st S2 H
 ·cases H
end
end
section
open Gw
def zcM.f (a0:Tb) (a1:PTerm):Option (Int × Bool) :=
 (zcg.f a0 a1).bind fun r17=>if r17 then some (0,true) else (zch.f a0 a1).bind fun r31=>if r31 then some (1,true) else (zci.f a0 a1).bind fun r45=>if r45 then some (2,true) else (zck.f a0 a1).bind fun r59=>if r59 then some (3,true) else (zcm.f a0 a1).bind fun r73=>if r73 then some (4,true) else (zcn.f a0 a1).bind fun r87=>if r87 then some (5,true) else (zco.f a0 a1).bind fun r101=>if r101 then some (6,true) else (zcp.f a0 a1).bind fun r115=>if r115 then some (7,true) else some (8,false)
def zcN.b0 (zel:PTerm→Option PTerm) (i11:Int) (x11_0:PTerm):Option PTerm :=
 chk (inb i11 x11_0.sub.length) ((zel (at_ PTerm.z x11_0.sub i11)).bind fun r23=>chk (inb i11 x11_0.sub.length) (some (⟨x11_0.kind,x11_0.name,x11_0.other,x11_0.form,x11_0.sub.set (Int.toNat i11) r23⟩ : PTerm)))
def zcN.g (zel:PTerm→Option PTerm) (a0:PTerm):Option PTerm :=
 (zbE.f a0.sub).bind fun r6=>(forS (fun i s=>zcN.b0 zel i s) ((r6.length:Int) - 0).toNat 0 (⟨a0.kind,a0.name,a0.other,a0.form,r6⟩ : PTerm)).bind fun (o11:PTerm)=>some (⟨o11.kind,o11.name,o11.other,o11.form,o11.sub⟩ : PTerm)
def zcN.f:Nat→PTerm→Option PTerm
 | 0=>fun _=>none
 | k + 1=>zcN.g (zcN.f k)
def zcO.b0 (zeq:PTerm→Option PTerm) (i20:Int) (x20_0:PTerm):Option PTerm :=
 chk (inb i20 x20_0.sub.length) ((zeq (at_ PTerm.z x20_0.sub i20)).bind fun r32=>chk (inb i20 x20_0.sub.length) (some (⟨x20_0.kind,x20_0.name,x20_0.other,x20_0.form,x20_0.sub.set (Int.toNat i20) r32⟩ : PTerm)))
def zcO.g (zeq:PTerm→Option PTerm) (a0:PTerm):Option PTerm :=
 if decide (a0.kind=11) then chk (inb 0 a0.sub.length) ((zeq (at_ PTerm.z a0.sub 0)).bind fun r9=>some r9) else (zbE.f a0.sub).bind fun r15=>(forS (fun i s=>zcO.b0 zeq i s) ((r15.length:Int) - 0).toNat 0 (⟨a0.kind,a0.name,a0.other,a0.form,r15⟩ : PTerm)).bind fun (o20:PTerm)=>some (⟨o20.kind,o20.name,o20.other,o20.form,o20.sub⟩ : PTerm)
def zcO.f:Nat→PTerm→Option PTerm
 | 0=>fun _=>none
 | k + 1=>zcO.g (zcO.f k)
def zcP.f (k:Nat) (a0:PTerm):Option (PTerm × Int) :=
 (zbU.f k a0).bind fun r5=>if decide (r5 ≠ 0) then some ((⟨0,ByteArray.empty,ByteArray.empty,0,[]⟩ : PTerm),r5) else (zcO.f k a0).bind fun r10=>some (r10,0)
def zcQ.g (zen:Tb→PTerm→List Int→Option (PTerm × Int)) (k:Nat) (a0:Tb) (a1:PTerm) (a2:List Int):Option (PTerm × Int) :=
 if decide ((a2.length:Int)=0) then (zcM.f a0 a1).bind fun r6=>if !r6.2 then some ((⟨0,ByteArray.empty,ByteArray.empty,0,[]⟩ : PTerm),140) else (zcL.f k r6.1 a0 a1).bind fun r21=>some (r21.1,r21.2) else chk (inb 0 a2.length) (if (decide (at_ (0:Int) a2 0 < 0)) || (decide ((a1.sub.length:Int) ≤ at_ (0:Int) a2 0)) then some ((⟨0,ByteArray.empty,ByteArray.empty,0,[]⟩ : PTerm),140) else chk (inb (at_ (0:Int) a2 0) a1.sub.length) (chk (decide ((0:Int) ≤ 1∧1 ≤ (a2.length:Int))) ((zen a0 (at_ PTerm.z a1.sub (at_ (0:Int) a2 0)) (a2.drop ((1:Int)).toNat)).bind fun r38=>if decide (r38.2 ≠ 0) then some ((⟨0,ByteArray.empty,ByteArray.empty,0,[]⟩ : PTerm),r38.2) else (zbE.f a1.sub).bind fun r62=>chk (inb (at_ (0:Int) a2 0) r62.length) (some ((⟨a1.kind,a1.name,a1.other,a1.form,r62.set (Int.toNat (at_ (0:Int) a2 0)) r38.1⟩ : PTerm),0)))))
def zcQ.f:Nat→Tb→PTerm→List Int→Option (PTerm × Int)
 | 0=>fun _ _ _=>none
 | k + 1=>zcQ.g (zcQ.f k) k
def zcR.f (k:Nat) (a0:Tb) (a1:PTerm) (a2:List Int):Option (PTerm × Int) :=
 (zcQ.f k a0 a1 a2).bind fun r5=>(if (decide (r5.2=0)) then zbU.f k r5.1 else some 0).bind fun r12=>if (decide (r5.2=0)) && (decide (r12 ≠ 0)) then if decide (121 ≠ 0) then some ((⟨0,ByteArray.empty,ByteArray.empty,0,[]⟩ : PTerm),121) else (zcN.f k r5.1).bind fun r17=>some (r17,0) else if decide (r5.2 ≠ 0) then some ((⟨0,ByteArray.empty,ByteArray.empty,0,[]⟩ : PTerm),r5.2) else (zcN.f k r5.1).bind fun r24=>some (r24,0)
def zcS.f (k:Nat) (a0:Tb) (a1:PTerm) (a2:List Int):Option (PTerm × Int) :=
 (zcw.f k a0 a1).bind fun r5=>if decide (r5.2 ≠ 0) then some ((⟨0,ByteArray.empty,ByteArray.empty,0,[]⟩ : PTerm),r5.2) else chk r5.1 ((zcR.f k a0 a1 a2).bind fun r11=>some (r11.1,r11.2))
def zcT.f (a0:List Int) (a1:List (List Int)):Option (List (List Int) × Bool) :=
 (zbF.f a0).bind fun r10=>chk (decide ((a1.length + 1) * 24 ≤ 140737488355328)) (some (a1 ++ [r10],decide (((a1 ++ [r10]).length:Int) < 1000)))
def zcU.b0 (a2:List Int) (zeo:Tb→PTerm→List Int→List (List Int)→Option (List (List Int) × Bool)) (a0:Tb) (a1:PTerm) (i14:Int) (x14_0:List (List Int)):Option (Stp (List (List Int)) (List (List Int) × Bool)) :=
 chk (decide (0 ≤ (a2.length:Int)∧(a2.length:Int) ≤ (a2.length:Int))) (chk (decide (((a2.take (Int.toNat (a2.length:Int))).length + ([i14]).length) * 8 ≤ 140737488355328)) ((zeo a0 (at_ PTerm.z a1.sub i14) ((a2.take (Int.toNat (a2.length:Int))) ++ [i14]) x14_0).bind fun r43=>if !r43.2 then some (.ret (r43.1,false)) else some (.go r43.1)))
def zcU.g (zeo:Tb→PTerm→List Int→List (List Int)→Option (List (List Int) × Bool)) (a0:Tb) (a1:PTerm) (a2:List Int) (a3_0:List (List Int)):Option (List (List Int) × Bool) :=
 (zcM.f a0 a1).bind fun r3=>(if r3.2 then zcT.f a2 a3_0 else some (a3_0,false)).bind fun r9=>if r3.2 && (!r9.2) then some (r9.1,false) else (forN (fun i s=>zcU.b0 a2 zeo a0 a1 i s) ((a1.sub.length:Int) - 0).toNat 0 r9.1).bind (aft fun (s14:List (List Int))=>some (s14,true))
def zcU.f:Nat→Tb→PTerm→List Int→List (List Int)→Option (List (List Int) × Bool)
 | 0=>fun _ _ _ _=>none
 | k + 1=>zcU.g (zcU.f k)
def zcV.f (k:Nat) (a0:Tb) (a1:PTerm):Option (List (List Int) × Int) :=
 (zcw.f k a0 a1).bind fun r3=>if decide (r3.2 ≠ 0) then some (([]:List (List Int)),r3.2) else chk r3.1 ((zcU.f k a0 a1 ([]) ([]:List (List Int))).bind fun r10=>some (r10.1,0))
def zcW.f (k:Nat) (a0:Tb) (a1:PTerm):Option (Bool × Int) :=
 (zcV.f k a0 a1).bind fun r3=>some ((decide (r3.2=0)) && (decide ((r3.1.length:Int)=0)),r3.2)
def zcX.f (a0:List Int) (a1:List Int):Option (List Int × Bool) :=
 (zbF.f a0).bind fun r1=>some (r1,false)
def zcY.b0 (a2:List Int) (zep:Tb→PTerm→List Int→List Int→Option (List Int × Bool)) (a0:Tb) (a1:PTerm) (i14:Int) (x14_0:List Int):Option (Stp (List Int) (List Int × Bool)) :=
 chk (decide (0 ≤ (a2.length:Int)∧(a2.length:Int) ≤ (a2.length:Int))) (chk (decide (((a2.take (Int.toNat (a2.length:Int))).length + ([i14]).length) * 8 ≤ 140737488355328)) ((zep a0 (at_ PTerm.z a1.sub i14) ((a2.take (Int.toNat (a2.length:Int))) ++ [i14]) x14_0).bind fun r43=>if !r43.2 then some (.ret (r43.1,false)) else some (.go r43.1)))
def zcY.g (zep:Tb→PTerm→List Int→List Int→Option (List Int × Bool)) (a0:Tb) (a1:PTerm) (a2:List Int) (a3_0:List Int):Option (List Int × Bool) :=
 (zcM.f a0 a1).bind fun r3=>(if r3.2 then zcX.f a2 a3_0 else some (a3_0,false)).bind fun r9=>if r3.2 && (!r9.2) then some (r9.1,false) else (forN (fun i s=>zcY.b0 a2 zep a0 a1 i s) ((a1.sub.length:Int) - 0).toNat 0 r9.1).bind (aft fun (s14:List Int)=>some (s14,true))
def zcY.f:Nat→Tb→PTerm→List Int→List Int→Option (List Int × Bool)
 | 0=>fun _ _ _ _=>none
 | k + 1=>zcY.g (zcY.f k)
def zcZ.b0 (k:Nat) (a0:Tb) (a2:Int) (x19_0:Int) (x19_1:PTerm) (x19_2:PTerm):Option (Stp (Int × PTerm × PTerm) (PTerm × Int × Bool × Int)) :=
 (zcY.f k a0 x19_1 ([]) ([]:List Int)).bind fun r28=>if r28.2 then some (.brk (x19_0,x19_1,x19_2)) else if decide (x19_0=a2) then some (.ret (x19_1,x19_0,false,0)) else (zcR.f k a0 x19_1 r28.1).bind fun r35=>if decide (r35.2 ≠ 0) then some (.ret (x19_1,x19_0,false,r35.2)) else some (.go (IntKind.i64.wrap (x19_0 + 1),r35.1,x19_2))
def zcZ.f (k:Nat) (a0:Tb) (a1:PTerm) (a2:Int):Option (PTerm × Int × Bool × Int) :=
 (zcw.f k a0 a1).bind fun r5=>if decide (r5.2 ≠ 0) then some ((⟨0,ByteArray.empty,ByteArray.empty,0,[]⟩ : PTerm),0,false,r5.2) else if (decide (a2 < 0)) || (decide (4096 < a2)) then some ((⟨0,ByteArray.empty,ByteArray.empty,0,[]⟩ : PTerm),0,false,2) else (zcN.f k a1).bind fun r13=>chk r5.1 ((iter (fun s=>zcZ.b0 k a0 a2 s.1 s.2.1 s.2.2) k (0,r13,(⟨0,ByteArray.empty,ByteArray.empty,0,[]⟩ : PTerm))).bind (aft fun (s19:Int × PTerm × PTerm)=>some (s19.2.1,s19.1,true,0)))
end
section
open Gw
def zda.b0 (a0:List Nd) (i5:Int) (x5_0:Tb):Option (Stp Tb (Tb × Int)) :=
 (zby.f x5_0 (at_ Nd.z a0 i5)).bind fun r11=>if (decide (r11.2.2=0)) && (decide (r11.2.1 ≠ i5)) then if decide (31 ≠ 0) then some (.ret (none,31)) else some (.go r11.1) else if decide (r11.2.2 ≠ 0) then some (.ret (none,r11.2.2)) else some (.go r11.1)
def zda.f (a0:List Nd):Option (Tb × Int) :=
 (zbC.f).bind fun r1=>(forN (fun i s=>zda.b0 a0 i s) ((a0.length:Int) - 0).toNat 0 r1).bind (aft fun (s5:Tb)=>some (s5,0))
def zdb.b0 (a1:List Int) (a0:List Int) (i2:Int):Option (Stp Unit Bool) :=
 chk (inb i2 a1.length) (if decide (at_ (0:Int) a0 i2 ≠ at_ (0:Int) a1 i2) then some (.ret false) else some (.go ()))
def zdb.f (a0:List Int) (a1:List Int):Option Bool :=
 if decide ((a0.length:Int) ≠ (a1.length:Int)) then some false else (forN (fun i s=>zdb.b0 a1 a0 i) ((a0.length:Int) - 0).toNat 0 ()).bind (aft fun (s2:Unit)=>some true)
def zdc.b0 (a1:List Nd) (a0:List Nd) (i2:Int):Option (Stp Unit Bool) :=
 chk (inb i2 a1.length) (if !decide (at_ Nd.z a0 i2=at_ Nd.z a1 i2) then some (.ret false) else some (.go ()))
def zdc.f (a0:List Nd) (a1:List Nd):Option Bool :=
 if decide ((a0.length:Int) ≠ (a1.length:Int)) then some false else (forN (fun i s=>zdc.b0 a1 a0 i) ((a0.length:Int) - 0).toNat 0 ()).bind (aft fun (s2:Unit)=>some true)
def zdd.f (a0:Tb) (a1:Int):Option Bool :=
 chk a0.isSome (some ((decide (0 ≤ a1)) && (decide (a1 < ((a0.getD []).length:Int)))))
def zde.b0 (a0:Tb) (a1:Nd) (i4:Int):Option (Stp Unit (Int × Bool)) :=
 if decide (at_ Nd.z (a0.getD []) i4=a1) then some (.ret (i4,true)) else some (.go ())
def zde.f (a0:Tb) (a1:Nd):Option (Int × Bool) :=
 chk a0.isSome ((forN (fun i s=>zde.b0 a0 a1 i) (((a0.getD []).length:Int) - 0).toNat 0 ()).bind (aft fun (s4:Unit)=>some (0,false)))
def zdf.f (a0:Tb) (a1:Nd):Option (Tb × Int × Int) :=
 (if decide (a1.kind=1) then if (decide (a1.l ≠ 0)) || (decide (a1.r ≠ 0)) then some (.inr (a0,0,31)) else (zbA.f a1.name).bind fun r6=>if !r6 then some (.inr (a0,0,32)) else some (.inl a0) else if decide (a1.kind=2) then if ((decide (a1.name ≠ (⟨#[]⟩ : ByteArray))) || (decide (a1.l ≠ 0))) || (decide (a1.r ≠ 0)) then some (.inr (a0,0,31)) else some (.inl a0) else (if decide (a1.kind=3) then some (decide (a1.kind=3)) else if decide (a1.kind=4) then some (decide (a1.kind=4)) else some (decide (a1.kind=5))).bind fun (o12:Bool)=>if o12 then (if (!(decide (a1.name ≠ (⟨#[]⟩ : ByteArray)))) then zdd.f a0 a1.l else some false).bind fun r18=>(if (!((decide (a1.name ≠ (⟨#[]⟩ : ByteArray))) || (!r18))) then zdd.f a0 a1.r else some false).bind fun r20=>if ((decide (a1.name ≠ (⟨#[]⟩ : ByteArray))) || (!r18)) || (!r20) then some (.inr (a0,0,31)) else some (.inl a0) else some (.inr (a0,0,31))).bind (aft fun (s3:Tb)=>(zde.f s3 a1).bind fun r25=>if r25.2 then some (s3,r25.1,0) else chk s3.isSome (if decide (1024 ≤ ((s3.getD []).length:Int)) then some ((some (s3.getD [])),0,30) else chk (decide (((s3.getD []).length + 1) * 40 ≤ 140737488355328)) (some ((some ((s3.getD []) ++ [a1])),IntKind.i64.wrap ((((s3.getD []) ++ [a1]).length:Int) - 1),0))))
def zdg.b0 (a0:List Nd) (i3:Int) (x3_0:Tb):Option (Stp Tb (Tb × Int)) :=
 (zdf.f x3_0 (at_ Nd.z a0 i3)).bind fun r6=>if decide (r6.2.2 ≠ 0) then some (.ret (none,r6.2.2)) else if decide (r6.2.1 ≠ i3) then some (.ret (none,31)) else some (.go r6.1)
def zdg.f (a0:List Nd):Option (Tb × Int) :=
 (forN (fun i s=>zdg.b0 a0 i s) ((a0.length:Int) - 0).toNat 0 (some [])).bind (aft fun (s3:Tb)=>some (s3,0))
def zdh.f (a0:Tb) (a1:Tb):Option Bool :=
 chk a1.isSome ((zbD.f a0).bind fun r13=>(zdc.f r13 (a1.getD [])).bind fun r17=>(if r17 then zbw.f a0 else some 0).bind fun r20=>some (r17 && (decide (r20=((a1.getD []).length:Int)))))
def zdi.f (a0:List Nd):Option (Tb × Tb × Bool) :=
 chk (decide ((([]:List Nd).length + a0.length) * 40 ≤ 140737488355328)) ((zdg.f a0).bind fun r7=>if decide (r7.2 ≠ 0) then some (none,none,false) else (zda.f (([]:List Nd) ++ a0)).bind fun r12=>some (r12.1,r7.1,true))
end
section
open Gw
def zdj.f (a0:Tb) (a1:ByteArray):Option (Tb × Int × Int) :=
 (zby.f a0 ({ Nd.z with kind:=1,name:=a1 })).bind fun r1=>some (r1.1,r1.2.1,r1.2.2)
def zdk.f (a0:Int):Option Int :=
 some a0
def zdl.f (a0:ByteArray):Option PTerm :=
 some (⟨1,a0,ByteArray.empty,0,[]⟩ : PTerm)
def zdm.b0 (a0:PTerm) (a1:PTerm) (zet:PTerm→PTerm→Option Bool) (x6_0:Int):Option (Stp Int Bool) :=
 if decide (x6_0 < (a0.sub.length:Int)) then chk (inb x6_0 a0.sub.length) (chk (inb x6_0 a1.sub.length) ((zet (at_ PTerm.z a0.sub x6_0) (at_ PTerm.z a1.sub x6_0)).bind fun r15=>if !r15 then some (.ret false) else some (.go (IntKind.i64.wrap (x6_0 + 1))))) else some (.brk x6_0)
def zdm.g (zet:PTerm→PTerm→Option Bool) (k:Nat) (a0:PTerm) (a1:PTerm):Option Bool :=
 if ((((decide (a0.kind ≠ a1.kind)) || (decide (a0.name ≠ a1.name))) || (decide (a0.other ≠ a1.other))) || (decide (a0.form ≠ a1.form))) || (decide ((a0.sub.length:Int) ≠ (a1.sub.length:Int))) then some false else (iter (fun s=>zdm.b0 a0 a1 zet s) k 0).bind (aft fun (s6:Int)=>some true)
def zdm.f:Nat→PTerm→PTerm→Option Bool
 | 0=>fun _ _=>none
 | k + 1=>zdm.g (zdm.f k) k
def zdn.b0 (a1:List (List Int)) (a0:List (List Int)) (i2:Int):Option (Stp Unit Bool) :=
 chk (inb i2 a1.length) ((zdb.f (at_ [] a0 i2) (at_ [] a1 i2)).bind fun r11=>if !r11 then some (.ret false) else some (.go ()))
def zdn.f (a0:List (List Int)) (a1:List (List Int)):Option Bool :=
 if decide ((a0.length:Int) ≠ (a1.length:Int)) then some false else (forN (fun i s=>zdn.b0 a1 a0 i) ((a0.length:Int) - 0).toNat 0 ()).bind (aft fun (s2:Unit)=>some true)
end
section
open Gw
def zdo.f (k:Nat)  : Option Bool :=
 (zbC.f).bind fun r1=>(zdj.f r1 (⟨#[112]⟩ : ByteArray)).bind fun r5=>(zbx.f r5.1 r5.2.1 r5.2.1).bind fun r8=>(zdl.f (⟨#[120]⟩ : ByteArray)).bind fun r11=>(zdl.f (⟨#[121]⟩ : ByteArray)).bind fun r24=>(zcS.f k r8.1 (⟨3,ByteArray.empty,ByteArray.empty,0,[(⟨11,ByteArray.empty,ByteArray.empty,r8.2.1,[(⟨2,(⟨#[120]⟩ : ByteArray),ByteArray.empty,0,[r11]⟩ : PTerm)]⟩ : PTerm),r24]⟩ : PTerm) ([])).bind fun r50=>(zcV.f k r8.1 r50.1).bind fun r57=>(zcZ.f k r8.1 (⟨3,ByteArray.empty,ByteArray.empty,0,[(⟨11,ByteArray.empty,ByteArray.empty,r8.2.1,[(⟨2,(⟨#[120]⟩ : ByteArray),ByteArray.empty,0,[r11]⟩ : PTerm)]⟩ : PTerm),r24]⟩ : PTerm) 9).bind fun r61=>(zcP.f k (⟨3,ByteArray.empty,ByteArray.empty,0,[(⟨11,ByteArray.empty,ByteArray.empty,r8.2.1,[(⟨2,(⟨#[120]⟩ : ByteArray),ByteArray.empty,0,[r11]⟩ : PTerm)]⟩ : PTerm),r24]⟩ : PTerm)).bind fun r68=>(zdl.f (⟨#[121]⟩ : ByteArray)).bind fun r75=>(zcW.f k r8.1 r75).bind fun r79=>(zdl.f (⟨#[121]⟩ : ByteArray)).bind fun r82=>(zcS.f k r8.1 r82 ([])).bind fun r86=>(zdl.f (⟨#[121]⟩ : ByteArray)).bind fun r93=>(zdk.f r50.2).bind fun r130=>chk (decide (r130=0)) ((zdm.f k r50.1 (⟨11,ByteArray.empty,ByteArray.empty,r5.2.1,[(⟨11,ByteArray.empty,ByteArray.empty,r5.2.1,[r93]⟩ : PTerm)]⟩ : PTerm)).bind fun r134=>chk ((decide (r130=0)) && r134) ((zdk.f r57.2).bind fun r138=>chk (((decide (r130=0)) && r134) && (decide (r138=0))) ((zdn.f r57.1 ([([]:List Int),[0]])).bind fun r148=>chk ((((decide (r130=0)) && r134) && (decide (r138=0))) && r148) ((zdk.f r61.2.2.2).bind fun r152=>chk (((((decide (r130=0)) && r134) && (decide (r138=0))) && r148) && (decide (r152=0))) (chk ((((((decide (r130=0)) && r134) && (decide (r138=0))) && r148) && (decide (r152=0))) && (decide (r61.2.1=3))) (chk (((((((decide (r130=0)) && r134) && (decide (r138=0))) && r148) && (decide (r152=0))) && (decide (r61.2.1=3))) && r61.2.2.1) ((zdl.f (⟨#[121]⟩ : ByteArray)).bind fun r158=>(zdm.f k r61.1 r158).bind fun r162=>chk ((((((((decide (r130=0)) && r134) && (decide (r138=0))) && r148) && (decide (r152=0))) && (decide (r61.2.1=3))) && r61.2.2.1) && r162) ((zdk.f r68.2).bind fun r166=>chk (((((((((decide (r130=0)) && r134) && (decide (r138=0))) && r148) && (decide (r152=0))) && (decide (r61.2.1=3))) && r61.2.2.1) && r162) && (decide (r166=0))) ((if (((((((((decide (r130=0)) && r134) && (decide (r138=0))) && r148) && (decide (r152=0))) && (decide (r61.2.1=3))) && r61.2.2.1) && r162) && (decide (r166=0))) then zdm.f k r68.1 (⟨3,ByteArray.empty,ByteArray.empty,0,[(⟨2,(⟨#[120]⟩ : ByteArray),ByteArray.empty,0,[r11]⟩ : PTerm),r158]⟩ : PTerm) else some false).bind fun r215=>(if ((((((((((decide (r130=0)) && r134) && (decide (r138=0))) && r148) && (decide (r152=0))) && (decide (r61.2.1=3))) && r61.2.2.1) && r162) && (decide (r166=0))) && r215) then zdk.f r79.2 else some 0).bind fun r217=>(if ((((((((((((decide (r130=0)) && r134) && (decide (r138=0))) && r148) && (decide (r152=0))) && (decide (r61.2.1=3))) && r61.2.2.1) && r162) && (decide (r166=0))) && r215) && (decide (r217=0))) && r79.1) then zdk.f r86.2 else some 0).bind fun r219=>some (((((((((((((decide (r130=0)) && r134) && (decide (r138=0))) && r148) && (decide (r152=0))) && (decide (r61.2.1=3))) && r61.2.2.1) && r162) && (decide (r166=0))) && r215) && (decide (r217=0))) && r79.1) && (decide (r219=140))))))))))))
end
section
open Gw
def zdp.f (a0:List Nd):Option (Tb × Tb) :=
 (zdi.f a0).bind fun r1=>if !r1.2.2 then (zbC.f).bind fun r7=>some (r7,(some [])) else some (r1.1,r1.2.1)
def zdq.f (a0:Tb) (a1:Tb):Option Bool :=
 (zdh.f a0 a1).bind fun r1=>some r1
def zdr.b0 (a0:PTerm) (zer:PTerm→Option PTerm) (x9_0:Int) (x9_1:PTerm):Option (Stp (Int × PTerm) PTerm) :=
 if decide (x9_0 < (a0.sub.length:Int)) then chk (inb x9_0 a0.sub.length) ((zer (at_ PTerm.z a0.sub x9_0)).bind fun r19=>chk (decide ((x9_1.sub.length + 1) * 72 ≤ 140737488355328)) (some (.go (IntKind.i64.wrap (x9_0 + 1),(⟨x9_1.kind,x9_1.name,x9_1.other,x9_1.form,x9_1.sub ++ [r19]⟩ : PTerm))))) else some (.brk (x9_0,x9_1))
def zdr.g (zer:PTerm→Option PTerm) (k:Nat) (a0:PTerm):Option PTerm :=
 (iter (fun s=>zdr.b0 a0 zer s.1 s.2) k (0,(⟨a0.kind,a0.name,a0.other,a0.form,([]:List PTerm)⟩ : PTerm))).bind (aft fun (s9:Int × PTerm)=>some (⟨s9.2.kind,s9.2.name,s9.2.other,s9.2.form,s9.2.sub⟩ : PTerm))
def zdr.f:Nat→PTerm→Option PTerm
 | 0=>fun _=>none
 | k + 1=>zdr.g (zdr.f k) k
def zds.f (a0:PTerm) (a1:Int):Option ByteArray :=
 (if decide (a0.kind=2) then some (decide (a0.kind=2)) else if (decide (a0.kind=12)) && (decide (a1=1)) then some ((decide (a0.kind=12)) && (decide (a1=1))) else some ((decide (a0.kind=9)) && (decide (a1=1)))).bind fun (o3:Bool)=>if o3 then some a0.name else if (decide (a0.kind=9)) && (decide (a1=2)) then some a0.other else some (⟨#[]⟩ : ByteArray)
def zdt.b0 (a0:PTerm) (a1:ByteArray) (zes:PTerm→ByteArray→Option Bool) (x4_0:Int):Option (Stp Int Bool) :=
 if decide (x4_0 < (a0.sub.length:Int)) then (zds.f a0 x4_0).bind fun r6=>chk (!(decide (r6 ≠ a1)) || (inb x4_0 a0.sub.length)) ((if (decide (r6 ≠ a1)) then zes (at_ PTerm.z a0.sub x4_0) a1 else some false).bind fun r12=>if (decide (r6 ≠ a1)) && r12 then some (.ret true) else some (.go (IntKind.i64.wrap (x4_0 + 1)))) else some (.brk x4_0)
def zdt.g (zes:PTerm→ByteArray→Option Bool) (k:Nat) (a0:PTerm) (a1:ByteArray):Option Bool :=
 if decide (a0.kind=1) then some (decide (a0.name=a1)) else (iter (fun s=>zdt.b0 a0 a1 zes s) k 0).bind (aft fun (s4:Int)=>some false)
def zdt.f:Nat→PTerm→ByteArray→Option Bool
 | 0=>fun _ _=>none
 | k + 1=>zdt.g (zdt.f k) k
def zdu.b0  (x1_0:Int) (x1_1:ByteArray):Option (Stp (Int × ByteArray) ByteArray) :=
 if (decide (0 < x1_0)) || (decide (x1_1=(⟨#[]⟩ : ByteArray))) then chk (decide ((strOfNums ([IntKind.u8.wrap (IntKind.i64.wrap (48 + (Int.tmod x1_0 10)))])).size + x1_1.size ≤ 1000000)) (some (.go (IntKind.i64.wrap (Int.tdiv x1_0 10),(strOfNums ([IntKind.u8.wrap (IntKind.i64.wrap (48 + (Int.tmod x1_0 10)))])) ++ x1_1))) else some (.brk (x1_0,x1_1))
def zdu.f (k:Nat) (a0:Int):Option ByteArray :=
 (iter (fun s=>zdu.b0 s.1 s.2) k (a0,(⟨#[]⟩ : ByteArray))).bind (aft fun (s1:Int × ByteArray)=>some s1.2)
def zdv.b0 (k:Nat) (a2:ByteArray) (a0:PTerm) (a1:PTerm) (x5_0:Int):Option (Stp Int ByteArray) :=
 (zdu.f k x5_0).bind fun r6=>chk (decide ((⟨#[118]⟩ : ByteArray).size + r6.size ≤ 1000000)) ((if (decide ((⟨#[118]⟩ : ByteArray) ++ r6 ≠ a2)) then zdt.f k a0 ((⟨#[118]⟩ : ByteArray) ++ r6) else some false).bind fun r10=>(if ((decide ((⟨#[118]⟩ : ByteArray) ++ r6 ≠ a2)) && (!r10)) then zdt.f k a1 ((⟨#[118]⟩ : ByteArray) ++ r6) else some false).bind fun r12=>if ((decide ((⟨#[118]⟩ : ByteArray) ++ r6 ≠ a2)) && (!r10)) && (!r12) then some (.ret ((⟨#[118]⟩ : ByteArray) ++ r6)) else some (.go (IntKind.i64.wrap (x5_0 + 1))))
def zdv.f (k:Nat) (a0:PTerm) (a1:PTerm) (a2:ByteArray):Option ByteArray :=
 (iter (fun s=>zdv.b0 k a2 a0 a1 s) k 0).bind (aft fun (s5:Int)=>none)
def zdw.b0 (a0:PTerm) (a1:ByteArray) (k:Nat) (a2:PTerm) (zew:PTerm→ByteArray→PTerm→Option PTerm) (x19_0:Int) (x19_1:PTerm):Option (Stp (Int × PTerm) PTerm) :=
 if decide (x19_0 < (a0.sub.length:Int)) then chk (inb x19_0 a0.sub.length) ((zds.f a0 x19_0).bind fun r33=>(if (!(decide (r33=a1))) then zdt.f k (at_ PTerm.z a0.sub x19_0) a1 else some false).bind fun r36=>if (decide (r33=a1)) || (!r36) then (zdr.f k (at_ PTerm.z a0.sub x19_0)).bind fun r39=>chk (decide ((x19_1.sub.length + 1) * 72 ≤ 140737488355328)) (some (.go (IntKind.i64.wrap (x19_0 + 1),(⟨x19_1.kind,x19_1.name,x19_1.other,x19_1.form,x19_1.sub ++ [r39]⟩ : PTerm)))) else (if (decide (r33 ≠ (⟨#[]⟩ : ByteArray))) then zdt.f k a2 r33 else some false).bind fun r58=>(if (decide (r33 ≠ (⟨#[]⟩ : ByteArray))) && r58 then (zdv.f k (at_ PTerm.z a0.sub x19_0) a2 a1).bind fun r65=>(zew (at_ PTerm.z a0.sub x19_0) r33 (⟨1,r65,ByteArray.empty,0,[]⟩ : PTerm)).bind fun r68=>if (decide (a0.kind=9)) && (decide (x19_0=2)) then some ((r68,(⟨x19_1.kind,x19_1.name,r65,x19_1.form,x19_1.sub⟩ : PTerm))) else some ((r68,(⟨x19_1.kind,r65,x19_1.other,x19_1.form,x19_1.sub⟩ : PTerm))) else some (((at_ PTerm.z a0.sub x19_0),x19_1))).bind fun (o60:PTerm × PTerm)=>(zew o60.1 a1 a2).bind fun r78=>chk (decide ((o60.2.sub.length + 1) * 72 ≤ 140737488355328)) (some (.go (IntKind.i64.wrap (x19_0 + 1),(⟨o60.2.kind,o60.2.name,o60.2.other,o60.2.form,o60.2.sub ++ [r78]⟩ : PTerm))))) else some (.brk (x19_0,x19_1))
def zdw.g (zew:PTerm→ByteArray→PTerm→Option PTerm) (k:Nat) (a0:PTerm) (a1:ByteArray) (a2:PTerm):Option PTerm :=
 if decide (a0.kind=1) then if decide (a0.name=a1) then (zdr.f k a2).bind fun r9=>some r9 else some a0 else (iter (fun s=>zdw.b0 a0 a1 k a2 zew s.1 s.2) k (0,(⟨a0.kind,a0.name,a0.other,a0.form,([]:List PTerm)⟩ : PTerm))).bind (aft fun (s19:Int × PTerm)=>some (⟨s19.2.kind,s19.2.name,s19.2.other,s19.2.form,s19.2.sub⟩ : PTerm))
def zdw.f:Nat→PTerm→ByteArray→PTerm→Option PTerm
 | 0=>fun _ _ _=>none
 | k + 1=>zdw.g (zdw.f k) k
def zdx.b0 (a0:PTerm) (a1:ByteArray) (zev:PTerm→ByteArray→Int→Int→Option (Int × Int)) (a2:Int) (a3:Int) (x5_0:Int) (x5_1:Int) (x5_2:Int):Option (Stp (Int × Int × Int) (Int × Int)) :=
 if decide (x5_2 < (a0.sub.length:Int)) then (zds.f a0 x5_2).bind fun r7=>if decide (r7=a1) then some (.go (x5_0,x5_1,IntKind.i64.wrap (x5_2 + 1))) else chk (inb x5_2 a0.sub.length) ((zev (at_ PTerm.z a0.sub x5_2) a1 (IntKind.i64.wrap (a2 + 1)) a3).bind fun r14=>some (.go (IntKind.i64.wrap (x5_0 + r14.1),(if x5_1 < r14.2 then r14.2 else x5_1),IntKind.i64.wrap (x5_2 + 1)))) else some (.brk (x5_0,x5_1,x5_2))
def zdx.g (zev:PTerm→ByteArray→Int→Int→Option (Int × Int)) (k:Nat) (a0:PTerm) (a1:ByteArray) (a2:Int) (a3:Int):Option (Int × Int) :=
 if decide (a0.kind=1) then if decide (a0.name=a1) then some (1,IntKind.i64.wrap ((IntKind.i64.wrap (a2 + a3)) - 1)) else some (0,a2) else (iter (fun s=>zdx.b0 a0 a1 zev a2 a3 s.1 s.2.1 s.2.2) k (0,a2,0)).bind (aft fun (s5:Int × Int × Int)=>some (s5.1,s5.2.1))
def zdx.f:Nat→PTerm→ByteArray→Int→Int→Option (Int × Int)
 | 0=>fun _ _ _ _=>none
 | k + 1=>zdx.g (zdx.f k) k
def zdy.f (k:Nat) (a0:PTerm) (a1:ByteArray) (a2:PTerm):Option (PTerm × Int) :=
 (zbW.f k a0).bind fun r7=>(if decide (r7=0) then (zbW.f k a2).bind fun r12=>some (r12) else some (r7)).bind fun (o10:Int)=>(if (decide (o10=0)) then zbA.f a1 else some false).bind fun r17=>(if (decide (o10=0)) && (!r17) then some (32) else some (o10)).bind fun (o19:Int)=>if decide (o19 ≠ 0) then some ((⟨0,ByteArray.empty,ByteArray.empty,0,[]⟩ : PTerm),o19) else (zbP.f k a2).bind fun r25=>(zdx.f k a0 a1 1 r25).bind fun r26=>(zbN.f k a0).bind fun r28=>(zbN.f k a2).bind fun r29=>if (decide (65536 < IntKind.i64.wrap (r28 + (IntKind.i64.wrap (r26.1 * (IntKind.i64.wrap (r29 - 1))))))) || (decide (1024 < r26.2)) then some ((⟨0,ByteArray.empty,ByteArray.empty,0,[]⟩ : PTerm),121) else (zdw.f k a0 a1 a2).bind fun r33=>some (r33,0)
end
section
open Gw
def zdz.f (k:Nat) (a0:PTerm) (a1:Int):Option PTerm :=
 (zdr.f k a0).bind fun r5=>some (⟨11,ByteArray.empty,ByteArray.empty,a1,[r5]⟩ : PTerm)
def zdA.f (a0:Tb) (a1:PTerm) (a2:Int) (a3:Int):Option (PTerm × Nd × Bool × Bool) :=
 if decide (a1.kind=a2) then some (a1,Nd.z,false,true) else chk (!(decide (a1.kind=11)) || (inb 0 a1.sub.length)) (chk a0.isSome (chk (!((decide (a1.kind=11)) && (decide ((at_ PTerm.z a1.sub 0).kind=a2))) || (inb a1.form (a0.getD []).length)) (if ((decide (a1.kind=11)) && (decide ((at_ PTerm.z a1.sub 0).kind=a2))) && (decide ((at_ Nd.z (a0.getD []) a1.form).kind=a3)) then chk (inb 0 a1.sub.length) (chk (inb a1.form (a0.getD []).length) (some ((at_ PTerm.z a1.sub 0),at_ Nd.z (a0.getD []) a1.form,true,true))) else some ((⟨0,ByteArray.empty,ByteArray.empty,0,[]⟩ : PTerm),Nd.z,false,false))))
def zdB.f (a0:Int) (a1:Bool) (a2:Bool):Option Int :=
 if !a2 then some 0 else if a1 then some (IntKind.i64.wrap (a0 + 1)) else some a0
def zdC.f (a0:Tb) (a1:PTerm):Option Int :=
 if decide (a1.kind=3) then chk (inb 0 a1.sub.length) ((zdA.f a0 (at_ PTerm.z a1.sub 0) 2 5).bind fun r7=>(zdB.f 1 r7.2.2.1 r7.2.2.2).bind fun r17=>some r17) else (if decide (a1.kind=5) then some (decide (a1.kind=5)) else some (decide (a1.kind=6))).bind fun (o20:Bool)=>if o20 then chk (inb 0 a1.sub.length) ((zdA.f a0 (at_ PTerm.z a1.sub 0) 4 3).bind fun r28=>(zdB.f 3 r28.2.2.1 r28.2.2.2).bind fun r38=>some r38) else if decide (a1.kind=9) then chk (inb 0 a1.sub.length) ((zdA.f a0 (at_ PTerm.z a1.sub 0) 7 4).bind fun r45=>if !r45.2.2.2 then chk (inb 0 a1.sub.length) ((zdA.f a0 (at_ PTerm.z a1.sub 0) 8 4).bind fun r59=>(zdB.f 5 r59.2.2.1 r59.2.2.2).bind fun r63=>some r63) else (zdB.f 5 r45.2.2.1 r45.2.2.2).bind fun r66=>some r66) else if decide (a1.kind=12) then some 7 else if decide (a1.kind=11) then chk (inb 0 a1.sub.length) (if ((((decide ((at_ PTerm.z a1.sub 0).kind=1)) || (decide ((at_ PTerm.z a1.sub 0).kind=3))) || (decide ((at_ PTerm.z a1.sub 0).kind=5))) || (decide ((at_ PTerm.z a1.sub 0).kind=6))) || (decide ((at_ PTerm.z a1.sub 0).kind=11)) then some 8 else some 0) else some 0
def zdD.f (k:Nat) (a0:Tb) (a1:PTerm):Option (PTerm × Int) :=
 (zdC.f a0 a1).bind fun r5=>(if decide (r5=1) then some (decide (r5=1)) else some (decide (r5=2))).bind fun (o8:Bool)=>if o8 then chk (inb 0 a1.sub.length) ((zdA.f a0 (at_ PTerm.z a1.sub 0) 2 5).bind fun r16=>if !r16.2.2.1 then chk (inb 0 r16.1.sub.length) (chk (inb 1 a1.sub.length) ((zdy.f k (at_ PTerm.z r16.1.sub 0) r16.1.name (at_ PTerm.z a1.sub 1)).bind fun r43=>some (r43.1,r43.2))) else chk (inb 0 r16.1.sub.length) (chk (inb 1 a1.sub.length) ((zdz.f k (at_ PTerm.z a1.sub 1) r16.2.1.l).bind fun r61=>(zdy.f k (at_ PTerm.z r16.1.sub 0) r16.1.name r61).bind fun r65=>if decide (r65.2 ≠ 0) then some (r65.1,r65.2) else (zdz.f k r65.1 r16.2.1.r).bind fun r92=>some (r92,0)))) else (if decide (r5=3) then some (decide (r5=3)) else some (decide (r5=4))).bind fun (o97:Bool)=>if o97 then chk (inb 0 a1.sub.length) ((zdA.f a0 (at_ PTerm.z a1.sub 0) 4 3).bind fun r105=>(if decide (a1.kind=6) then some ((1,r105.2.1.r)) else some ((0,r105.2.1.l))).bind fun (o116:Int × Int)=>if r105.2.2.1 then chk (inb o116.1 r105.1.sub.length) ((zdz.f k (at_ PTerm.z r105.1.sub o116.1) o116.2).bind fun r125=>some (r125,0)) else chk (inb o116.1 r105.1.sub.length) ((zdr.f k (at_ PTerm.z r105.1.sub o116.1)).bind fun r133=>some (r133,0))) else (if decide (r5=5) then some (decide (r5=5)) else some (decide (r5=6))).bind fun (o138:Bool)=>if o138 then chk (inb 0 a1.sub.length) ((zdA.f a0 (at_ PTerm.z a1.sub 0) 7 4).bind fun r146=>(if !r146.2.2.2 then chk (inb 0 a1.sub.length) ((zdA.f a0 (at_ PTerm.z a1.sub 0) 8 4).bind fun r163=>some ((r163.2.2.1,2,a1.other,r163.2.1.r,r163.2.1,r163.1))) else some ((r146.2.2.1,1,a1.name,r146.2.1.l,r146.2.1,r146.1))).bind fun (o157:Bool × Int × ByteArray × Int × Nd × PTerm)=>chk (inb 0 o157.2.2.2.2.2.sub.length) (if o157.1 then (zdz.f k (at_ PTerm.z o157.2.2.2.2.2.sub 0) o157.2.2.2.1).bind fun r179=>chk (inb o157.2.1 a1.sub.length) ((zdy.f k (at_ PTerm.z a1.sub o157.2.1) o157.2.2.1 r179).bind fun r194=>some (r194.1,r194.2)) else chk (inb o157.2.1 a1.sub.length) ((zdy.f k (at_ PTerm.z a1.sub o157.2.1) o157.2.2.1 (at_ PTerm.z o157.2.2.2.2.2.sub 0)).bind fun r211=>some (r211.1,r211.2)))) else if decide (r5=7) then chk (inb 1 a1.sub.length) (chk (inb 0 a1.sub.length) ((zdy.f k (at_ PTerm.z a1.sub 1) a1.name (at_ PTerm.z a1.sub 0)).bind fun r235=>some (r235.1,r235.2))) else if decide (r5=8) then chk (inb 0 a1.sub.length) ((zdr.f k (at_ PTerm.z a1.sub 0)).bind fun r246=>some (r246,0)) else some ((⟨0,ByteArray.empty,ByteArray.empty,0,[]⟩ : PTerm),140)
def zdE.b0 (a1:PTerm) (zeC:Tb→PTerm→Option Bool) (a0:Tb) (x6_0:Int):Option (Stp Int Bool) :=
 if decide (x6_0 < (a1.sub.length:Int)) then chk (inb x6_0 a1.sub.length) ((zeC a0 (at_ PTerm.z a1.sub x6_0)).bind fun r11=>if !r11 then some (.ret false) else some (.go (IntKind.i64.wrap (x6_0 + 1)))) else some (.brk x6_0)
def zdE.g (zeC:Tb→PTerm→Option Bool) (k:Nat) (a0:Tb) (a1:PTerm):Option Bool :=
 (if (decide (a1.kind=11)) then zdd.f a0 a1.form else some false).bind fun r3=>if (decide (a1.kind=11)) && (!r3) then some false else (iter (fun s=>zdE.b0 a1 zeC a0 s) k 0).bind (aft fun (s6:Int)=>some true)
def zdE.f:Nat→Tb→PTerm→Option Bool
 | 0=>fun _ _=>none
 | k + 1=>zdE.g (zdE.f k) k
def zdF.f (k:Nat) (a0:Tb) (a1:PTerm):Option Int :=
 (zbW.f k a1).bind fun r3=>(if (decide (r3=0)) then zdE.f k a0 a1 else some false).bind fun r6=>if (decide (r3=0)) && (!r6) then some 31 else some r3
def zdG.b0 (a1:PTerm) (a2:List Int) (zeA:Tb→PTerm→List Int→List (List Int)→Option (List (List Int))) (a0:Tb) (x25_0:List (List Int)) (x25_1:Int):Option (Stp (List (List Int) × Int) (List (List Int))) :=
 if decide (x25_1 < (a1.sub.length:Int)) then chk (inb x25_1 a1.sub.length) (chk (decide (0 ≤ (a2.length:Int)∧(a2.length:Int) ≤ (a2.length:Int))) (chk (decide (((a2.take (Int.toNat (a2.length:Int))).length + ([x25_1]).length) * 8 ≤ 140737488355328)) ((zeA a0 (at_ PTerm.z a1.sub x25_1) ((a2.take (Int.toNat (a2.length:Int))) ++ [x25_1]) x25_0).bind fun r51=>some (.go (r51,IntKind.i64.wrap (x25_1 + 1)))))) else some (.brk (x25_0,x25_1))
def zdG.g (zeA:Tb→PTerm→List Int→List (List Int)→Option (List (List Int))) (k:Nat) (a0:Tb) (a1:PTerm) (a2:List Int) (a3:List (List Int)):Option (List (List Int)) :=
 if decide (1000 ≤ (a3.length:Int)) then some a3 else (zdC.f a0 a1).bind fun r4=>(if decide (r4 ≠ 0) then chk (decide ((([]:List Int).length + a2.length) * 8 ≤ 140737488355328)) (chk (decide ((a3.length + 1) * 24 ≤ 140737488355328)) (some (a3 ++ [([]:List Int) ++ a2]))) else some (a3)).bind fun (o7:List (List Int))=>(iter (fun s=>zdG.b0 a1 a2 zeA a0 s.1 s.2) k (o7,0)).bind (aft fun (s25:List (List Int) × Int)=>some s25.1)
def zdG.f:Nat→Tb→PTerm→List Int→List (List Int)→Option (List (List Int))
 | 0=>fun _ _ _ _=>none
 | k + 1=>zdG.g (zdG.f k) k
def zdH.f (k:Nat) (a0:Tb) (a1:PTerm):Option (List (List Int) × Int) :=
 (zdF.f k a0 a1).bind fun r3=>if decide (r3 ≠ 0) then some (([]:List (List Int)),r3) else (zdG.f k a0 a1 ([]) ([]:List (List Int))).bind fun r7=>some (r7,0)
def zdI.g (zez:Tb→PTerm→List Int→Option (PTerm × Int)) (k:Nat) (a0:Tb) (a1:PTerm) (a2:List Int):Option (PTerm × Int) :=
 if decide ((a2.length:Int)=0) then (zdD.f k a0 a1).bind fun r6=>some (r6.1,r6.2) else chk (inb 0 a2.length) (if (decide (at_ (0:Int) a2 0 < 0)) || (decide ((a1.sub.length:Int) ≤ at_ (0:Int) a2 0)) then some ((⟨0,ByteArray.empty,ByteArray.empty,0,[]⟩ : PTerm),140) else chk (inb (at_ (0:Int) a2 0) a1.sub.length) (chk (decide ((0:Int) ≤ 1∧1 ≤ (a2.length:Int))) ((zez a0 (at_ PTerm.z a1.sub (at_ (0:Int) a2 0)) (a2.drop ((1:Int)).toNat)).bind fun r21=>if decide (r21.2 ≠ 0) then some ((⟨0,ByteArray.empty,ByteArray.empty,0,[]⟩ : PTerm),r21.2) else (zdr.f k a1).bind fun r45=>chk (inb (at_ (0:Int) a2 0) r45.sub.length) (some ((⟨r45.kind,r45.name,r45.other,r45.form,r45.sub.set (Int.toNat (at_ (0:Int) a2 0)) r21.1⟩ : PTerm),0)))))
def zdI.f:Nat→Tb→PTerm→List Int→Option (PTerm × Int)
 | 0=>fun _ _ _=>none
 | k + 1=>zdI.g (zdI.f k) k
def zdJ.f (k:Nat) (a0:Tb) (a1:PTerm) (a2:List Int):Option (PTerm × Int) :=
 (zdF.f k a0 a1).bind fun r5=>if decide (r5 ≠ 0) then some ((⟨0,ByteArray.empty,ByteArray.empty,0,[]⟩ : PTerm),r5) else (zdI.f k a0 a1 a2).bind fun r10=>(if (decide (r10.2=0)) then zbW.f k r10.1 else some 0).bind fun r17=>if (decide (r10.2=0)) && (decide (r17 ≠ 0)) then if decide (121 ≠ 0) then some ((⟨0,ByteArray.empty,ByteArray.empty,0,[]⟩ : PTerm),121) else some (r10.1,0) else if decide (r10.2 ≠ 0) then some ((⟨0,ByteArray.empty,ByteArray.empty,0,[]⟩ : PTerm),r10.2) else some (r10.1,0)
def zdK.b0 (a0:PTerm) (zeB:PTerm→Option PTerm) (x18_0:Int) (x18_1:PTerm):Option (Stp (Int × PTerm) PTerm) :=
 if decide (x18_0 < (a0.sub.length:Int)) then chk (inb x18_0 a0.sub.length) ((zeB (at_ PTerm.z a0.sub x18_0)).bind fun r28=>chk (decide ((x18_1.sub.length + 1) * 72 ≤ 140737488355328)) (some (.go (IntKind.i64.wrap (x18_0 + 1),(⟨x18_1.kind,x18_1.name,x18_1.other,x18_1.form,x18_1.sub ++ [r28]⟩ : PTerm))))) else some (.brk (x18_0,x18_1))
def zdK.g (zeB:PTerm→Option PTerm) (k:Nat) (a0:PTerm):Option PTerm :=
 if decide (a0.kind=11) then chk (inb 0 a0.sub.length) ((zeB (at_ PTerm.z a0.sub 0)).bind fun r9=>some r9) else (iter (fun s=>zdK.b0 a0 zeB s.1 s.2) k (0,(⟨a0.kind,a0.name,a0.other,a0.form,([]:List PTerm)⟩ : PTerm))).bind (aft fun (s18:Int × PTerm)=>some (⟨s18.2.kind,s18.2.name,s18.2.other,s18.2.form,s18.2.sub⟩ : PTerm))
def zdK.f:Nat→PTerm→Option PTerm
 | 0=>fun _=>none
 | k + 1=>zdK.g (zdK.f k) k
def zdL.f (k:Nat) (a0:PTerm):Option (PTerm × Int) :=
 (zbW.f k a0).bind fun r5=>if decide (r5 ≠ 0) then some ((⟨0,ByteArray.empty,ByteArray.empty,0,[]⟩ : PTerm),r5) else (zdK.f k a0).bind fun r10=>some (r10,0)
end
section
open Gw
def zdM.b2 (x37_0:Int) (x39_0:Int) (x39_1:List (List Int)):Option (Stp (Int × List (List Int)) (Stp (Int × List (List Int)) (Stp Unit Bool))) :=
 chk (inb x37_0 x39_1.length) (if decide (x39_0 < ((at_ [] x39_1 x37_0).length:Int)) then chk (inb x37_0 x39_1.length) (chk (inb x39_0 (at_ [] x39_1 x37_0).length) (some (.go (IntKind.i64.wrap (x39_0 + 1),x39_1.set (Int.toNat x37_0) ((at_ [] x39_1 x37_0).set (x39_0).toNat (-7)))))) else some (.brk (x39_0,x39_1)))
def zdM.b1 (k:Nat) (x37_0:Int) (x37_1:List (List Int)):Option (Stp (Int × List (List Int)) (Stp Unit Bool)) :=
 if decide (x37_0 < (x37_1.length:Int)) then (iter (fun s=>zdM.b2 x37_0 s.1 s.2) k (0,x37_1)).bind (aft fun (s39:Int × List (List Int))=>some (.go (IntKind.i64.wrap (x37_0 + 1),s39.2))) else some (.brk (x37_0,x37_1))
def zdM.b0 (k:Nat) (r3:Tb × Tb) (r8:PTerm) (r21:List (List Int) × Int) (i25:Int):Option (Stp Unit Bool) :=
 (zcV.f k r3.1 r8).bind fun r27=>(zdn.f r27.1 r21.1).bind fun r31=>(if (!(!r31)) then zdk.f r27.2 else some 0).bind fun r34=>if (!r31) || (decide (r34 ≠ r21.2)) then some (.ret false) else (iter (fun s=>zdM.b1 k s.1 s.2) k (0,r27.1)).bind (aft fun (s37:Int × List (List Int))=>some (.go ()))
def zdM.f (k:Nat) (a0:List Nd) (a1:PTerm) (a2:List Int):Option Bool :=
 (zdp.f a0).bind fun r3=>(zdr.f k a1).bind fun r8=>chk (decide ((([]:List Int).length + a2.length) * 8 ≤ 140737488355328)) ((zdH.f k r3.2 a1).bind fun r21=>(forN (fun i s=>zdM.b0 k r3 r8 r21 i) ((2:Int) - 0).toNat 0 ()).bind (aft fun (s25:Unit)=>(zcW.f k r3.1 r8).bind fun r55=>(zcS.f k r3.1 r8 (([]:List Int) ++ a2)).bind fun r58=>(zdJ.f k r3.2 a1 a2).bind fun r65=>(zcP.f k r8).bind fun r72=>(zdL.f k a1).bind fun r79=>(if (r55.1 == ((decide (r21.2=0)) && (decide ((r21.1.length:Int)=0)))) then zdk.f r55.2 else some 0).bind fun r86=>(if ((r55.1 == ((decide (r21.2=0)) && (decide ((r21.1.length:Int)=0)))) && (decide (r86=r21.2))) then zdm.f k r58.1 r65.1 else some false).bind fun r88=>(if (((r55.1 == ((decide (r21.2=0)) && (decide ((r21.1.length:Int)=0)))) && (decide (r86=r21.2))) && r88) then zdk.f r58.2 else some 0).bind fun r90=>(if ((((r55.1 == ((decide (r21.2=0)) && (decide ((r21.1.length:Int)=0)))) && (decide (r86=r21.2))) && r88) && (decide (r90=r65.2))) then zdm.f k r72.1 r79.1 else some false).bind fun r92=>(if (((((r55.1 == ((decide (r21.2=0)) && (decide ((r21.1.length:Int)=0)))) && (decide (r86=r21.2))) && r88) && (decide (r90=r65.2))) && r92) then zdk.f r72.2 else some 0).bind fun r94=>(if ((((((r55.1 == ((decide (r21.2=0)) && (decide ((r21.1.length:Int)=0)))) && (decide (r86=r21.2))) && r88) && (decide (r90=r65.2))) && r92) && (decide (r94=r79.2))) then zdm.f k r8 a1 else some false).bind fun r96=>(if (((((((r55.1 == ((decide (r21.2=0)) && (decide ((r21.1.length:Int)=0)))) && (decide (r86=r21.2))) && r88) && (decide (r90=r65.2))) && r92) && (decide (r94=r79.2))) && r96) then zdb.f (([]:List Int) ++ a2) a2 else some false).bind fun r98=>(if ((((((((r55.1 == ((decide (r21.2=0)) && (decide ((r21.1.length:Int)=0)))) && (decide (r86=r21.2))) && r88) && (decide (r90=r65.2))) && r92) && (decide (r94=r79.2))) && r96) && r98) then zdq.f r3.1 r3.2 else some false).bind fun r100=>(if (((((((((r55.1 == ((decide (r21.2=0)) && (decide ((r21.1.length:Int)=0)))) && (decide (r86=r21.2))) && r88) && (decide (r90=r65.2))) && r92) && (decide (r94=r79.2))) && r96) && r98) && r100) then zdo.f k else some false).bind fun r102=>some ((((((((((r55.1 == ((decide (r21.2=0)) && (decide ((r21.1.length:Int)=0)))) && (decide (r86=r21.2))) && r88) && (decide (r90=r65.2))) && r92) && (decide (r94=r79.2))) && r96) && r98) && r100) && r102)))
end
section
open Go.RowKit
namespace Gw
section
variable {P:Program} {rd:Option Nat} {n:Nat} {dm:List Nat} {ops:Array Oper} {Q:Post} {f:Fr} {w:World} {rest:List Oper} {ty:TypeId} {pos:String} {af:Array Edge}
theorem wl_gturn2 {dd:Tmp} {op:Op} {j:Nat} {pol c t:Bool} {v:Value} {oj:Oper} {dj:Tmp} {g:FuncId} {args:Array Value} {R:World→Prop} (hj:ops[j]? = some oj) (hdj:oj.dst=some dj) (ht:f dj=gv c (.bool t)) (hdn:dj < n)
  (he:(c && (t == pol))=true→Enters P ⟨some dd,op,ty,pos,af,some (j,pol)⟩ f w g args) (hd:dd < n)
  (hc:(c && (t == pol))=true→Calls P g args w fun e w' => ∃ v',e = .returned v'∧(v'=v∧R w')) (h0:(c && (t == pol))=false→R w)
  (h : ∀ w',R w'→wl P rd n dm ops rest Q (upd f dd (gv (c && (t == pol)) v)) w'):wl P rd n dm ops (⟨some dd,op,ty,pos,af,some (j,pol)⟩ :: rest) Q f w:=fun a ha=>by
 refine wpListIn_step fun K hK=>?_
 rw [zaj ha rfl hj hdj ht hdn]
 cases hcc:(c && (t == pol)) with
 | true =>
  rw [if_pos rfl]
  refine op_wp ha (he hcc) zbr (show _∧_ from ⟨fun h=>(by cases h),?_⟩)
  refine CallsIn.mono (show CallsIn (fen rd) _ P g args w _ from callsIn_wide.2 (hc hcc)) ?_
  rintro e w' ⟨v',rfl,rfl,hx⟩
  have h2:=h w' hx
  rw [hcc,zn rfl] at h2
  exact hK _ _ (h2 _ (ha.put hd _))
 | false =>
  rw [if_neg zbr]
  have h2:=h w (h0 hcc)
  rw [hcc,gv_f] at h2
  exact ⟨fun _ _=>trivial,hK _ _ (h2 _ (ha.put hd _))⟩
theorem wl_gturn {dd:Tmp} {op:Op} {j:Nat} {pol t:Bool} {v:Value} {oj:Oper} {dj:Tmp} {g:FuncId} {args:Array Value} {R:World→Prop} (hj:ops[j]? = some oj) (hdj:oj.dst=some dj) (ht:f dj = .bool t) (hdn:dj < n)
  (he:(t == pol)=true→Enters P ⟨some dd,op,ty,pos,af,some (j,pol)⟩ f w g args) (hd:dd < n)
  (hc:(t == pol)=true→Calls P g args w fun e w' => ∃ v',e = .returned v'∧(v'=v∧R w')) (h0:(t == pol)=false→R w)
  (h : ∀ w',R w'→wl P rd n dm ops rest Q (upd f dd (gv (t == pol) v)) w'):wl P rd n dm ops (⟨some dd,op,ty,pos,af,some (j,pol)⟩ :: rest) Q f w :=
 wl_gturn2 (c:=true) hj hdj (by rw [ht]; exact gv_t _) hdn he hd hc h0 h
end
end Gw
end
end Go.Proofs.YtmggdbbmmkkplaaGreatDoor
