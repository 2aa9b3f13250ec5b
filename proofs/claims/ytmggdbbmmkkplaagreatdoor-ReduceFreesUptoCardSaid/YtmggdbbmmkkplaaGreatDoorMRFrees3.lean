/- Texts put together. -/
import Derived.Test.YtmggdbbmmkkplaaGreatDoorMRFrees2
import Derived.Shelf.Sort.Plain
import Derived.Shelf.Slices.In.SortNone
import Derived.Test.YtmggdbbmmkkplaaGreatDoorProg
import Derived.Sort.OwnSorted
import Derived.Sort.KeysCollected
set_option linter.unusedVariables false
set_option linter.unusedSimpArgs false
namespace Go.Proofs.YtmggdbbmmkkplaaGreatDoor
section
open Gw Go.RowKit
set_option maxHeartbeats 4000000
set_option maxRecDepth 20000
variable {A:Nat→Prop} {N:Oth} {w:World}
theorem k0 {a0:PTerm} {s_0:SlV} {a1:Int} (S:St A N w w [] [ze s_0 a0.sub]) {r:ByteArray} (H:zbl.f a0 a1=some r) :
  Calls PP F_term_binds #[.agg (tmC a0 s_0).toArray,.int .i64 a1] w <| Rt fun v w'=>(v = .string r∧St A N w w' [] []):=by
 unfold zbl.f at H
 refine zu (n:=35) Tryz.func84 rfl rfl zao (zb (za ?_))
 refine zH rfl zam fun b2 w1 hw1=>?_
 replace S:=S.new hw1
 refine wd (vI rfl) (zd (zb ?_))
 refine zL (zb (za (wd (zg xh rfl (o':=0) rfl) (wd (zl zU rfl ((S.blk 0).cell (Term.get_kind _))) (wd (zR rfl rfl) (wd (zy rfl) ?_))))))
 refine wg (fun hg=>zk rfl) ?_
 refine wg (fun hg=>zR (zn hg) rfl) ?_
 refine wg (fun hg=>zy (zn hg)) (xj (j:=6) (pol:=true) rfl rfl rfl zam (fun hg=>zg xh rfl (o':=0) rfl) zam (xj (j:=6) (pol:=true) rfl rfl rfl zam (fun hg=>zl zU (zn hg) ((S.blk 0).cell (Term.get_kind _))) zam (xj (j:=6) (pol:=true) rfl rfl rfl zam (fun hg=>zR (zn hg) rfl) zam (xj (j:=6) (pol:=true) rfl rfl rfl zam (fun hg=>zy (zn hg)) zam (xj (j:=10) (pol:=false) rfl rfl rfl zam (fun hg=>zg xh rfl (o':=0) rfl) zam ?_)))))
 refine xj (j:=10) (pol:=false) rfl rfl rfl zam (fun hg=>zl zU (zn hg) ((S.blk 0).cell (Term.get_kind _))) zam (xj (j:=10) (pol:=false) rfl rfl rfl zam (fun hg=>zR (zn hg) rfl) zam (xj (j:=6) (pol:=true) rfl rfl rfl zam (fun hg=>xv (zn hg) (fun hp=>(zn (and_b hg hp)))) zam ?_))
 refine wg (fun hg=>zV (zn hg) (fun hp=>(zn (and_b hg hp)))) (wd (xv rfl (fun hp=>(zn (xl hp)))) (wd (zi rfl) (zd ?_)))
 refine zI rfl (fun hc3=>?_) (fun hc3=>?_)
 ·replace H:=if_t hc3 H
  refine zb (za (wd (zg xW rfl (o':=1) rfl) (wd (zl xt rfl ((S.blk 0).cell (Term.get_name _))) (wd (vI rfl) (zd (zr ?_))))))
  refine ⟨_,(zP (zf rfl)),?_⟩
  replace S:=S.arr [] []
  obtain rfl:=zaq H
  exact ⟨rfl,S⟩
 replace H:=if_f hc3 H
 refine zb (za (wd (zg xh rfl (o':=0) rfl) (wd (zl zU rfl ((S.blk 0).cell (Term.get_kind _))) (wd (zR rfl rfl) (wd (zy rfl) ?_)))))
 refine wg (fun hg=>zk rfl) ?_
 refine wg (fun hg=>zR (zn hg) rfl) (wd (zV rfl (fun hp=>(zn (xl hp)))) (wd (zi rfl) (zd ?_)))
 refine zI rfl (fun hc4=>?_) (fun hc4=>?_)
 ·replace H:=if_t hc4 H
  refine zb (za (wd (zg vX rfl (o':=2) rfl) (wd (zl xt rfl ((S.blk 0).cell (Term.get_other _))) (wd (vI rfl) (zd (zr ?_))))))
  refine ⟨_,(zP (zf rfl)),?_⟩
  replace S:=S.arr [] []
  obtain rfl:=zaq H
  exact ⟨rfl,S⟩
 replace H:=if_f hc4 H
 refine zw (zb (za (wd (vI rfl) (zd (zr ?_)))))
 refine ⟨_,(zP (zf rfl)),?_⟩
 replace S:=S.arr [] []
 obtain rfl:=zaq H
 exact ⟨rfl,S⟩
theorem term_grown_gst {zcD:PTerm→ByteArray→Int→Int→Option (Int × Int)} (zcp : ∀ {A:Nat→Prop} {N:Oth} {w:World} {a0:PTerm} {s_0:SlV} {a1:ByteArray} {a2:Int} {a3:Int} (S:St A N w w [] [ze s_0 a0.sub]) {r:Int × Int} (H:zcD a0 a1 a2 a3=some r),Calls PP jb #[.agg (tmC a0 s_0).toArray,.string a1,.int .i64 a2,.int .i64 a3] w <| Rt fun v w'=>(v = .tuple #[.int .i64 r.1,.int .i64 r.2]∧St A N w w' [] [])) {A:Nat→Prop} {N:Oth} {w:World} {a0:PTerm} {s_0:SlV} {a1:ByteArray} {a2:Int} {a3:Int} (S:St A N w w [] [ze s_0 a0.sub]) {k:Nat} {r:Int × Int} (H:zbm.g zcD k a0 a1 a2 a3=some r) :
  Calls PP jb #[.agg (tmC a0 s_0).toArray,.string a1,.int .i64 a2,.int .i64 a3] w <| Rt fun v w'=>(v = .tuple #[.int .i64 r.1,.int .i64 r.2]∧St A N w w' [] []):=by
 unfold zbm.g at H
 refine zu (n:=60) Tryz.func164 rfl rfl zao (zb (za ?_))
 refine zH rfl zam fun b2 w1 hw1=>?_
 replace S:=S.new hw1
 refine wd (zh rfl) (wd (zh rfl) (zd (zb (zb (za (wd (zg xh rfl (o':=0) rfl) (wd (zl zU rfl ((S.blk 0).cell (Term.get_kind _))) ?_)))))))
 refine wd (zR rfl rfl) (zd ?_)
 refine zI rfl (fun hc3=>?_) (fun hc3=>?_)
 ·replace H:=if_t hc3 H
  refine zb (zb (za (wd (zg xW rfl (o':=1) rfl) (wd (zl xt rfl ((S.blk 0).cell (Term.get_name _))) (wd (zW rfl) (wd (yo rfl rfl) (zd ?_)))))))
  refine zI rfl (fun hc4=>?_) (fun hc4=>?_)
  ·replace H:=if_t hc4 H
   refine zb (za (wd (zk rfl) (wd (zk rfl) (wd (zh rfl) (wd (zh rfl) (zd (zr ?_)))))))
   refine ⟨_,(xm (zf rfl) (zf rfl)),?_⟩
   replace S:=S.arr [] []
   obtain rfl:=zaq H
   exact ⟨rfl,S⟩
  replace H:=if_f hc4 H
  refine zw (zb (za (wd (zh rfl) (wd (zh rfl) (zd (zr ?_))))))
  refine ⟨_,(xm (zf rfl) (zf rfl)),?_⟩
  replace S:=S.arr [] []
  obtain rfl:=zaq H
  exact ⟨rfl,S⟩
 replace H:=if_f hc3 H
 refine zw (zb (za (wd (zh rfl) (wd (zh rfl) (zd (zb (zb (za ?_))))))))
 refine wd (zg zD rfl (o':=4) rfl) (wd (zl zz rfl ((S.blk 0).cell (Term.get_sub _))) (wd (does_lenF zq rfl (S.onZ 0)) (wd (zk rfl) (zd ?_))))
 obtain ⟨o5,e5,Ho5⟩ := zp H
 clear H
 refine xL ([10,11,12,13,14,15] ++ rg 28 29) (fun fr W=>fr 10 = .int .i64 o5.1∧fr 11 = .int .i64 o5.2∧St A N w W [oB b2 zm (tmC a0 s_0)] [ze s_0 a0.sub]) ?_ ?_
 ·refine zL ?_
  refine xI (α:=Nat × Int × (Int × Int)) ([10,11,12,13,14,15] ++ rg 28 29) (fun x fr W=>(x.1:Int)=(a0.sub.length:Int) - x.2.1∧0 ≤ x.2.1∧forS (fun i s=>zbm.b0 a0 k a1 zcD a2 a3 i s.1 s.2) x.1 x.2.1 x.2.2=some o5∧fr 28 = .int .i64 x.2.1∧fr 10 = .int .i64 (x.2.2.1)∧fr 11 = .int .i64 (x.2.2.2)∧St A N w W [oB b2 zm (tmC a0 s_0)] [ze s_0 a0.sub]) (fun x=>x.1) (((a0.sub.length:Int) - 0).toNat,0,(1,0)) ⟨(by dsimp only; have hle:=Int.natCast_nonneg (a0.sub.length); omega),(Int.le_refl _),(by dsimp only; exact e5),rfl,rfl,rfl,S⟩ ?_
  rintro ⟨m5,i5,⟨x5_0,x5_1⟩⟩ g5 u5 ⟨hm5,hl5,e5,q5_i,q5_10,q5_11,S⟩
  try dsimp only at hm5
  try dsimp only at hl5
  try dsimp only at e5
  try dsimp only at S
  try dsimp only at q5_i
  try dsimp only at q5_10
  try dsimp only at q5_11
  refine zb (za (wd (xp q5_i rfl) (zd (zb ?_))))
  refine zI rfl (fun hc6=>?_) (fun hc6=>?_)
  rotate_left
  ·refine xO ?_
   have hge:(a0.sub.length:Int) ≤ i5:=Int.not_lt.1 (of_decide_eq_false hc6)
   obtain rfl:m5=0:=by omega
   replace e5:=forS_0 e5
   obtain rfl:=e5
   exact ⟨rfl,df,q5_10,q5_11,S⟩
  refine zw ?_
  have hlt5:i5 < (a0.sub.length:Int):=of_decide_eq_true hc6
  obtain ⟨m5,rfl⟩ : ∃ m,m5=m + 1:=⟨m5 - 1,by omega⟩
  obtain ⟨q5,H,e5⟩ := forS_s e5
  unfold zbm.b0 at H
  try dsimp only at H
  have hb5:=(S.lenFZ 0)
  refine zb ?_
  refine zL (zb (za (wd (zk q5_i) (wd (does_indexF zq rfl q5_i (S.onZ 0) (And.intro (show 0 ≤ i5 by omega) (show i5 < (a0.sub.length:Int) from hlt5)).1 (And.intro (show 0 ≤ i5 by omega) (show i5 < (a0.sub.length:Int) from hlt5)).2) ?_))))
  obtain ⟨s8,hc9,S⟩ := S.viewTerm 0 (And.intro (show 0 ≤ i5 by omega) (show i5 < (a0.sub.length:Int) from hlt5))
  replace S:=S
  refine wd (ldC rfl hc9) ?_
  refine zQ xn zam fun b11 w10 hw10=>?_
  replace S:=S.new hw10
  refine wd (zh rfl) ?_
  refine wsT rfl rfl (S.blk 0) fun w12 B hw12 zw12=>?_
  replace S:=S.store 0 B hw12
  refine zd (zb ?_)
  refine x0 3 (Ext w12) hmix zap zap (Ext.drawn _) (zC (fun v K=>zt z1 rfl (((S.ext K).blk 0).all _ (Term.len _)) (Term.len _)) ?_)
  obtain ⟨r13,er13,H⟩ := zp H
  refine wq_call (fun v=>zx ca_term_Size) (fun v K=>(have ⟨M,SS⟩ := (S.ext K).lend ((.z 0 rfl .nil)); quiet (term_Size_st (a0:=(kd a0 i5)) SS er13) (fun v w' h=>⟨h.1,_,_,h.2⟩))) (fun v v' K h=>K.thenExt h) (zC (fun v K=>zt z1 rfl (((S.ext K).blk 0).all _ (Term.len _)) (Term.len _)) ?_)
  refine vj fun w14 K=>?_
  replace S:=S.ext K
  clear K
  obtain ⟨r15,er15,H⟩ := zp H
  obtain ⟨_,_,T,bk⟩ := S.calln 0 ((.z 0 rfl .nil))
  refine zA (zx ca_term_Deep) zam (term_Deep_st (a0:=(kd a0 i5)) T er15) ?_
  rintro _ w16 ⟨rfl,S2⟩
  replace S:=bk _ _ _ _ S2 rfl
  refine wd (zh rfl) (wd (zh rfl) (zd (zb (zb (za (wd (ldT rfl (S.blk 1)) (wd (zk rfl) ?_)))))))
  obtain ⟨r18,er18,H⟩ := zp H
  obtain ⟨_,_,T,bk⟩ := S.calln 0 ((.z 1 rfl .nil))
  refine zA (zx kT) zam (k0 (a0:=a0) T er18) ?_
  rintro _ w19 ⟨rfl,S2⟩
  replace S:=bk _ _ _ _ S2 rfl
  refine wd (zW rfl) (wd (um rfl rfl) (zd ?_))
  refine zI rfl (fun hc21=>?_) (fun hc21=>?_)
  ·replace H:=if_t hc21 H
   refine za (wd (ldT rfl (S.blk 0)) (wd (zW rfl) (wd (zk rfl) (wd (zk rfl) ?_))))
   obtain ⟨r22,er22,H⟩ := zp H
   obtain ⟨_,_,T,bk⟩ := S.calln 0 ((.z 0 rfl .nil))
   refine zA (zx ca_term_grown) zam (zcp (a0:=(kd a0 i5)) T er22) ?_
   rintro _ w23 ⟨rfl,S2⟩
   replace S:=bk _ _ _ _ S2 rfl
   refine wd (xb rfl) (wd (zo rfl rfl) (wd (zo rfl rfl) (wd (zh rfl) (wd (zh rfl) (zd (za ?_))))))
   refine wd (zk q5_10) (wd (zk rfl) (wd (vT rfl rfl) (wd (zk q5_11) (wd (zk rfl) (wd (does_max rfl rfl) ?_)))))
   refine wd (zh rfl) (wd (zh rfl) (zd (za (wd (xi q5_i rfl (c:=i5 + 1) rfl zan zan) (wd (zk rfl) (zd ?_))))))
   replace S:=S.arr [1] [1]
   obtain rfl:=zaq H
   exact ⟨rfl,df,(m5,i5 + 1,(IntKind.i64.wrap (x5_0 + r22.1),(if x5_1 < r22.2 then r22.2 else x5_1))),⟨(by dsimp only; omega),(by dsimp only; omega),e5,rfl,rfl,rfl,S⟩,by dsimp only; omega⟩
  ·replace H:=if_f hc21 H
   refine zw (za (wd (zk q5_10) (wd (zk rfl) (wd (vT rfl rfl) (wd (zk q5_11) ?_)))))
   refine wd (zk rfl) (wd (does_max rfl rfl) (wd (zh rfl) (wd (zh rfl) (zd (za ?_)))))
   refine wd (xi q5_i rfl (c:=i5 + 1) rfl zan zan) (wd (zk rfl) (zd ?_))
   replace S:=S.arr [1] [1]
   obtain rfl:=zaq H
   exact ⟨rfl,df,(m5,i5 + 1,(IntKind.i64.wrap (x5_0 + r13),(if x5_1 < r15 then r15 else x5_1))),⟨(by dsimp only; omega),(by dsimp only; omega),e5,rfl,rfl,rfl,S⟩,by dsimp only; omega⟩
 rintro g25 u26 ⟨p5_10,p5_11,S⟩
 have H:=Ho5
 refine zb (za (wd (zk p5_10) (wd (zk p5_11) (wd (vT rfl rfl) (wd (zh rfl) (wd (zh rfl) (zd (zr ?_))))))))
 refine ⟨_,(xm (zf rfl) (zf rfl)),?_⟩
 replace S:=S.arr [] []
 obtain rfl:=zaq H
 exact ⟨rfl,S⟩
theorem term_grown_st {a0:PTerm} {s_0:SlV} {a1:ByteArray} {a2:Int} {a3:Int} (S:St A N w w [] [ze s_0 a0.sub]) {k:Nat} {r:Int × Int} (H:zbm.f k a0 a1 a2 a3=some r) :
  Calls PP jb #[.agg (tmC a0 s_0).toArray,.string a1,.int .i64 a2,.int .i64 a3] w <| Rt fun v w'=>(v = .tuple #[.int .i64 r.1,.int .i64 r.2]∧St A N w w' [] []):=by
 have main : ∀ (k:Nat) {A:Nat→Prop} {N:Oth} {w:World} {a0:PTerm} {s_0:SlV} {a1:ByteArray} {a2:Int} {a3:Int} (S:St A N w w [] [ze s_0 a0.sub]) {r:Int × Int} (H:zbm.f k a0 a1 a2 a3=some r),Calls PP jb #[.agg (tmC a0 s_0).toArray,.string a1,.int .i64 a2,.int .i64 a3] w <| Rt fun v w'=>(v = .tuple #[.int .i64 r.1,.int .i64 r.2]∧St A N w w' [] []):=by
  intro k
  induction k with
  | zero=>intro A N w a0 s_0 a1 a2 a3 S r H; cases H
  | succ k ih=>intro A N w a0 s_0 a1 a2 a3 S r H; exact term_grown_gst ih S H
 exact main k S H
theorem term_names_gst {zcE:PTerm→(List (ByteArray × Int))→(List (ByteArray × Int))→Option ((List (ByteArray × Int)) × (List (ByteArray × Int)))} (zcq : ∀ {A:Nat→Prop} {N:Oth} {w:World} {a0:PTerm} {s_0:SlV} {a1:List (ByteArray × Int)} {m_1:Nat} {a2:List (ByteArray × Int)} {m_2:Nat} (S:St A N w w [oMS m_1 a1,oMS m_2 a2] [ze s_0 a0.sub]) {r:(List (ByteArray × Int)) × (List (ByteArray × Int))} (H:zcE a0 a1 a2=some r),Calls PP jc #[.agg (tmC a0 s_0).toArray,.map (some m_1),.map (some m_2)] w <| Rt fun v w'=>(v = .tuple #[]∧St A N w w' [oMS m_1 r.1,oMS m_2 r.2] [])) {A:Nat→Prop} {N:Oth} {w:World} {a0:PTerm} {s_0:SlV} {a1:List (ByteArray × Int)} {m_1:Nat} {a2:List (ByteArray × Int)} {m_2:Nat} (S:St A N w w [oMS m_1 a1,oMS m_2 a2] [ze s_0 a0.sub]) {r:(List (ByteArray × Int)) × (List (ByteArray × Int))} (H:zbn.g zcE a0 a1 a2=some r) :
  Calls PP jc #[.agg (tmC a0 s_0).toArray,.map (some m_1),.map (some m_2)] w <| Rt fun v w'=>(v = .tuple #[]∧St A N w w' [oMS m_1 r.1,oMS m_2 r.2] []):=by
 unfold zbn.g at H
 refine zu (n:=46) Tryz.func87 rfl rfl zao (zb (za ?_))
 refine zH rfl zam fun b2 w1 hw1=>?_
 replace S:=S.new hw1
 refine zd (zb (zb (za (wd (zg xh rfl (o':=0) rfl) (wd (zl zU rfl ((S.blk 0).cell (Term.get_kind _))) (wd (zR rfl rfl) (zd ?_)))))))
 refine zI rfl (fun hc3=>?_) (fun hc3=>?_)
 ·replace H:=if_t hc3 H
  refine zb (zb (za (wd (yj rfl) (wd (zg xW rfl (o':=1) rfl) (wd (zl xt rfl ((S.blk 0).cell (Term.get_name _))) (wd (vp (C:=Value.string) (D:=(Value.int .i64)) (key:=a0.name) (zv:=0) xF yQ zv_int rfl rfl (S.map 1)) (wd (zR rfl rfl) (zd ?_))))))))
  obtain ⟨o4,e4,Ho4⟩ := zp H
  replace H:=e4; clear e4
  refine xL [17,18,19,20,21] (fun fr W=>St A N w W [oB b2 zm (tmC a0 s_0),oMS m_1 a1,oMS m_2 o4] [ze s_0 a0.sub]) ?_ ?_
  ·refine zI rfl (fun hc5=>?_) (fun hc5=>?_)
   ·replace H:=if_t hc5 H
    refine za (wd (yj rfl) (wd (zg xW rfl (o':=1) rfl) (wd (zl xt rfl ((S.blk 0).cell (Term.get_name _))) (wd (vp (C:=Value.string) (D:=(Value.int .i64)) (key:=a0.name) (zv:=0) xF yQ zv_int rfl rfl (S.map 2)) (wd (vT rfl rfl) ?_)))))
    refine js (C:=Value.string) (D:=(Value.int .i64)) (key:=a0.name) (v:=IntKind.i64.wrap (((Gw.look a0.name a2).getD 0) + 1)) xF yQ rfl rfl rfl (S.map 2) fun w6 hmw6 hcw6 hsw6=>?_
    replace S:=S.mapSet 2 ⟨hmw6,hcw6,hsw6⟩
    refine zd ?_
    replace S:=S.arr [1,2,0] [0]
    obtain rfl:=zaq H
    exact ⟨rfl,df,S⟩
   ·replace H:=if_f hc5 H
    refine zw ?_
    obtain rfl:=zaq H
    exact ⟨rfl,df,S⟩
  rintro g7 u8 S
  have H:=Ho4
  refine zr ?_
  refine ⟨_,rets0,?_⟩
  replace S:=S.arr [1,2] []
  obtain rfl:=zaq H
  exact ⟨rfl,S⟩
 replace H:=if_f hc3 H
 refine zw (zb (za (wd (zg zD rfl (o':=4) rfl) (wd (zl zz rfl ((S.blk 0).cell (Term.get_sub _))) (wd (does_lenF zq rfl (S.onZ 0)) (wd (zk rfl) (zd ?_)))))))
 obtain ⟨o9,e9,Ho9⟩ := zp H
 clear H
 refine xL ([6,7,8] ++ rg 25 21) (fun fr W=>St A N w W [oB b2 zm (tmC a0 s_0),oMS m_1 o9.1,oMS m_2 o9.2] [ze s_0 a0.sub]) ?_ ?_
 ·refine zL ?_
  refine xI (α:=Nat × Int × ((List (ByteArray × Int)) × (List (ByteArray × Int)))) ([6,7,8] ++ rg 25 21) (fun x fr W=>(x.1:Int)=(a0.sub.length:Int) - x.2.1∧0 ≤ x.2.1∧forS (fun i s=>zbn.b0 a0 zcE i s.1 s.2) x.1 x.2.1 x.2.2=some o9∧fr 25 = .int .i64 x.2.1∧St A N w W [oB b2 zm (tmC a0 s_0),oMS m_1 (x.2.2.1),oMS m_2 (x.2.2.2)] [ze s_0 a0.sub]) (fun x=>x.1) (((a0.sub.length:Int) - 0).toNat,0,(a1,a2)) ⟨(by dsimp only; have hle:=Int.natCast_nonneg (a0.sub.length); omega),(Int.le_refl _),(by dsimp only; exact e9),rfl,S⟩ ?_
  rintro ⟨m9,i9,⟨x9_0,x9_1⟩⟩ g9 u9 ⟨hm9,hl9,e9,q9_i,S⟩
  try dsimp only at hm9
  try dsimp only at hl9
  try dsimp only at e9
  try dsimp only at S
  try dsimp only at q9_i
  refine zb (za (wd (xp q9_i rfl) (zd (zb ?_))))
  refine zI rfl (fun hc10=>?_) (fun hc10=>?_)
  rotate_left
  ·refine xO ?_
   have hge:(a0.sub.length:Int) ≤ i9:=Int.not_lt.1 (of_decide_eq_false hc10)
   obtain rfl:m9=0:=by omega
   replace e9:=forS_0 e9
   obtain rfl:=e9
   exact ⟨rfl,df,S⟩
  refine zw ?_
  have hlt9:i9 < (a0.sub.length:Int):=of_decide_eq_true hc10
  obtain ⟨m9,rfl⟩ : ∃ m,m9=m + 1:=⟨m9 - 1,by omega⟩
  obtain ⟨q9,H,e9⟩ := forS_s e9
  unfold zbn.b0 at H
  try dsimp only at H
  have hb9:=(S.lenFZ 0)
  refine zb ?_
  refine zL (zb (za (wd (zk q9_i) (wd (does_indexF zq rfl q9_i (S.onZ 0) (And.intro (show 0 ≤ i9 by omega) (show i9 < (a0.sub.length:Int) from hlt9)).1 (And.intro (show 0 ≤ i9 by omega) (show i9 < (a0.sub.length:Int) from hlt9)).2) ?_))))
  obtain ⟨s12,hc13,S⟩ := S.viewTerm 0 (And.intro (show 0 ≤ i9 by omega) (show i9 < (a0.sub.length:Int) from hlt9))
  replace S:=S
  refine wd (ldC rfl hc13) ?_
  refine zQ xn zam fun b15 w14 hw14=>?_
  replace S:=S.new hw14
  refine wd (zh rfl) ?_
  refine wsT rfl rfl (S.blk 0) fun w16 B hw16 zw16=>?_
  replace S:=S.store 0 B hw16
  refine zd (zb (za (wd (ldT rfl (S.blk 1)) (wd (zk rfl) ?_))))
  obtain ⟨r17,er17,H⟩ := zp H
  obtain ⟨_,_,T,bk⟩ := S.calln 0 ((.z 1 rfl .nil))
  refine zA (zx kT) zam (k0 (a0:=a0) T er17) ?_
  rintro _ w18 ⟨rfl,S2⟩
  replace S:=bk _ _ _ _ S2 rfl
  refine wd (vI rfl) (zd (zb (za (wd (yj rfl) (wd (zW rfl) (wd (vp (C:=Value.string) (D:=(Value.int .i64)) (key:=r17) (zv:=0) xF yQ zv_int rfl rfl (S.map 2)) ?_))))))
  refine wd (vT rfl rfl) ?_
  refine js (C:=Value.string) (D:=(Value.int .i64)) (key:=r17) (v:=IntKind.i64.wrap (((Gw.look r17 x9_0).getD 0) + 1)) xF yQ rfl rfl rfl (S.map 2) fun w20 hmw20 hcw20 hsw20=>?_
  replace S:=S.mapSet 2 ⟨hmw20,hcw20,hsw20⟩
  refine zd (zb (za (wd (ldT rfl (S.blk 1)) (wd (yj rfl) (wd (yj rfl) ?_)))))
  obtain ⟨r21,er21,H⟩ := zp H
  replace S:=(S.front 3).front 1
  obtain ⟨_,_,T,bk⟩ := S.calln 2 ((.z 0 rfl .nil))
  refine zA (zx ca_term_names) zam (zcq (a0:=(kd a0 i9)) T er21) ?_
  rintro _ w22 ⟨rfl,S2⟩
  replace S:=bk _ _ _ _ S2 rfl
  refine zd (za (wd (yj rfl) (wd (zW rfl) (wd (vp (C:=Value.string) (D:=(Value.int .i64)) (key:=r17) (zv:=0) xF yQ zv_int rfl rfl (S.map 0)) (wd (does_sub rfl rfl) ?_)))))
  refine js (C:=Value.string) (D:=(Value.int .i64)) (key:=r17) (v:=IntKind.i64.wrap (((Gw.look r17 r21.1).getD 0) - 1)) xF yQ rfl rfl rfl (S.map 0) fun w24 hmw24 hcw24 hsw24=>?_
  replace S:=S.mapSet 0 ⟨hmw24,hcw24,hsw24⟩
  refine zd (za (wd (xi q9_i rfl (c:=i9 + 1) rfl zan zan) (wd (zk rfl) (zd ?_))))
  replace S:=S.arr [3,0,1] [1]
  obtain rfl:=zaq H
  exact ⟨rfl,df,(m9,i9 + 1,(Gw.ins r17 (IntKind.i64.wrap (((Gw.look r17 r21.1).getD 0) - 1)) r21.1,r21.2)),⟨(by dsimp only; omega),(by dsimp only; omega),e9,rfl,S⟩,by dsimp only; omega⟩
 rintro g25 u26 S
 have H:=Ho9
 refine ⟨_,rets0,?_⟩
 replace S:=S.arr [1,2] []
 obtain rfl:=zaq H
 exact ⟨rfl,S⟩
theorem term_names_st {a0:PTerm} {s_0:SlV} {a1:List (ByteArray × Int)} {m_1:Nat} {a2:List (ByteArray × Int)} {m_2:Nat} (S:St A N w w [oMS m_1 a1,oMS m_2 a2] [ze s_0 a0.sub]) {k:Nat} {r:(List (ByteArray × Int)) × (List (ByteArray × Int))} (H:zbn.f k a0 a1 a2=some r) :
  Calls PP jc #[.agg (tmC a0 s_0).toArray,.map (some m_1),.map (some m_2)] w <| Rt fun v w'=>(v = .tuple #[]∧St A N w w' [oMS m_1 r.1,oMS m_2 r.2] []):=by
 have main : ∀ (k:Nat) {A:Nat→Prop} {N:Oth} {w:World} {a0:PTerm} {s_0:SlV} {a1:List (ByteArray × Int)} {m_1:Nat} {a2:List (ByteArray × Int)} {m_2:Nat} (S:St A N w w [oMS m_1 a1,oMS m_2 a2] [ze s_0 a0.sub]) {r:(List (ByteArray × Int)) × (List (ByteArray × Int))} (H:zbn.f k a0 a1 a2=some r),Calls PP jc #[.agg (tmC a0 s_0).toArray,.map (some m_1),.map (some m_2)] w <| Rt fun v w'=>(v = .tuple #[]∧St A N w w' [oMS m_1 r.1,oMS m_2 r.2] []):=by
  intro k
  induction k with
  | zero=>intro A N w a0 s_0 a1 m_1 a2 m_2 S r H; cases H
  | succ k ih=>intro A N w a0 s_0 a1 m_1 a2 m_2 S r H; exact term_names_gst ih S H
 exact main k S H
theorem kG {a0:PTerm} {s_0:SlV} (S:St A N w w [] [ze s_0 a0.sub]) {k:Nat} {r:(List (ByteArray × Int))} (H:zbo.f k a0=some r) :
  Calls PP F_term_freely #[.agg (tmC a0 s_0).toArray] w <| Rt fun v w'=>(∃ mo0:Nat,v = .map (some mo0)∧St A N w w' [oMS mo0 r] []):=by
 unfold zbo.f at H
 refine zu (n:=10) Tryz.func58 rfl rfl zao (zb (za ?_))
 refine zH rfl zam fun b2 w1 hw1=>?_
 replace S:=S.new hw1
 refine wd (does_as_m rfl) (zd (zb (za ?_)))
 refine wl_makeMap (C:=Value.string) (D:=(Value.int .i64)) zam fun m3 w4 hmw4 hxw4 hlw4=>?_
 replace S:=S.newM hmw4 hxw4 hlw4
 refine wd (does_as_m rfl) (zd (zb (za (wd (ldT rfl (S.blk 1)) ?_))))
 refine wl_makeMap (C:=Value.string) (D:=(Value.int .i64)) zam fun m5 w6 hmw6 hxw6 hlw6=>?_
 replace S:=S.newM hmw6 hxw6 hlw6
 refine wd (yj rfl) ?_
 obtain ⟨r7,er7,H⟩ := zp H
 replace S:=(S.front 1).front 1
 obtain ⟨_,_,T,bk⟩ := S.calln 2 ((.z 0 rfl .nil))
 refine zA (zx ca_term_names) zam (term_names_st (a0:=a0) T er7) ?_
 rintro _ w8 ⟨rfl,S2⟩
 replace S:=bk _ _ _ _ S2 rfl
 refine zd (zb (za (wd (yj rfl) (wd (does_as_m rfl) (zd (zr ?_))))))
 refine ⟨_,(zP (zf rfl)),?_⟩
 replace S:=S.arr [1] []
 obtain rfl:=zaq H
 exact ⟨m3,rfl,S⟩
theorem term_clone_gst {zcB:PTerm→Option PTerm} (zcn : ∀ {A:Nat→Prop} {N:Oth} {w:World} {a0:PTerm} {s_0:SlV} (S:St A N w w [] [ze s_0 a0.sub]) {r:PTerm} (H:zcB a0=some r),Calls PP ja #[.agg (tmC a0 s_0).toArray] w <| Rt fun v w'=>(∃ so0:SlV,v = .agg (tmC r so0).toArray∧St A N w w' [] [ze so0 r.sub])) {A:Nat→Prop} {N:Oth} {w:World} {a0:PTerm} {s_0:SlV} (S:St A N w w [] [ze s_0 a0.sub]) {r:PTerm} (H:zbp.g zcB a0=some r) :
  Calls PP ja #[.agg (tmC a0 s_0).toArray] w <| Rt fun v w'=>(∃ so0:SlV,v = .agg (tmC r so0).toArray∧St A N w w' [] [ze so0 r.sub]):=by
 unfold zbp.g at H
 refine zu (n:=31) Tryz.func180 rfl rfl zao (zb (za ?_))
 refine zH rfl zam fun b2 w1 hw1=>?_
 replace S:=S.new hw1
 refine zQ xn zam fun b4 w3 hw3=>?_
 replace S:=S.new hw3
 refine zd (zb (zb (za (wd (zg zD rfl (o':=4) rfl) (wd (zl zz rfl ((S.blk 1).cell (Term.get_sub _))) (wd (does_isnil zq rfl rfl) (zd ?_)))))))
 refine zI rfl (fun hc5=>?_) (fun hc5=>?_)
 ·replace H:=term_clone_nil (S.nilZ_ 0 hc5) (show zbp.g zcB a0=some r from H)
  refine zb (za (wd (ldT rfl (S.blk 1)) ?_))
  refine wsT rfl rfl (S.blk 0) fun w6 B hw6 zw6=>?_
  replace S:=S.store 0 B hw6
  refine zd (zr ?_)
  refine ⟨_,(zP (rtT rfl (S.blk 0))),?_⟩
  replace S:=S.arr [] [0]
  obtain rfl:=zaq H
  exact ⟨s_0,rfl,S⟩
 refine zw (zb (za (wd (zg zD rfl (o':=4) rfl) (wd (zl zz rfl ((S.blk 1).cell (Term.get_sub _))) (wd (does_lenF zq rfl (S.onZ 0)) ?_)))))
 obtain ⟨hm10,H⟩ := zX H
 have hm10:=of_decide_eq_true hm10
 refine wl_makeN (C:=Term.C) (z:=Term.z) zq uu zT_Term rfl rfl rfl hm10.1 zan hm10.2 zam fun b8 w7 s9 hBw7 hw7=>?_
 replace S:=(S.lit hBw7 hw7 (by rw [List.length_replicate]; omega)).repTm (Int.toNat (a0.sub.length:Int))
 refine wd (yM rfl) (zd (zb (zb (za (wd (zg zD rfl (o':=4) rfl) (wd (zl zz rfl ((S.blk 2).cell (Term.get_sub _))) (wd (does_lenF zq rfl (S.onZ 1)) ?_)))))))
 refine wd (zk rfl) (zd ?_)
 replace S:=(S.nil zm 5 Term.C).bigTm
 obtain ⟨o11,e11,Ho11⟩ := zp H
 clear H
 refine xL ([4,5] ++ rg 17 11) (fun fr W => ∃ m12:List Term,St A N w W [oS zm 5 Term.C SlV.nil ([]:List Term),oS zm 5 Term.C s9 m12,oB b4 zm (Term.C tmZ),oB b2 zm (tmC a0 s_0)] [bigA xk ([]:List Term) ([]:List PTerm),bigA xk m12 o11,ze s_0 a0.sub]) ?_ ?_
 ·refine zL ?_
  refine xI (α:=Nat × Int × (List PTerm)) ([4,5] ++ rg 17 11) (fun x fr W=>(x.1:Int)=(a0.sub.length:Int) - x.2.1∧0 ≤ x.2.1∧forS (fun i s=>zbp.b0 zcB a0 i s) x.1 x.2.1 x.2.2=some o11 ∧ ∃ m13:List Term,fr 17 = .int .i64 x.2.1∧St A N w W [oS zm 5 Term.C SlV.nil ([]:List Term),oS zm 5 Term.C s9 m13,oB b4 zm (Term.C tmZ),oB b2 zm (tmC a0 s_0)] [bigA xk ([]:List Term) ([]:List PTerm),bigA xk m13 (x.2.2),ze s_0 a0.sub]) (fun x=>x.1) (((a0.sub.length:Int) - 0).toNat,0,List.replicate (Int.toNat (a0.sub.length:Int)) PTerm.z) ⟨(by dsimp only; have hle:=Int.natCast_nonneg (a0.sub.length); omega),(Int.le_refl _),(by dsimp only; exact e11),List.replicate (Int.toNat (a0.sub.length:Int)) Term.z,rfl,S⟩ ?_
  rintro ⟨m11,i11,x11_0⟩ g11 u11 ⟨hm11,hl11,e11,m14,q11_i,S⟩
  try dsimp only at hm11
  try dsimp only at hl11
  try dsimp only at e11
  try dsimp only at S
  try dsimp only at q11_i
  refine zb (za (wd (xp q11_i rfl) (zd (zb ?_))))
  refine zI rfl (fun hc15=>?_) (fun hc15=>?_)
  rotate_left
  ·refine xO ?_
   have hge:(a0.sub.length:Int) ≤ i11:=Int.not_lt.1 (of_decide_eq_false hc15)
   obtain rfl:m11=0:=by omega
   replace e11:=forS_0 e11
   obtain rfl:=e11
   exact ⟨rfl,df,m14,S⟩
  refine zw ?_
  have hlt11:i11 < (a0.sub.length:Int):=of_decide_eq_true hc15
  obtain ⟨m11,rfl⟩ : ∃ m,m11=m + 1:=⟨m11 - 1,by omega⟩
  obtain ⟨q11,H,e11⟩ := forS_s e11
  unfold zbp.b0 at H
  try dsimp only at H
  have hb11:=(S.lenFZ 2)
  refine zb ?_
  refine zL (zb (za (wd (zk q11_i) (wd (does_indexF zq rfl q11_i (S.onZ 2) (And.intro (show 0 ≤ i11 by omega) (show i11 < (a0.sub.length:Int) from hlt11)).1 (And.intro (show 0 ≤ i11 by omega) (show i11 < (a0.sub.length:Int) from hlt11)).2) ?_))))
  obtain ⟨s17,hc18,S⟩ := S.viewTerm 2 (And.intro (show 0 ≤ i11 by omega) (show i11 < (a0.sub.length:Int) from hlt11))
  replace S:=S
  refine wd (ldC rfl hc18) ?_
  refine zQ xn zam fun b20 w19 hw19=>?_
  replace S:=S.new hw19
  refine wd (zh rfl) ?_
  refine wsT rfl rfl (S.blk 0) fun w21 B hw21 zw21=>?_
  replace S:=S.store 0 B hw21
  refine zd (za (wd (zM rfl) (wd (zk rfl) (wd (ldT rfl (S.blk 0)) ?_))))
  obtain ⟨r22,er22,H⟩ := zp H
  obtain ⟨_,_,T,bk⟩ := S.sub [0] [] [oB b20 zm (tmC (kd a0 i11) s17),oS zm 5 Term.C SlV.nil ([]:List Term),oS zm 5 Term.C s9 m14,oB b4 zm (Term.C tmZ),oB b2 zm (tmC a0 s_0)]
  refine zA (zx kU) zam (zcn (a0:=(kd a0 i11)) T er22) ?_
  rintro _ w23 ⟨s25,rfl,S2⟩
  replace S:=bk _ _ _ _ _ S2 rfl rfl
  obtain ⟨hi26,H⟩ := zX H
  refine wd (xg zq rfl rfl (S.rdO 2) (zG hi26).1 (by rw [(S.lenTm 3)]; exact (zG hi26).2)) ?_
  have hlw27:=S.lenO 2
  have hqw27:=(S.lenTm 3)
  refine kn (C:=Term.C) (a:=(tmT r22 s25)) z1 rfl rfl (S.sl 2) ⟨(zG hi26).1,by rw [hqw27]; exact (zG hi26).2⟩ (Term.len _) (Term.one _) fun w27 O hw27=>?_
  replace S:=S.push 2 O (by rw [List.length_set]; exact hlw27) hw27 (fun i hi => .inl hi)
  clear O hlw27 hqw27
  replace S:=S.setTm (x:=r22) 3 0 (Int.toNat i11)
  refine zd (za (wd (xi q11_i rfl (c:=i11 + 1) rfl zan zan) (wd (zk rfl) (zd ?_))))
  replace S:=S.arr [2,0,3,4] [3,0,5]
  obtain rfl:=zaq H
  exact ⟨rfl,df,(m11,i11 + 1,x11_0.set (Int.toNat i11) r22),⟨(by dsimp only; omega),(by dsimp only; omega),e11,m14.set (Int.toNat i11) (tmT r22 s25),rfl,S⟩,by dsimp only; omega⟩
 rintro g28 u29 ⟨m12,S⟩
 have H:=Ho11
 refine zb (za (wd (zM rfl) (wd (zg zD rfl (o':=4) rfl) ?_)))
 refine yE zz rfl rfl (S.blk 3) (by rw [Term.len]; decide) (SlV.one _ _ rfl) (Term.set_sub _ _) fun w30 B hw30 zw30=>?_
 replace S:=S.store 3 B hw30
 refine zd (zb (za ?_))
 replace S:=S.frzTm 2 1
 refine wd (ldT rfl (S.blk 0)) ?_
 refine wsT rfl rfl (S.blk 2) fun w31 B hw31 zw31=>?_
 replace S:=S.store 2 B hw31
 refine zd (zr ?_)
 refine ⟨_,(zP (rtT rfl (S.blk 0))),?_⟩
 replace S:=S.arr [] [0]
 obtain rfl:=zaq H
 exact ⟨s9,rfl,S⟩
theorem term_clone_st {a0:PTerm} {s_0:SlV} (S:St A N w w [] [ze s_0 a0.sub]) {k:Nat} {r:PTerm} (H:zbp.f k a0=some r) :
  Calls PP ja #[.agg (tmC a0 s_0).toArray] w <| Rt fun v w'=>(∃ so0:SlV,v = .agg (tmC r so0).toArray∧St A N w w' [] [ze so0 r.sub]):=by
 have main : ∀ (k:Nat) {A:Nat→Prop} {N:Oth} {w:World} {a0:PTerm} {s_0:SlV} (S:St A N w w [] [ze s_0 a0.sub]) {r:PTerm} (H:zbp.f k a0=some r),Calls PP ja #[.agg (tmC a0 s_0).toArray] w <| Rt fun v w'=>(∃ so0:SlV,v = .agg (tmC r so0).toArray∧St A N w w' [] [ze so0 r.sub]):=by
  intro k
  induction k with
  | zero=>intro A N w a0 s_0 S r H; cases H
  | succ k ih=>intro A N w a0 s_0 S r H; exact term_clone_gst ih S H
 exact main k S H
theorem term_fresh_st {a0:List (ByteArray × Int)} {m_0:Nat} {a1:List (ByteArray × Int)} {m_1:Nat} {a2:ByteArray} (S:St A N w w [] [oMS m_0 a0,oMS m_1 a1,oPw]) {k:Nat} {r:ByteArray} (H:zbq.f k a0 a1 a2=some r) :
  Calls PP F_term_fresh #[.map (some m_0),.map (some m_1),.string a2] w <| Rt fun v w'=>(v = .string r∧St A N w w' [] []):=by
 unfold zbq.f at H
 refine zu (n:=30) Tryz.func181 rfl rfl zao (zb (za (wd (vI rfl) (zd (zb (za (wd (zh rfl) (zd ?_))))))))
 obtain ⟨o1,e1,Ho1⟩ := zp H
 clear H
 refine xL (rg 6 24) (fun fr W => ∃ s1:Int,o1 = .inl s1∧fr 7 = .int .i64 s1∧St A N w W [] [oMS m_0 a0,oMS m_1 a1,oPw]) ?_ ?_
 ·refine zL ?_
  refine xI (α:=Nat × Int) (rg 6 24) (fun x fr W=>iter (fun s=>zbq.b0 a0 a1 a2 s) x.1 x.2=some o1∧fr 7 = .int .i64 (x.2)∧St A N w W [] [oMS m_0 a0,oMS m_1 a1,oPw]) (fun x=>x.1) (k,0) ⟨(by dsimp only; exact e1),rfl,S⟩ ?_
  rintro ⟨m1,x1_0⟩ g1 u1 ⟨e1,q1_7,S⟩
  try dsimp only at e1
  try dsimp only at S
  try dsimp only at q1_7
  obtain ⟨m1,rfl⟩ : ∃ m,m1=m + 1:=⟨m1 - 1,by cases m1 with | zero=>cases e1 | succ m=>rfl⟩
  obtain ⟨q1,H,e1⟩ := iter_s e1
  unfold zbq.b0 at H
  try dsimp only at H
  refine zb ?_
  refine zL (zb (za (wd (zk q1_7) ?_)))
  obtain ⟨r2,er2,H⟩ := zp H
  obtain ⟨_,_,T,bk⟩ := S.calln 0 ((.z 2 rfl .nil))
  refine zA (zx ca_strconv_Itoa) zam (strconv_Itoa_st T er2) ?_
  rintro _ w3 ⟨rfl,S2⟩
  replace S:=bk _ _ _ _ S2 rfl
  obtain ⟨hs5,H⟩ := zX H
  refine wd (does_concat rfl rfl (of_decide_eq_true hs5)) (wd (vI rfl) (zd (zb (za (wd (yj rfl) (wd (zW rfl) ?_))))))
  refine wd (vp (C:=Value.string) (D:=(Value.int .i64)) (key:=(bA #[118]) ++ r2) (zv:=0) xF yQ zv_int rfl rfl (S.mapZ 0)) (wd (zR rfl rfl) (wd (zy rfl) ?_))
  refine wg (fun hg=>yj rfl) ?_
  refine wg (fun hg=>zW rfl) ?_
  refine wg (fun hg=>vp (C:=Value.string) (D:=(Value.int .i64)) (key:=(bA #[118]) ++ r2) (zv:=0) xF yQ zv_int (zn hg) (zn hg) (S.mapZ 1)) ?_
  refine wg (fun hg=>zR (zn hg) rfl) (wd (zV rfl (fun hp=>(zn (xl hp)))) (wd (zy rfl) ?_))
  refine wg (fun hg=>zW rfl) ?_
  refine wg (fun hg=>zW rfl) ?_
  refine wg (fun hg=>um (zn hg) (zn hg)) (wd (zV rfl (fun hp=>(zn (xl hp)))) (zd ?_))
  refine zI rfl (fun hc6=>?_) (fun hc6=>?_)
  ·replace H:=if_t hc6 H
   refine zb (za (wd (zW rfl) (wd (vI rfl) (zd (zr ?_)))))
   refine ⟨_,(zP (zf rfl)),?_⟩
   replace S:=S.arr [] []
   obtain rfl:=zaq H
   obtain rfl:=e1
   obtain rfl:=uD Ho1
   exact ⟨rfl,S⟩
  replace H:=if_f hc6 H
  refine zw (za (wd (zk q1_7) (wd (vT rfl rfl) (wd (zh rfl) (zd ?_)))))
  obtain rfl:=zaq H
  exact ⟨rfl,df,(m1,IntKind.i64.wrap (x1_0 + 1)),⟨e1,rfl,S⟩,by dsimp only; omega⟩
 rintro g7 u8 ⟨s1,rfl,p1_7,S⟩
 have H:=Ho1
 dsimp only [aft] at H
 cases H
theorem term_put_gst {zcF:PTerm→ByteArray→PTerm→(List (ByteArray × Int))→Option PTerm} (zcr : ∀ {A:Nat→Prop} {N:Oth} {w:World} {a0:PTerm} {s_0:SlV} {a1:ByteArray} {a2:PTerm} {s_2:SlV} {a3:List (ByteArray × Int)} {m_3:Nat} (S:St A N w w [] [ze s_0 a0.sub,ze s_2 a2.sub,oMS m_3 a3,oPw]) {r:PTerm} (H:zcF a0 a1 a2 a3=some r),Calls PP kv #[.agg (tmC a0 s_0).toArray,.string a1,.agg (tmC a2 s_2).toArray,.map (some m_3)] w <| Rt fun v w'=>(∃ so0:SlV,v = .agg (tmC r so0).toArray∧St A N w w' [] [ze so0 r.sub])) {A:Nat→Prop} {N:Oth} {w:World} {a0:PTerm} {s_0:SlV} {a1:ByteArray} {a2:PTerm} {s_2:SlV} {a3:List (ByteArray × Int)} {m_3:Nat} (S:St A N w w [] [ze s_0 a0.sub,ze s_2 a2.sub,oMS m_3 a3,oPw]) {k:Nat} {r:PTerm} (H:zbr.g zcF k a0 a1 a2 a3=some r) :
  Calls PP kv #[.agg (tmC a0 s_0).toArray,.string a1,.agg (tmC a2 s_2).toArray,.map (some m_3)] w <| Rt fun v w'=>(∃ so0:SlV,v = .agg (tmC r so0).toArray∧St A N w w' [] [ze so0 r.sub]):=by
 unfold zbr.g at H
 refine zu (n:=96) Tryz.func165 rfl rfl zao (zb (za ?_))
 refine zH rfl zam fun b2 w1 hw1=>?_
 replace S:=S.new hw1
 refine zH rfl zam fun b4 w3 hw3=>?_
 replace S:=S.new hw3
 refine zQ xn zam fun b6 w5 hw5=>?_
 replace S:=S.new hw5
 refine zd (zb (zb (za (wd (zg xh rfl (o':=0) rfl) (wd (zl zU rfl ((S.blk 2).cell (Term.get_kind _))) (wd (zR rfl rfl) (zd ?_)))))))
 refine zI rfl (fun hc7=>?_) (fun hc7=>?_)
 ·replace H:=if_t hc7 H
  refine zb (zb (za (wd (zg xW rfl (o':=1) rfl) (wd (zl xt rfl ((S.blk 2).cell (Term.get_name _))) (wd (zW rfl) (wd (yo rfl rfl) (zd ?_)))))))
  refine zI rfl (fun hc8=>?_) (fun hc8=>?_)
  ·replace H:=if_t hc8 H
   refine zb (za (wd (ldT rfl (S.blk 1)) ?_))
   obtain ⟨r9,er9,H⟩ := zp H
   obtain ⟨_,_,T,bk⟩ := S.sub [1] [] [oB b6 zm (Term.C tmZ),oB b4 zm (tmC a2 s_2),oB b2 zm (tmC a0 s_0)]
   refine zA (zx kU) zam (term_clone_st (a0:=a2) T er9) ?_
   rintro _ w10 ⟨s12,rfl,S2⟩
   replace S:=bk _ _ _ _ _ S2 rfl rfl
   refine wsT rfl rfl (S.blk 0) fun w13 B hw13 zw13=>?_
   replace S:=S.store 0 B hw13
   refine zd (zr ?_)
   refine ⟨_,(zP (rtT rfl (S.blk 0))),?_⟩
   replace S:=S.arr [] [0]
   obtain rfl:=zaq H
   exact ⟨s12,rfl,S⟩
  replace H:=if_f hc8 H
  refine zw (zb (za (wd (ldT rfl (S.blk 2)) ?_)))
  refine wsT rfl rfl (S.blk 0) fun w14 B hw14 zw14=>?_
  replace S:=S.store 0 B hw14
  refine zd (zr ?_)
  refine ⟨_,(zP (rtT rfl (S.blk 0))),?_⟩
  replace S:=S.arr [] [0]
  obtain rfl:=zaq H
  exact ⟨s_0,rfl,S⟩
 replace H:=if_f hc7 H
 refine zw (zb (za (wd (ldT rfl (S.blk 2)) ?_)))
 refine zQ xn zam fun b16 w15 hw15=>?_
 replace S:=S.new hw15
 refine wsT rfl rfl (S.blk 0) fun w17 B hw17 zw17=>?_
 replace S:=S.store 0 B hw17
 refine zd (zb (za (wd (zg zD rfl (o':=4) rfl) (wd (zl zz rfl ((S.blk 3).cell (Term.get_sub _))) (wd (does_lenF zq rfl (S.onZ 0)) ?_)))))
 obtain ⟨hm21,H⟩ := zX H
 have hm21:=of_decide_eq_true hm21
 refine wl_makeN (C:=Term.C) (z:=Term.z) zq uu zT_Term rfl rfl rfl hm21.1 zan hm21.2 zam fun b19 w18 s20 hBw18 hw18=>?_
 replace S:=(S.lit hBw18 hw18 (by rw [List.length_replicate]; omega)).repTm (Int.toNat (a0.sub.length:Int))
 refine wd (zg zD rfl (o':=4) rfl) ?_
 refine yE zz rfl rfl (S.blk 1) (by rw [Term.len]; decide) (SlV.one _ _ rfl) (Term.set_sub _ _) fun w22 B hw22 zw22=>?_
 replace S:=S.store 1 B hw22
 refine zd (zb (zb (za (wd (zg zD rfl (o':=4) rfl) (wd (zl zz rfl ((S.blk 4).cell (Term.get_sub _))) (wd (does_lenF zq rfl (S.onZ 1)) (wd (zk rfl) (zd ?_))))))))
 replace S:=(S.nil zm 5 Term.C).bigTm
 obtain ⟨o23,e23,Ho23⟩ := zp H
 clear H
 let LT1:List OA:=[ze s_0 a0.sub,ze s_2 a2.sub,oMS m_3 a3,oPw]
 refine xL ([10,11,12,13,14] ++ rg 34 61) (fun fr W => ∃ s24:SlV,∃ m25:List Term,St A N w W [oS zm 5 Term.C SlV.nil ([]:List Term),oB b16 zm (tmC o23 s24),oS zm 5 Term.C s24 m25,oB b6 zm (Term.C tmZ),oB b4 zm (tmC a2 s_2),oB b2 zm (tmC a0 s_0)] (bigA xk ([]:List Term) ([]:List PTerm) :: bigA xk m25 o23.sub :: LT1)) ?_ ?_
 ·refine zL ?_
  refine xI (α:=Nat × Int × PTerm) ([10,11,12,13,14] ++ rg 34 61) (fun x fr W=>(x.1:Int)=(a0.sub.length:Int) - x.2.1∧0 ≤ x.2.1∧forS (fun i s=>zbr.b0 a0 k a1 a3 zcF a2 i s) x.1 x.2.1 x.2.2=some o23 ∧ ∃ s26:SlV,∃ m27:List Term,fr 34 = .int .i64 x.2.1∧St A N w W [oS zm 5 Term.C SlV.nil ([]:List Term),oB b16 zm (tmC (x.2.2) s26),oS zm 5 Term.C s26 m27,oB b6 zm (Term.C tmZ),oB b4 zm (tmC a2 s_2),oB b2 zm (tmC a0 s_0)] (bigA xk ([]:List Term) ([]:List PTerm) :: bigA xk m27 (x.2.2).sub :: LT1)) (fun x=>x.1) (((a0.sub.length:Int) - 0).toNat,0,(⟨a0.kind,a0.name,a0.other,a0.form,List.replicate (Int.toNat (a0.sub.length:Int)) PTerm.z⟩ : PTerm)) ⟨(by dsimp only; have hle:=Int.natCast_nonneg (a0.sub.length); omega),(Int.le_refl _),(by dsimp only; exact e23),s20,List.replicate (Int.toNat (a0.sub.length:Int)) Term.z,rfl,S⟩ ?_
  rintro ⟨m23,i23,x23_0⟩ g23 u23 ⟨hm23,hl23,e23,s28,m29,q23_i,S⟩
  try dsimp only at hm23
  try dsimp only at hl23
  try dsimp only at e23
  try dsimp only at S
  try dsimp only at q23_i
  refine zb (za (wd (xp q23_i rfl) (zd (zb ?_))))
  refine zI rfl (fun hc30=>?_) (fun hc30=>?_)
  rotate_left
  ·refine xO ?_
   have hge:(a0.sub.length:Int) ≤ i23:=Int.not_lt.1 (of_decide_eq_false hc30)
   obtain rfl:m23=0:=by omega
   replace e23:=forS_0 e23
   obtain rfl:=e23
   exact ⟨rfl,df,s28,m29,S⟩
  refine zw ?_
  have hlt23:i23 < (a0.sub.length:Int):=of_decide_eq_true hc30
  obtain ⟨m23,rfl⟩ : ∃ m,m23=m + 1:=⟨m23 - 1,by omega⟩
  obtain ⟨q23,H,e23⟩ := forS_s e23
  unfold zbr.b0 at H
  try dsimp only at H
  have hb23:=(S.lenFZ 2)
  refine zb ?_
  refine zL (zb (za (wd (zk q23_i) (wd (does_indexF zq rfl q23_i (S.onZ 2) (And.intro (show 0 ≤ i23 by omega) (show i23 < (a0.sub.length:Int) from hlt23)).1 (And.intro (show 0 ≤ i23 by omega) (show i23 < (a0.sub.length:Int) from hlt23)).2) ?_))))
  obtain ⟨s32,hc33,S⟩ := S.viewTerm 2 (And.intro (show 0 ≤ i23 by omega) (show i23 < (a0.sub.length:Int) from hlt23))
  replace S:=S
  refine wd (ldC rfl hc33) ?_
  refine zQ xn zam fun b35 w34 hw34=>?_
  replace S:=S.new hw34
  refine wd (zh rfl) ?_
  refine wsT rfl rfl (S.blk 0) fun w36 B hw36 zw36=>?_
  replace S:=S.store 0 B hw36
  refine zd (zb (za (wd (ldT rfl (S.blk 6)) (wd (zk rfl) ?_))))
  obtain ⟨r37,er37,H⟩ := zp H
  obtain ⟨_,_,T,bk⟩ := S.calln 0 ((.z 3 rfl .nil))
  refine zA (zx kT) zam (k0 (a0:=a0) T er37) ?_
  rintro _ w38 ⟨rfl,S2⟩
  replace S:=bk _ _ _ _ S2 rfl
  refine wd (vI rfl) (zd (zb (za (wd (ldT rfl (S.blk 0)) ?_))))
  obtain ⟨r40,er40,H⟩ := zp H
  obtain ⟨_,_,T,bk⟩ := S.calln 0 ((.z 0 rfl .nil))
  refine zA (zx kA) zam (kG (a0:=(kd a0 i23)) T er40) ?_
  rintro _ w41 ⟨m43,rfl,S2⟩
  replace S:=bk _ _ _ _ S2 rfl
  refine wd (does_as_m rfl) (zd (zb (zb (za (wd (zW rfl) (wd (zW rfl) (wd (yo rfl rfl) ?_)))))))
  refine wd (zy rfl) ?_
  refine wg (fun hg=>yj rfl) ?_
  refine wg (fun hg=>zW rfl) ?_
  refine wg (fun hg=>vp (C:=Value.string) (D:=(Value.int .i64)) (key:=a1) (zv:=0) xF yQ zv_int (zn hg) (zn hg) (S.map 0)) ?_
  refine wg (fun hg=>zR (zn hg) rfl) (wd (xv rfl (fun hp=>(zn (xl hp)))) (zd ?_))
  refine zI rfl (fun hc44=>?_) (fun hc44=>?_)
  ·replace H:=if_t hc44 H
   refine zb ?_
   obtain ⟨r46,er46,H⟩ := zp H
   refine yX 5 ⟨fun _ _=>True,fun _ _ _=>True,fun i v _=>match i with
    | 0=>v=Value.pointer (some ⟨b16,4,none⟩)
    | 1=>v=s28.v
    | 2=>v=Value.int .i64 i23
    | 3=>v=Value.agg (tmC (kd a0 i23) s32).toArray
    | _=>True⟩ (fun L g v => ∃ Z50:List OA,(∀ z ∈ (ze s32 ((kd a0 i23).sub) :: bigA xk ([]:List Term) ([]:List PTerm) :: bigA xk m29 x23_0.sub :: LT1),z ∈ Z50)∧Made L g Z50 4 57 (fun (c:SlV)=>Value.agg (tmC r46 c).toArray) (fun (c:SlV)=>[ze c r46.sub])∧St A N w v [oMS m43 r40,oB b35 zm (tmC (kd a0 i23) s32),oS zm 5 Term.C SlV.nil ([]:List Term),oB b16 zm (tmC x23_0 s28),oS zm 5 Term.C s28 m29,oB b6 zm (Term.C tmZ),oB b4 zm (tmC a2 s_2),oB b2 zm (tmC a0 s_0)] Z50) hmix zap (fun _ _ _ _ _ _ _ hv=>hv) (fun g=>⟨_,fun _ h=>h,Made.no,S.ext (Ext.drawn _)⟩) ⟨?_,?_,?_,?_,?_,trivial⟩ ?_
   ·rintro L g v hL hcl hclo ⟨Z50,hZ,hm4,S⟩ 
    refine wd (zg zD rfl (o':=4) rfl) ?_
    exact w4 rfl ⟨_,hZ,hm4.keep rfl rfl tl0,S⟩
   ·rintro L g v hL hcl hclo ⟨Z50,hZ,hm4,S⟩ hv0
    refine wd (zl zz hv0 ((S.blk 3).cell (Term.get_sub _))) ?_
    exact w4 rfl ⟨_,hZ,hm4.keep rfl rfl tl0,S⟩
   ·rintro L g v hL hcl hclo ⟨Z50,hZ,hm4,S⟩ 
    refine wd (zk rfl) ?_
    exact w4 rfl ⟨_,hZ,hm4.keep rfl rfl tl0,S⟩
   ·rintro L g v hL hcl hclo ⟨Z50,hZ,hm4,S⟩ 
    refine wd (ldT rfl (S.blk 1)) ?_
    exact w4 rfl ⟨_,hZ,hm4.keep rfl rfl tl0,S⟩
   ·rintro L g v hL hcl hclo ⟨Z50,hZ,hm4,S⟩ hv3
    replace S:=(S.zneed hZ)
    obtain ⟨_,_,T,bk⟩ := S.sub [0] [] [oMS m43 r40,oB b35 zm (tmC (kd a0 i23) s32),oS zm 5 Term.C SlV.nil ([]:List Term),oB b16 zm (tmC x23_0 s28),oS zm 5 Term.C s28 m29,oB b6 zm (Term.C tmZ),oB b4 zm (tmC a2 s_2),oB b2 zm (tmC a0 s_0)]
    refine zA (zK kU (zN hv3 rfl)) zam (term_clone_st (a0:=(kd a0 i23)) T er46) ?_
    rintro _ w53 ⟨s55,rfl,S2⟩
    replace S:=bk _ _ _ _ _ S2 rfl rfl
    exact w4 trivial ⟨_,(fun z h=>tl8 z (hZ z h)),Made.one (val:=(fun (c:SlV)=>Value.agg (tmC r46 c).toArray)) (ps:=(fun (c:SlV)=>[ze c r46.sub])) s55 (xX List.mem_cons_self yw),S⟩
   rintro L g w56 hLm ⟨Z50,hZ,hm4,S⟩ hv57_0 hv57_1 hv57_2 hv57_3 _
   have hLt : ∀ j,j < 5→L j=true:=fun j hj=>by rw [hLm]; exact decide_eq_true hj
   obtain ⟨s49,hv57_4,hp4⟩ := hm4 (hLt 4 zam)
   replace S:=S.pickZ (xD (l1:=[ze s49 r46.sub]) hp4 hZ)
   clear hp4 hZ hm4
   obtain ⟨hi58,H⟩ := zX H
   refine wd (xg zq hv57_1 hv57_2 (S.rdO 4) (zG hi58).1 (by rw [(S.lenTm 3)]; exact (zG hi58).2)) ?_
   have hlw59:=S.lenO 4
   have hqw59:=(S.lenTm 3)
   refine kn (C:=Term.C) (a:=(tmT r46 s49)) z1 rfl hv57_4 (S.sl 4) ⟨(zG hi58).1,by rw [hqw59]; exact (zG hi58).2⟩ (Term.len _) (Term.one _) fun w59 O hw59=>?_
   replace S:=S.push 4 O (by rw [List.length_set]; exact hlw59) hw59 (fun i hi => .inl hi)
   clear O hlw59 hqw59
   replace S:=S.setTm (x:=r46) 3 0 (Int.toNat i23)
   refine zd ?_
   refine xO (za (wd (xi q23_i rfl (c:=i23 + 1) rfl zan zan) (wd (zk rfl) (zd ?_))))
   replace S:=S.arr [3,4,0,5,6,7] [3,0,5,6,7,8]
   obtain rfl:=zaq H
   exact ⟨rfl,df,(m23,i23 + 1,(⟨x23_0.kind,x23_0.name,x23_0.other,x23_0.form,x23_0.sub.set (Int.toNat i23) r46⟩ : PTerm)),⟨(by dsimp only; omega),(by dsimp only; omega),e23,s28,m29.set (Int.toNat i23) (tmT r46 s49),rfl,S⟩,by dsimp only; omega⟩
  replace H:=if_f hc44 H
  refine zw (zb (zb (za (wd (zW rfl) (wd (um rfl rfl) (wd (zy rfl) ?_))))))
  refine wg (fun hg=>yj rfl) ?_
  refine wg (fun hg=>zW rfl) ?_
  refine wg (fun hg=>vp (C:=Value.string) (D:=(Value.int .i64)) (key:=r37) (zv:=0) xF yQ zv_int (zn hg) (zn hg) (S.mapZ 5)) ?_
  refine wg (fun hg=>jL (zn hg) rfl) (wd (zV rfl (fun hp=>(zn (xl hp)))) (zd ?_))
  obtain ⟨o60,e60,Ho60⟩ := zp H
  replace H:=e60; clear e60
  refine xL ([14] ++ rg 67 18) (fun fr W => ∃ s61:SlV,∃ s62:SlV,∃ m63:List Term,St A N w W [oMS m43 r40,oB b35 zm (tmC o60.1 s61),oS zm 5 Term.C SlV.nil ([]:List Term),oB b16 zm (tmC o60.2 s62),oS zm 5 Term.C s62 m63,oB b6 zm (Term.C tmZ),oB b4 zm (tmC a2 s_2),oB b2 zm (tmC a0 s_0)] (ze s61 o60.1.sub :: bigA xk ([]:List Term) ([]:List PTerm) :: bigA xk m63 o60.2.sub :: LT1)) ?_ ?_
  ·refine zI rfl (fun hc64=>?_) (fun hc64=>?_)
   ·replace H:=if_t hc64 H
    refine zb (za (wd (yj rfl) (wd (yj rfl) (wd (zW rfl) ?_))))
    obtain ⟨r65,er65,H⟩ := zp H
    obtain ⟨_,_,T,bk⟩ := S.calln 0 ((.o 0 rfl (.z 5 rfl (.z 6 rfl .nil))))
    refine zA (zx ca_term_fresh) zam (term_fresh_st T er65) ?_
    rintro _ w66 ⟨rfl,S2⟩
    replace S:=bk _ _ _ _ S2 rfl
    refine wd (vI rfl) (zd (zb (za (wd (ldT rfl (S.blk 1)) (wd (zW rfl) (wd (zW rfl) ?_))))))
    refine wd (Does.to (v' := .agg (Term.C (tmM 1 r65 SlV.nil)).toArray) (xa (vs:=[(0,.int .i64 1),(1,.string r65)]) yl (xK rfl (xK rfl rfl)) (Bld.one rfl rfl (by rw [Term.len]; decide) (Term.set_kind _ _) (Bld.one rfl rfl (by rw [Term.len]; decide) (Term.set_name _ _) Bld.nil))) rfl) ?_
    refine wl_makeMap (C:=Value.string) (D:=(Value.int .i64)) zam fun m68 w69 hmw69 hxw69 hlw69=>?_
    replace S:=S.newM hmw69 hxw69 hlw69
    refine wd (zW rfl) ?_
    refine wl_mapInsert (C:=Value.string) (D:=(Value.int .i64)) (key:=r65) (v:=1) xF yQ rfl rfl rfl (S.map 0) fun w70 hmw70 hcw70 hsw70=>?_
    replace S:=S.mapSet 0 ⟨hmw70,hcw70,hsw70⟩
    refine wd (yj rfl) ?_
    replace S:=S.nilTm
    obtain ⟨r71,er71,H⟩ := zp H
    replace S:=S.frzO 0
    obtain ⟨_,_,T,bk⟩ := S.sub [2,1,0,8] [] [oMS m43 r40,oB b35 zm (tmC (kd a0 i23) s32),oS zm 5 Term.C SlV.nil ([]:List Term),oB b16 zm (tmC x23_0 s28),oS zm 5 Term.C s28 m29,oB b6 zm (Term.C tmZ),oB b4 zm (tmC a2 s_2),oB b2 zm (tmC a0 s_0)]
    refine zA (zx ca_term_put) zam (zcr (a0:=(kd a0 i23)) (a2:=(ptM 1 r65 [])) T er71) ?_
    rintro _ w72 ⟨s74,rfl,S2⟩
    replace S:=bk _ _ _ _ _ S2 rfl rfl
    refine wsT rfl rfl (S.blk 1) fun w75 B hw75 zw75=>?_
    replace S:=S.store 1 B hw75
    refine zd (zb (za (wd (zk rfl) (wd (zR rfl rfl) (zd ?_)))))
    refine zI rfl (fun hc76=>?_) (fun hc76=>?_)
    ·replace H:=if_t hc76 H
     refine za (wd (zW rfl) (wd (zg vX rfl (o':=2) rfl) ?_))
     refine yE xt rfl rfl (S.blk 3) (by rw [Term.len]; decide) rfl (Term.set_other _ _) fun w77 B hw77 zw77=>?_
     replace S:=S.store 3 B hw77
     refine zd ?_
     replace S:=S.arr [2,1,3,0,4,5,6,7] [0,4,5,6,7,8,9]
     obtain rfl:=zaq H
     exact ⟨rfl,df,s74,s28,m29,S⟩
    ·replace H:=if_f hc76 H
     refine za (wd (zW rfl) (wd (zg xW rfl (o':=1) rfl) ?_))
     refine yE xt rfl rfl (S.blk 3) (by rw [Term.len]; decide) rfl (Term.set_name _ _) fun w78 B hw78 zw78=>?_
     replace S:=S.store 3 B hw78
     refine zd ?_
     replace S:=S.arr [2,1,3,0,4,5,6,7] [0,4,5,6,7,8,9]
     obtain rfl:=zaq H
     exact ⟨rfl,df,s74,s28,m29,S⟩
   ·replace H:=if_f hc64 H
    refine zw ?_
    obtain rfl:=zaq H
    exact ⟨rfl,df,s32,s28,m29,S⟩
  rintro g79 u80 ⟨s61,s62,m63,S⟩
  have H:=Ho60
  obtain ⟨r82,er82,H⟩ := zp H
  refine yX 8 ⟨fun _ _=>True,fun _ _ _=>True,fun i v _=>match i with
   | 0=>v=Value.pointer (some ⟨b16,4,none⟩)
   | 1=>v=s62.v
   | 2=>v=Value.int .i64 i23
   | 3=>v=Value.agg (tmC o60.1 s61).toArray
   | 4=>v=Value.string a1
   | 5=>v=Value.agg (tmC a2 s_2).toArray
   | 6=>v=Value.map (some m_3)
   | _=>True⟩ (fun L g v => ∃ Z86:List OA,(∀ z ∈ (ze s61 o60.1.sub :: bigA xk ([]:List Term) ([]:List PTerm) :: bigA xk m63 o60.2.sub :: LT1),z ∈ Z86)∧Made L g Z86 7 92 (fun (c:SlV)=>Value.agg (tmC r82 c).toArray) (fun (c:SlV)=>[ze c r82.sub])∧St A N w v [oMS m43 r40,oB b35 zm (tmC o60.1 s61),oS zm 5 Term.C SlV.nil ([]:List Term),oB b16 zm (tmC o60.2 s62),oS zm 5 Term.C s62 m63,oB b6 zm (Term.C tmZ),oB b4 zm (tmC a2 s_2),oB b2 zm (tmC a0 s_0)] Z86) hmix zap (fun _ _ _ _ _ _ _ hv=>hv) (fun g=>⟨_,fun _ h=>h,Made.no,S.ext (Ext.drawn _)⟩) ⟨?_,?_,?_,?_,?_,?_,?_,?_,trivial⟩ ?_
  ·rintro L g v hL hcl hclo ⟨Z86,hZ,hm7,S⟩ 
   refine wd (zg zD rfl (o':=4) rfl) ?_
   exact w4 rfl ⟨_,hZ,hm7.keep rfl rfl tl0,S⟩
  ·rintro L g v hL hcl hclo ⟨Z86,hZ,hm7,S⟩ hv0
   refine wd (zl zz hv0 ((S.blk 3).cell (Term.get_sub _))) ?_
   exact w4 rfl ⟨_,hZ,hm7.keep rfl rfl tl0,S⟩
  ·rintro L g v hL hcl hclo ⟨Z86,hZ,hm7,S⟩ 
   refine wd (zk rfl) ?_
   exact w4 rfl ⟨_,hZ,hm7.keep rfl rfl tl0,S⟩
  ·rintro L g v hL hcl hclo ⟨Z86,hZ,hm7,S⟩ 
   refine wd (ldT rfl (S.blk 1)) ?_
   exact w4 rfl ⟨_,hZ,hm7.keep rfl rfl tl0,S⟩
  ·rintro L g v hL hcl hclo ⟨Z86,hZ,hm7,S⟩ 
   refine wd (zW rfl) ?_
   exact w4 rfl ⟨_,hZ,hm7.keep rfl rfl tl0,S⟩
  ·rintro L g v hL hcl hclo ⟨Z86,hZ,hm7,S⟩ 
   refine wd (ldT rfl (S.blk 6)) ?_
   exact w4 rfl ⟨_,hZ,hm7.keep rfl rfl tl0,S⟩
  ·rintro L g v hL hcl hclo ⟨Z86,hZ,hm7,S⟩ 
   refine wd (yj rfl) ?_
   exact w4 rfl ⟨_,hZ,hm7.keep rfl rfl tl0,S⟩
  ·rintro L g v hL hcl hclo ⟨Z86,hZ,hm7,S⟩ hv3 hv4 hv5 hv6
   replace S:=(S.zneed hZ)
   obtain ⟨_,_,T,bk⟩ := S.sub [0,4,5,6] [] [oMS m43 r40,oB b35 zm (tmC o60.1 s61),oS zm 5 Term.C SlV.nil ([]:List Term),oB b16 zm (tmC o60.2 s62),oS zm 5 Term.C s62 m63,oB b6 zm (Term.C tmZ),oB b4 zm (tmC a2 s_2),oB b2 zm (tmC a0 s_0)]
   refine zA (zK ca_term_put (zN hv3 (zN hv4 (zN hv5 (zN hv6 rfl))))) zam (zcr (a0:=o60.1) (a2:=a2) T er82) ?_
   rintro _ w89 ⟨s91,rfl,S2⟩
   replace S:=bk _ _ _ _ _ S2 rfl rfl
   exact w4 trivial ⟨_,(fun z h=>tl8 z (hZ z h)),Made.one (val:=(fun (c:SlV)=>Value.agg (tmC r82 c).toArray)) (ps:=(fun (c:SlV)=>[ze c r82.sub])) s91 (xX List.mem_cons_self yw),S⟩
  rintro L g w92 hLm ⟨Z86,hZ,hm7,S⟩ hv93_0 hv93_1 hv93_2 hv93_3 hv93_4 hv93_5 hv93_6 _
  have hLt : ∀ j,j < 8→L j=true:=fun j hj=>by rw [hLm]; exact decide_eq_true hj
  obtain ⟨s85,hv93_7,hp7⟩ := hm7 (hLt 7 zam)
  replace S:=S.pickZ (xD (l1:=[ze s85 r82.sub]) hp7 hZ)
  clear hp7 hZ hm7
  obtain ⟨hi94,H⟩ := zX H
  refine wd (xg zq hv93_1 hv93_2 (S.rdO 4) (zG hi94).1 (by rw [(S.lenTm 3)]; exact (zG hi94).2)) ?_
  have hlw95:=S.lenO 4
  have hqw95:=(S.lenTm 3)
  refine kn (C:=Term.C) (a:=(tmT r82 s85)) z1 rfl hv93_7 (S.sl 4) ⟨(zG hi94).1,by rw [hqw95]; exact (zG hi94).2⟩ (Term.len _) (Term.one _) fun w95 O hw95=>?_
  replace S:=S.push 4 O (by rw [List.length_set]; exact hlw95) hw95 (fun i hi => .inl hi)
  clear O hlw95 hqw95
  replace S:=S.setTm (x:=r82) 3 0 (Int.toNat i23)
  refine zd (za (wd (xi q23_i rfl (c:=i23 + 1) rfl zan zan) (wd (zk rfl) (zd ?_))))
  replace S:=S.arr [3,4,0,5,6,7] [3,0,5,6,7,8]
  obtain rfl:=zaq H
  exact ⟨rfl,df,(m23,i23 + 1,(⟨o60.2.kind,o60.2.name,o60.2.other,o60.2.form,o60.2.sub.set (Int.toNat i23) r82⟩ : PTerm)),⟨(by dsimp only; omega),(by dsimp only; omega),e23,s62,m63.set (Int.toNat i23) (tmT r82 s85),rfl,S⟩,by dsimp only; omega⟩
 rintro g96 u97 ⟨s24,m25,S⟩
 have H:=Ho23
 refine zb (za ?_)
 replace S:=S.frzTm 2 1
 refine wd (ldT rfl (S.blk 1)) ?_
 refine wsT rfl rfl (S.blk 2) fun w98 B hw98 zw98=>?_
 replace S:=S.store 2 B hw98
 refine zd (zr ?_)
 refine ⟨_,(zP (rtT rfl (S.blk 0))),?_⟩
 replace S:=S.arr [] [0]
 obtain rfl:=zaq H
 exact ⟨s24,rfl,S⟩
theorem term_put_st {a0:PTerm} {s_0:SlV} {a1:ByteArray} {a2:PTerm} {s_2:SlV} {a3:List (ByteArray × Int)} {m_3:Nat} (S:St A N w w [] [ze s_0 a0.sub,ze s_2 a2.sub,oMS m_3 a3,oPw]) {k:Nat} {r:PTerm} (H:zbr.f k a0 a1 a2 a3=some r) :
  Calls PP kv #[.agg (tmC a0 s_0).toArray,.string a1,.agg (tmC a2 s_2).toArray,.map (some m_3)] w <| Rt fun v w'=>(∃ so0:SlV,v = .agg (tmC r so0).toArray∧St A N w w' [] [ze so0 r.sub]):=by
 have main : ∀ (k:Nat) {A:Nat→Prop} {N:Oth} {w:World} {a0:PTerm} {s_0:SlV} {a1:ByteArray} {a2:PTerm} {s_2:SlV} {a3:List (ByteArray × Int)} {m_3:Nat} (S:St A N w w [] [ze s_0 a0.sub,ze s_2 a2.sub,oMS m_3 a3,oPw]) {r:PTerm} (H:zbr.f k a0 a1 a2 a3=some r),Calls PP kv #[.agg (tmC a0 s_0).toArray,.string a1,.agg (tmC a2 s_2).toArray,.map (some m_3)] w <| Rt fun v w'=>(∃ so0:SlV,v = .agg (tmC r so0).toArray∧St A N w w' [] [ze so0 r.sub]):=by
  intro k
  induction k with
  | zero=>intro A N w a0 s_0 a1 a2 s_2 a3 m_3 S r H; cases H
  | succ k ih=>intro A N w a0 s_0 a1 a2 s_2 a3 m_3 S r H; exact term_put_gst ih S H
 exact main k S H
theorem j1 {a0:PTerm} {s_0:SlV} {a1:ByteArray} {a2:PTerm} {s_2:SlV} (S:St A N w w [] [ze s_0 a0.sub,ze s_2 a2.sub,oPw]) {k:Nat} {r:PTerm × Int} (H:zbs.f k a0 a1 a2=some r) :
  Calls PP F_term_Put #[.agg (tmC a0 s_0).toArray,.string a1,.agg (tmC a2 s_2).toArray] w <| Rt fun v w'=>(∃ so0:SlV,v = .tuple #[.agg (tmC r.1 so0).toArray,.int .i64 r.2]∧St A N w w' [] [ze so0 r.1.sub]):=by
 unfold zbs.f at H
 refine zu (n:=51) Tryz.func106 rfl rfl zao (zb (za ?_))
 refine zH rfl zam fun b2 w1 hw1=>?_
 replace S:=S.new hw1
 refine zH rfl zam fun b4 w3 hw3=>?_
 replace S:=S.new hw3
 refine zQ xn zam fun b6 w5 hw5=>?_
 replace S:=S.new hw5
 refine wd (zh rfl) (zd (zb (zb (za (wd (ldT rfl (S.blk 2)) ?_)))))
 obtain ⟨r7,er7,H⟩ := zp H
 obtain ⟨_,_,T,bk⟩ := S.calln 0 ((.z 0 rfl .nil))
 refine zA (zx vW) zam (vY (a0:=a0) T er7) ?_
 rintro _ w8 ⟨rfl,S2⟩
 replace S:=bk _ _ _ _ S2 rfl
 refine wd (zh rfl) (zd (zb (za (wd (zk rfl) (wd (xq rfl rfl) (zd ?_))))))
 refine zI rfl (fun hc10=>?_) (fun hc10=>?_)
 ·replace H:=if_t hc10 H
  refine zb (za (wd (Does.to (v' := .agg (Term.C tmZ).toArray) (xa (vs:=[]) yl rfl Bld.nil) rfl) (wd (zk rfl) ?_)))
  refine wsT rfl rfl (S.blk 0) fun w11 B hw11 zw11=>?_
  replace S:=S.store 0 B hw11
  refine wd (zh rfl) (zd (zr ?_))
  replace S:=S.nilTm
  refine ⟨_,(xm (rtT rfl (S.blk 0)) (zf rfl)),?_⟩
  replace S:=S.arr [] [0]
  obtain rfl:=zaq H
  exact ⟨SlV.nil,rfl,S⟩
 replace H:=if_f hc10 H
 refine zw (zb (zb (za (wd (ldT rfl (S.blk 1)) ?_))))
 obtain ⟨r12,er12,H⟩ := zp H
 obtain ⟨_,_,T,bk⟩ := S.calln 0 ((.z 1 rfl .nil))
 refine zA (zx vW) zam (vY (a0:=a2) T er12) ?_
 rintro _ w13 ⟨rfl,S2⟩
 replace S:=bk _ _ _ _ S2 rfl
 refine wd (zh rfl) (zd (zb (za (wd (zk rfl) (wd (xq rfl rfl) (zd ?_))))))
 refine zI rfl (fun hc15=>?_) (fun hc15=>?_)
 ·replace H:=if_t hc15 H
  refine zb (za (wd (Does.to (v' := .agg (Term.C tmZ).toArray) (xa (vs:=[]) yl rfl Bld.nil) rfl) (wd (zk rfl) ?_)))
  refine wsT rfl rfl (S.blk 0) fun w16 B hw16 zw16=>?_
  replace S:=S.store 0 B hw16
  refine wd (zh rfl) (zd (zr ?_))
  replace S:=S.nilTm
  refine ⟨_,(xm (rtT rfl (S.blk 0)) (zf rfl)),?_⟩
  replace S:=S.arr [] [0]
  obtain rfl:=zaq H
  exact ⟨SlV.nil,rfl,S⟩
 replace H:=if_f hc15 H
 refine zw (zb (zb (za (wd (zW rfl) ?_))))
 obtain ⟨r17,er17,H⟩ := zp H
 obtain ⟨_,_,T,bk⟩ := S.calln 0 ((.nil))
 refine zA (zx j3) zam (formula_Word_st T er17) ?_
 rintro _ w18 ⟨rfl,S2⟩
 replace S:=bk _ _ _ _ S2 rfl
 refine wd (xf rfl) (zd ?_)
 refine zI rfl (fun hc20=>?_) (fun hc20=>?_)
 ·replace H:=if_t hc20 H
  refine zb (za (wd (Does.to (v' := .agg (Term.C tmZ).toArray) (xa (vs:=[]) yl rfl Bld.nil) rfl) ?_))
  refine wsT rfl rfl (S.blk 0) fun w21 B hw21 zw21=>?_
  replace S:=S.store 0 B hw21
  refine wd (zh rfl) (zd (zr ?_))
  replace S:=S.nilTm
  refine ⟨_,(xm (rtT rfl (S.blk 0)) (zf rfl)),?_⟩
  replace S:=S.arr [] [0]
  obtain rfl:=zaq H
  exact ⟨SlV.nil,rfl,S⟩
 replace H:=if_f hc20 H
 refine zw (zb ?_)
 refine x0 11 (Ext w18) hmix zap zap (Ext.drawn _) (zC (fun v K=>zt z1 rfl (((S.ext K).blk 2).all _ (Term.len _)) (Term.len _)) (zC (fun v K=>zW rfl) (zC (fun v K=>zt z1 rfl (((S.ext K).blk 1).all _ (Term.len _)) (Term.len _)) ?_)))
 obtain ⟨r22,er22,H⟩ := zp H
 refine wq_call (fun v=>zx ca_term_Size) (fun v K=>(have ⟨M,SS⟩ := (S.ext K).lend ((.z 1 rfl .nil)); quiet (term_Size_st (a0:=a2) SS er22) (fun v w' h=>⟨h.1,_,_,h.2⟩))) (fun v v' K h=>K.thenExt h) (zC (fun v K=>zt z1 rfl (((S.ext K).blk 1).all _ (Term.len _)) (Term.len _)) ?_)
 obtain ⟨r23,er23,H⟩ := zp H
 refine wq_call (fun v=>zx ca_term_Deep) (fun v K=>(have ⟨M,SS⟩ := (S.ext K).lend ((.z 1 rfl .nil)); quiet (term_Deep_st (a0:=a2) SS er23) (fun v w' h=>⟨h.1,_,_,h.2⟩))) (fun v v' K h=>K.thenExt h) ?_
 obtain ⟨r24,er24,H⟩ := zp H
 refine wq_call (fun v=>zx ca_term_grown) (fun v K=>(have ⟨M,SS⟩ := (S.ext K).lend ((.z 0 rfl .nil)); quiet (term_grown_st (a0:=a0) SS er24) (fun v w' h=>⟨h.1,_,_,h.2⟩))) (fun v v' K h=>K.thenExt h) (zC (fun v K=>xb rfl) (zC (fun v K=>zo rfl rfl) (zC (fun v K=>zo rfl rfl) (zC (fun v K=>zh rfl) ?_))))
 refine vj fun w25 K=>?_
 replace S:=S.ext K
 clear K
 refine wd (zh rfl) (zd (zb (zb (za (wd (zk rfl) (wd (jL rfl rfl) (wd (zy rfl) ?_)))))))
 refine wg (fun hg=>zk rfl) ?_
 refine wg (fun hg=>jL (zn hg) rfl) (wd (xv rfl (fun hp=>(zn (xl hp)))) (zd ?_))
 refine zI rfl (fun hc26=>?_) (fun hc26=>?_)
 ·replace H:=if_t hc26 H
  refine zb (za (wd (Does.to (v' := .agg (Term.C tmZ).toArray) (xa (vs:=[]) yl rfl Bld.nil) rfl) ?_))
  refine wsT rfl rfl (S.blk 0) fun w27 B hw27 zw27=>?_
  replace S:=S.store 0 B hw27
  refine wd (zh rfl) (zd (zr ?_))
  replace S:=S.nilTm
  refine ⟨_,(xm (rtT rfl (S.blk 0)) (zf rfl)),?_⟩
  replace S:=S.arr [] [0]
  obtain rfl:=zaq H
  exact ⟨SlV.nil,rfl,S⟩
 replace H:=if_f hc26 H
 refine zw (zb ?_)
 obtain ⟨r29,er29,H⟩ := zp H
 let LT1:List OA:=[oB b6 zm (Term.C tmZ),oB b4 zm (tmC a2 s_2),oB b2 zm (tmC a0 s_0)]
 refine yX 5 ⟨fun _ _=>True,fun _ _ _=>True,fun i v _=>match i with
  | 0=>v=Value.agg (tmC a0 s_0).toArray
  | 1=>v=Value.string a1
  | 2=>v=Value.agg (tmC a2 s_2).toArray
  | 3=>v=Value.agg (tmC a2 s_2).toArray
  | _=>True⟩ (fun L g v => ∃ m32:Nat,∃ O34:List OA,∃ Z33:List OA,(∀ z ∈ [ze s_0 a0.sub,ze s_2 a2.sub,oPw],z ∈ Z33)∧(L 4=true→g 49=Value.map (some m32))∧O34=((bif L 4 then [oMS m32 r29] else []) ++ LT1)∧St A N w v O34 Z33) hmix zap (fun _ _ _ _ _ _ _ hv=>hv) (fun g=>⟨0,_,_,fun _ h=>h,(fun h=>by cases h),rfl,S.ext (Ext.drawn _)⟩) ⟨?_,?_,?_,?_,?_,trivial⟩ ?_
 ·rintro L g v hL hcl hclo ⟨m32,O34,Z33,hZ,hk4,hO,S⟩ 
  have SR:St A N w v LT1 (ze s_0 a0.sub :: ze s_2 a2.sub :: oPw :: Z33):=by
   have S2:=S.zneed hZ
   rw [hO] at S2
   exact S2.drops
  refine wd (ldT rfl (SR.blk 2)) ?_
  exact w4 rfl ⟨m32,O34,Z33,hZ,(kpU hk4),by rw [hO]; simp only [pN L 0 4],S⟩
 ·rintro L g v hL hcl hclo ⟨m32,O34,Z33,hZ,hk4,hO,S⟩ 
  have SR:St A N w v LT1 (ze s_0 a0.sub :: ze s_2 a2.sub :: oPw :: Z33):=by
   have S2:=S.zneed hZ
   rw [hO] at S2
   exact S2.drops
  refine wd (zW rfl) ?_
  exact w4 rfl ⟨m32,O34,Z33,hZ,(kpU hk4),by rw [hO]; simp only [pN L 1 4],S⟩
 ·rintro L g v hL hcl hclo ⟨m32,O34,Z33,hZ,hk4,hO,S⟩ 
  have SR:St A N w v LT1 (ze s_0 a0.sub :: ze s_2 a2.sub :: oPw :: Z33):=by
   have S2:=S.zneed hZ
   rw [hO] at S2
   exact S2.drops
  refine wd (ldT rfl (SR.blk 1)) ?_
  exact w4 rfl ⟨m32,O34,Z33,hZ,(kpU hk4),by rw [hO]; simp only [pN L 2 4],S⟩
 ·rintro L g v hL hcl hclo ⟨m32,O34,Z33,hZ,hk4,hO,S⟩ 
  have hl4:=clF hL (hclo 4 3 · zap)
  have SR:St A N w v LT1 (ze s_0 a0.sub :: ze s_2 a2.sub :: oPw :: Z33):=by
   have S2:=S.zneed hZ
   rw [hO] at S2
   simp only [hl4,cd2,la2] at S2
   exact S2
  refine wd (ldT rfl (SR.blk 1)) ?_
  exact w4 rfl ⟨m32,O34,Z33,hZ,(kpU hk4),by rw [hO]; simp only [pN L 3 4],S⟩
 ·rintro L g v hL hcl hclo ⟨m32,O34,Z33,hZ,hk4,hO,S⟩ hv3
  have hl4:L 4=false:=hL
  have hOP : ∃ P Y,P=[]∧Y=LT1∧O34=P ++ ([] ++ Y):=⟨_,_,rfl,rfl,by rw [hO]; simp only [hl4,cd2,la2]⟩
  obtain ⟨P,Y,hP,hY,hPY⟩ := hOP
  rw [hPY] at S
  replace S:=(S.zneed hZ)
  obtain ⟨_,_,T,bk⟩ := S.calln 0 ((.z 1 rfl .nil))
  refine zA (zK kA (zN hv3 rfl)) zam (kG (a0:=a2) T er29) ?_
  rintro _ w36 ⟨m38,rfl,S2⟩
  replace S:=bk _ _ _ _ S2 rfl
  refine w4 trivial ⟨m38,P ++ ([oMS m38 r29] ++ Y),_,(fun z h=>tl3 z (hZ z h)),(fun _=>upd_same _ _ _),?_,S.ins (P:=[oMS m38 r29])⟩
  rw [hP,hY]; simp only [xR (L:=L) (i:=4),cd2,la2]
 rintro L g w39 hLm ⟨m32,O34,Z33,hZ,hk4,hO,S⟩ hv40_0 hv40_1 hv40_2 hv40_3 _
 have hLt : ∀ j,j < 5→L j=true:=fun j hj=>by rw [hLm]; exact decide_eq_true hj
 have hv40_4:=hk4 (hLt 4 zam)
 simp only [hLt 4 zam,cond_true,List.nil_append,List.cons_append] at hO
 rw [hO] at S
 replace S:=S.pickZ hZ
 clear  hZ 
 obtain ⟨r41,er41,H⟩ := zp H
 replace S:=S.frzO 0
 obtain ⟨_,_,T,bk⟩ := S.sub [1,2,0,3] [] LT1
 refine zA (zK ca_term_put (zN hv40_0 (zN hv40_1 (zN hv40_2 (zN hv40_4 rfl))))) zam (term_put_st (a0:=a0) (a2:=a2) T er41) ?_
 rintro _ w42 ⟨s44,rfl,S2⟩
 replace S:=bk _ _ _ _ _ S2 rfl rfl
 refine wsT rfl rfl (S.blk 0) fun w45 B hw45 zw45=>?_
 replace S:=S.store 0 B hw45
 refine wd (zh rfl) (zd (zr ?_))
 refine ⟨_,(xm (rtT rfl (S.blk 0)) (zf rfl)),?_⟩
 replace S:=S.arr [] [0]
 obtain rfl:=zaq H
 exact ⟨s44,rfl,S⟩
theorem reduce_rules_2_st {a0:Tb} {a_0:Option Addr} {a1:PTerm} {s_1:SlV} (S:St A N w w [] [oT a_0 a0,ze s_1 a1.sub,oPw]) {k:Nat} {r:PTerm × Int} (H:zbt.f k a0 a1=some r) :
  Calls PP y7 #[.pointer a_0,.agg (tmC a1 s_1).toArray] w <| Rt fun v w'=>(∃ so0:SlV,v = .tuple #[.agg (tmC r.1 so0).toArray,.int .i64 r.2]∧St A N w w' [] [ze so0 r.1.sub]):=by
 unfold zbt.f at H
 refine zu (n:=25) Tryz.func105 rfl rfl zao (zb (za ?_))
 refine zH rfl zam fun b2 w1 hw1=>?_
 replace S:=S.new hw1
 refine zQ xn zam fun b4 w3 hw3=>?_
 replace S:=S.new hw3
 refine wd (zh rfl) (zd (zb ?_))
 refine wc_ws hmix fun w16 K=>?_
 replace S:=S.ext K
 clear K
 obtain ⟨hi17,H⟩ := zX H
 obtain ⟨s18,hc19,S⟩ := S.viewTerm 1 (zG hi17)
 replace S:=S.zs [1,2,3,0]
 obtain ⟨hi20,H⟩ := zX H
 obtain ⟨s21,hc22,S⟩ := S.viewTerm 3 (zG hi20)
 replace S:=S.zs [1,2,3,4,0]
 obtain ⟨hi23,H⟩ := zX H
 obtain ⟨hi24,H⟩ := zX H
 obtain ⟨s25,hc26,S⟩ := S.viewTerm 1 (zG hi24)
 replace S:=S.zs [1,2,3,4,5,0]
 refine uL 0 16 [] zap zam zap
  (V:=fun i v u=>match i with
  | _=>True) ?_ ?_
 ·intro i v u u' hi hx hv
  match i,hv with
  | _,_=>exact trivial
 refine zT (fun v K=>zg zD rfl (o':=4) rfl) rfl (zT (fun v K=>zl zz rfl (((S.ext K).blk 1).cell (Term.get_sub _))) rfl (zT (fun v K=>does_indexF zq rfl rfl ((S.ext K).onZ 1) (zG hi17).1 (zG hi17).2) rfl (zT (fun v K=>zg zD rfl (o':=_) rfl) rfl (zT (fun v K=>zl zz rfl ((hc19.chg K (fun x=>x)).get (Term.get_sub _))) rfl (zT (fun v K=>does_indexF zq rfl rfl ((S.ext K).onZ 3) (zG hi20).1 (zG hi20).2) rfl ?_)))))
 refine zT (fun v K=>zt z1 rfl (hc22.chg K (fun x=>x)) (Term.len _)) rfl (zT (fun v K=>zg zD rfl (o':=4) rfl) rfl (zT (fun v K=>zl zz rfl (((S.ext K).blk 1).cell (Term.get_sub _))) rfl (zT (fun v K=>does_indexF zq rfl rfl ((S.ext K).onZ 1) (zG hi23).1 (zG hi23).2) rfl (zT (fun v K=>zg xW rfl (o':=_) rfl) rfl (zT (fun v K=>zl xt rfl (yB.get_name ((S.ext K).onZ 1) (zG hi23))) rfl ?_)))))
 refine zT (fun v K=>zg zD rfl (o':=4) rfl) rfl (zT (fun v K=>zl zz rfl (((S.ext K).blk 1).cell (Term.get_sub _))) rfl (zT (fun v K=>does_indexF zq rfl rfl ((S.ext K).onZ 1) (zG hi24).1 (zG hi24).2) rfl (zT (fun v K=>zt z1 rfl (hc26.chg K (fun x=>x)) (Term.len _)) rfl ?_)))
 refine kg fun g w27 K hV=>?_
 replace S:=S.ext K
 clear K hV
 refine zal 16 17 zap zam ?_
 obtain ⟨r29,er29,H⟩ := zp H
 obtain ⟨_,_,T,bk⟩ := S.sub [4,5,2] [] [oB b4 zm (Term.C tmZ),oB b2 zm (tmC a1 s_1)]
 refine zA (zx jU) zam (j1 (a0:=(kd (kd a1 0) 0)) (a2:=(kd a1 1)) T er29) ?_
 rintro _ w30 ⟨s32,rfl,S2⟩
 replace S:=bk _ _ _ _ _ S2 rfl rfl
 refine zd ⟨rfl,?_⟩
 refine uL 17 19 [] zap zam zap
  (V:=fun i v u=>match i with
  | _=>True) ?_ ?_
 ·intro i v u u' hi hx hv
  match i,hv with
  | _,_=>exact trivial
 refine zT (fun v K=>zo rfl rfl) rfl (zT (fun v K=>zo rfl rfl) rfl ?_)
 refine kg fun g w33 K hV=>?_
 replace S:=S.ext K
 clear K hV
 refine ws_tail 19 zap zam ?_
 refine wsT rfl rfl (S.blk 0) fun w35 B hw35 zw35=>?_
 replace S:=S.store 0 B hw35
 refine wd (zh rfl) (zd (zr ?_))
 refine ⟨_,(xm (rtT rfl (S.blk 0)) (zf rfl)),?_⟩
 replace S:=S.arr [] [0]
 obtain rfl:=zaq H
 exact ⟨s32,rfl,S⟩
theorem reduce_rules_4_st {a0:Tb} {a_0:Option Addr} {a1:PTerm} {s_1:SlV} (S:St A N w w [] [oT a_0 a0,ze s_1 a1.sub,oPw]) {k:Nat} {r:PTerm × Int} (H:zbu.f k a0 a1=some r) :
  Calls PP y8 #[.pointer a_0,.agg (tmC a1 s_1).toArray] w <| Rt fun v w'=>(∃ so0:SlV,v = .tuple #[.agg (tmC r.1 so0).toArray,.int .i64 r.2]∧St A N w w' [] [ze so0 r.1.sub]):=by
 unfold zbu.f at H
 refine zu (n:=40) Tryz.func109 rfl rfl zao (zb (za ?_))
 refine zH rfl zam fun b2 w1 hw1=>?_
 replace S:=S.new hw1
 refine zQ xn zam fun b4 w3 hw3=>?_
 replace S:=S.new hw3
 refine wd (zh rfl) (zd (zb (za (wd (zg zD rfl (o':=4) rfl) (wd (zl zz rfl ((S.blk 1).cell (Term.get_sub _))) ?_)))))
 obtain ⟨hi5,H⟩ := zX H
 refine wd (does_indexF zq rfl rfl (S.onZ 1) (zG hi5).1 (zG hi5).2) (wd (zg zD rfl (o':=_) rfl) ?_)
 obtain ⟨s6,hc7,S⟩ := S.viewTerm 1 (zG hi5)
 replace S:=S
 refine wd (zl zz rfl (hc7.get (Term.get_sub _))) ?_
 obtain ⟨hi8,H⟩ := zX H
 refine wd (does_indexF zq rfl rfl (S.onZ 0) (zG hi8).1 (zG hi8).2) ?_
 obtain ⟨s9,hc10,S⟩ := S.viewTerm 0 (zG hi8)
 replace S:=S
 refine wd (ldC rfl hc10) ?_
 refine zQ xn zam fun b12 w11 hw11=>?_
 replace S:=S.new hw11
 refine wsT rfl rfl (S.blk 0) fun w13 B hw13 zw13=>?_
 replace S:=S.store 0 B hw13
 refine zd (zb ?_)
 obtain ⟨hi22,H⟩ := zX H
 obtain ⟨hi24,H⟩ := zX H
 obtain ⟨r26,er26,H⟩ := zp H
 obtain ⟨r29,er29,H⟩ := zp H
 obtain ⟨r33,er33,H⟩ := zp H
 obtain ⟨s23,S⟩ := S.viewTermC 0 (zG hi22)
 replace S:=S
 obtain ⟨s25,S⟩ := S.viewTermC 5 (zG hi24)
 replace S:=S.zs [4,5,6,7,8,2,3,0,1]
 let LT2:List OA:=[oB b12 zm (tmC (kd (kd a1 0) 0) s9),oB b4 zm (Term.C tmZ),oB b2 zm (tmC a1 s_1)]
 refine yX 20 ⟨fun _ _=>True,fun _ _ _=>True,fun i v _=>match i with
  | 0=>v=Value.pointer (some ⟨b12,4,none⟩)
  | 1=>v=s9.v
  | 2=>v=Value.pointer (some ⟨s9.blk,s9.off + Int.toNat 0 * 5,none⟩)
  | 3=>v=Value.agg (tmC (kd (kd (kd a1 0) 0) 0) s23).toArray
  | 4=>v=Value.pointer (some ⟨b12,1,none⟩)
  | 5=>v=Value.string ((kd (kd a1 0) 0).name)
  | 6=>v=Value.pointer (some ⟨b2,4,none⟩)
  | 7=>v=s_1.v
  | 8=>v=Value.pointer (some ⟨s_1.blk,s_1.off + Int.toNat 1 * 5,none⟩)
  | 9=>v=Value.agg (tmC (kd a1 1) s25).toArray
  | 10=>v=Value.pointer a_0
  | 11=>v=Value.agg (tmC a1 s_1).toArray
  | 12=>v=Value.int .i64 r26
  | 17=>v=Value.int .i64 r33.2
  | _=>True⟩ (fun L g v => ∃ b38:Nat,∃ s40:SlV,∃ O42:List OA,∃ Z41:List OA,(∀ z ∈ [ze s9 ((kd (kd a1 0) 0).sub),ze s6 ((kd a1 0).sub),oT a_0 a0,ze s_1 a1.sub,oPw,oCl s9.blk (s9.off + Int.toNat 0 * 5) (tmC (kd (kd (kd a1 0) 0) 0) s23),ze s23 ((kd (kd (kd a1 0) 0) 0).sub),oCl s_1.blk (s_1.off + Int.toNat 1 * 5) (tmC (kd a1 1) s25),ze s25 ((kd a1 1).sub)],z ∈ Z41)∧Made L g Z41 13 30 (fun (c:SlV)=>Value.agg (tmC r29 c).toArray) (fun (c:SlV)=>[ze c r29.sub])∧Made L g Z41 14 31 (fun (c:SlV)=>Value.tuple #[.agg (tmC r33.1 c).toArray,.int .i64 r33.2]) (fun (c:SlV)=>[ze c r33.1.sub])∧Made L g Z41 15 16 (fun (c:SlV)=>Value.tuple #[.agg (tmC r33.1 c).toArray,.int .i64 r33.2]) (fun (c:SlV)=>[ze c r33.1.sub])∧Made L g Z41 16 32 (fun (c:SlV)=>Value.agg (tmC r33.1 c).toArray) (fun (c:SlV)=>[ze c r33.1.sub])∧(L 18=true→g 7=Value.pointer (some ⟨b38,0,none⟩))∧(L 19=true → ∀ z ∈ [ze s40 r33.1.sub],z ∈ Z41)∧O42=((bif L 19 then [oB b38 zm (tmC r33.1 s40)] else (bif L 18 then [oB b38 zm (Term.C tmZ)] else [])) ++ LT2)∧St A N w v O42 Z41) hmix zap (fun _ _ _ _ _ _ _ hv=>hv) (fun g=>⟨0,SlV.nil,_,_,fun _ h=>h,Made.no,Made.no,Made.no,Made.no,(fun h=>by cases h),(fun h=>by cases h),rfl,S.ext (Ext.drawn _)⟩) ⟨?_,?_,?_,?_,?_,?_,?_,?_,?_,?_,?_,?_,?_,?_,?_,?_,?_,?_,?_,?_,trivial⟩ ?_
 ·rintro L g v hL hcl hclo ⟨b38,s40,O42,Z41,hZ,hm13,hm14,hm15,hm16,hk18,hq19,hO,S⟩ 
  have hl19:=clF hL (hclo 19 0 · zap)
  have SR:St A N w v LT2 (ze s9 ((kd (kd a1 0) 0).sub) :: ze s6 ((kd a1 0).sub) :: oT a_0 a0 :: ze s_1 a1.sub :: oPw :: oCl s9.blk (s9.off + Int.toNat 0 * 5) (tmC (kd (kd (kd a1 0) 0) 0) s23) :: ze s23 ((kd (kd (kd a1 0) 0) 0).sub) :: oCl s_1.blk (s_1.off + Int.toNat 1 * 5) (tmC (kd a1 1) s25) :: ze s25 ((kd a1 1).sub) :: Z41):=by
   have S2:=S.zneed hZ
   rw [hO] at S2
   simp only [hl19,cd2,la2] at S2
   exact S2.drops
  refine wd (zg zD rfl (o':=4) rfl) ?_
  exact w4 rfl ⟨b38,s40,O42,Z41,hZ,hm13.keep rfl rfl tl0,hm14.keep rfl rfl tl0,hm15.keep rfl rfl tl0,hm16.keep rfl rfl tl0,(kpU hk18),(kpZ tl0 hq19),by rw [hO]; simp only [pN L 0 18,pN L 0 19],S⟩
 ·rintro L g v hL hcl hclo ⟨b38,s40,O42,Z41,hZ,hm13,hm14,hm15,hm16,hk18,hq19,hO,S⟩ hv0
  have hl19:=clF hL (hclo 19 1 · zap)
  have SR:St A N w v LT2 (ze s9 ((kd (kd a1 0) 0).sub) :: ze s6 ((kd a1 0).sub) :: oT a_0 a0 :: ze s_1 a1.sub :: oPw :: oCl s9.blk (s9.off + Int.toNat 0 * 5) (tmC (kd (kd (kd a1 0) 0) 0) s23) :: ze s23 ((kd (kd (kd a1 0) 0) 0).sub) :: oCl s_1.blk (s_1.off + Int.toNat 1 * 5) (tmC (kd a1 1) s25) :: ze s25 ((kd a1 1).sub) :: Z41):=by
   have S2:=S.zneed hZ
   rw [hO] at S2
   simp only [hl19,cd2,la2] at S2
   exact S2.drops
  refine wd (zl zz hv0 ((SR.blk 0).cell (Term.get_sub _))) ?_
  exact w4 rfl ⟨b38,s40,O42,Z41,hZ,hm13.keep rfl rfl tl0,hm14.keep rfl rfl tl0,hm15.keep rfl rfl tl0,hm16.keep rfl rfl tl0,(kpU hk18),(kpZ tl0 hq19),by rw [hO]; simp only [pN L 1 18,pN L 1 19],S⟩
 ·rintro L g v hL hcl hclo ⟨b38,s40,O42,Z41,hZ,hm13,hm14,hm15,hm16,hk18,hq19,hO,S⟩ hv1
  have hl19:=clF hL (hclo 19 2 · zap)
  have SR:St A N w v LT2 (ze s9 ((kd (kd a1 0) 0).sub) :: ze s6 ((kd a1 0).sub) :: oT a_0 a0 :: ze s_1 a1.sub :: oPw :: oCl s9.blk (s9.off + Int.toNat 0 * 5) (tmC (kd (kd (kd a1 0) 0) 0) s23) :: ze s23 ((kd (kd (kd a1 0) 0) 0).sub) :: oCl s_1.blk (s_1.off + Int.toNat 1 * 5) (tmC (kd a1 1) s25) :: ze s25 ((kd a1 1).sub) :: Z41):=by
   have S2:=S.zneed hZ
   rw [hO] at S2
   simp only [hl19,cd2,la2] at S2
   exact S2.drops
  refine wd (does_indexF zq hv1 rfl (SR.onZ 0) (zG hi22).1 (zG hi22).2) ?_
  exact w4 rfl ⟨b38,s40,O42,Z41,hZ,hm13.keep rfl rfl tl0,hm14.keep rfl rfl tl0,hm15.keep rfl rfl tl0,hm16.keep rfl rfl tl0,(kpU hk18),(kpZ tl0 hq19),by rw [hO]; simp only [pN L 2 18,pN L 2 19],S⟩
 ·rintro L g v hL hcl hclo ⟨b38,s40,O42,Z41,hZ,hm13,hm14,hm15,hm16,hk18,hq19,hO,S⟩ hv2
  have hl19:=clF hL (hclo 19 3 · zap)
  have SR:St A N w v LT2 (ze s9 ((kd (kd a1 0) 0).sub) :: ze s6 ((kd a1 0).sub) :: oT a_0 a0 :: ze s_1 a1.sub :: oPw :: oCl s9.blk (s9.off + Int.toNat 0 * 5) (tmC (kd (kd (kd a1 0) 0) 0) s23) :: ze s23 ((kd (kd (kd a1 0) 0) 0).sub) :: oCl s_1.blk (s_1.off + Int.toNat 1 * 5) (tmC (kd a1 1) s25) :: ze s25 ((kd a1 1).sub) :: Z41):=by
   have S2:=S.zneed hZ
   rw [hO] at S2
   simp only [hl19,cd2,la2] at S2
   exact S2.drops
  refine wd (zt z1 hv2 (SR.cl 5) (Term.len _)) ?_
  exact w4 rfl ⟨b38,s40,O42,Z41,hZ,hm13.keep rfl rfl tl0,hm14.keep rfl rfl tl0,hm15.keep rfl rfl tl0,hm16.keep rfl rfl tl0,(kpU hk18),(kpZ tl0 hq19),by rw [hO]; simp only [pN L 3 18,pN L 3 19],S⟩
 ·rintro L g v hL hcl hclo ⟨b38,s40,O42,Z41,hZ,hm13,hm14,hm15,hm16,hk18,hq19,hO,S⟩ 
  have hl19:=clF hL (hclo 19 4 · zap)
  have SR:St A N w v LT2 (ze s9 ((kd (kd a1 0) 0).sub) :: ze s6 ((kd a1 0).sub) :: oT a_0 a0 :: ze s_1 a1.sub :: oPw :: oCl s9.blk (s9.off + Int.toNat 0 * 5) (tmC (kd (kd (kd a1 0) 0) 0) s23) :: ze s23 ((kd (kd (kd a1 0) 0) 0).sub) :: oCl s_1.blk (s_1.off + Int.toNat 1 * 5) (tmC (kd a1 1) s25) :: ze s25 ((kd a1 1).sub) :: Z41):=by
   have S2:=S.zneed hZ
   rw [hO] at S2
   simp only [hl19,cd2,la2] at S2
   exact S2.drops
  refine wd (zg xW rfl (o':=1) rfl) ?_
  exact w4 rfl ⟨b38,s40,O42,Z41,hZ,hm13.keep rfl rfl tl0,hm14.keep rfl rfl tl0,hm15.keep rfl rfl tl0,hm16.keep rfl rfl tl0,(kpU hk18),(kpZ tl0 hq19),by rw [hO]; simp only [pN L 4 18,pN L 4 19],S⟩
 ·rintro L g v hL hcl hclo ⟨b38,s40,O42,Z41,hZ,hm13,hm14,hm15,hm16,hk18,hq19,hO,S⟩ hv4
  have hl19:=clF hL (hclo 19 5 · zap)
  have SR:St A N w v LT2 (ze s9 ((kd (kd a1 0) 0).sub) :: ze s6 ((kd a1 0).sub) :: oT a_0 a0 :: ze s_1 a1.sub :: oPw :: oCl s9.blk (s9.off + Int.toNat 0 * 5) (tmC (kd (kd (kd a1 0) 0) 0) s23) :: ze s23 ((kd (kd (kd a1 0) 0) 0).sub) :: oCl s_1.blk (s_1.off + Int.toNat 1 * 5) (tmC (kd a1 1) s25) :: ze s25 ((kd a1 1).sub) :: Z41):=by
   have S2:=S.zneed hZ
   rw [hO] at S2
   simp only [hl19,cd2,la2] at S2
   exact S2.drops
  refine wd (zl xt hv4 ((SR.blk 0).cell (Term.get_name _))) ?_
  exact w4 rfl ⟨b38,s40,O42,Z41,hZ,hm13.keep rfl rfl tl0,hm14.keep rfl rfl tl0,hm15.keep rfl rfl tl0,hm16.keep rfl rfl tl0,(kpU hk18),(kpZ tl0 hq19),by rw [hO]; simp only [pN L 5 18,pN L 5 19],S⟩
 ·rintro L g v hL hcl hclo ⟨b38,s40,O42,Z41,hZ,hm13,hm14,hm15,hm16,hk18,hq19,hO,S⟩ 
  have hl19:=clF hL (hclo 19 6 · zap)
  have SR:St A N w v LT2 (ze s9 ((kd (kd a1 0) 0).sub) :: ze s6 ((kd a1 0).sub) :: oT a_0 a0 :: ze s_1 a1.sub :: oPw :: oCl s9.blk (s9.off + Int.toNat 0 * 5) (tmC (kd (kd (kd a1 0) 0) 0) s23) :: ze s23 ((kd (kd (kd a1 0) 0) 0).sub) :: oCl s_1.blk (s_1.off + Int.toNat 1 * 5) (tmC (kd a1 1) s25) :: ze s25 ((kd a1 1).sub) :: Z41):=by
   have S2:=S.zneed hZ
   rw [hO] at S2
   simp only [hl19,cd2,la2] at S2
   exact S2.drops
  refine wd (zg zD rfl (o':=4) rfl) ?_
  exact w4 rfl ⟨b38,s40,O42,Z41,hZ,hm13.keep rfl rfl tl0,hm14.keep rfl rfl tl0,hm15.keep rfl rfl tl0,hm16.keep rfl rfl tl0,(kpU hk18),(kpZ tl0 hq19),by rw [hO]; simp only [pN L 6 18,pN L 6 19],S⟩
 ·rintro L g v hL hcl hclo ⟨b38,s40,O42,Z41,hZ,hm13,hm14,hm15,hm16,hk18,hq19,hO,S⟩ hv6
  have hl19:=clF hL (hclo 19 7 · zap)
  have SR:St A N w v LT2 (ze s9 ((kd (kd a1 0) 0).sub) :: ze s6 ((kd a1 0).sub) :: oT a_0 a0 :: ze s_1 a1.sub :: oPw :: oCl s9.blk (s9.off + Int.toNat 0 * 5) (tmC (kd (kd (kd a1 0) 0) 0) s23) :: ze s23 ((kd (kd (kd a1 0) 0) 0).sub) :: oCl s_1.blk (s_1.off + Int.toNat 1 * 5) (tmC (kd a1 1) s25) :: ze s25 ((kd a1 1).sub) :: Z41):=by
   have S2:=S.zneed hZ
   rw [hO] at S2
   simp only [hl19,cd2,la2] at S2
   exact S2.drops
  refine wd (zl zz hv6 ((SR.blk 2).cell (Term.get_sub _))) ?_
  exact w4 rfl ⟨b38,s40,O42,Z41,hZ,hm13.keep rfl rfl tl0,hm14.keep rfl rfl tl0,hm15.keep rfl rfl tl0,hm16.keep rfl rfl tl0,(kpU hk18),(kpZ tl0 hq19),by rw [hO]; simp only [pN L 7 18,pN L 7 19],S⟩
 ·rintro L g v hL hcl hclo ⟨b38,s40,O42,Z41,hZ,hm13,hm14,hm15,hm16,hk18,hq19,hO,S⟩ hv7
  have hl19:=clF hL (hclo 19 8 · zap)
  have SR:St A N w v LT2 (ze s9 ((kd (kd a1 0) 0).sub) :: ze s6 ((kd a1 0).sub) :: oT a_0 a0 :: ze s_1 a1.sub :: oPw :: oCl s9.blk (s9.off + Int.toNat 0 * 5) (tmC (kd (kd (kd a1 0) 0) 0) s23) :: ze s23 ((kd (kd (kd a1 0) 0) 0).sub) :: oCl s_1.blk (s_1.off + Int.toNat 1 * 5) (tmC (kd a1 1) s25) :: ze s25 ((kd a1 1).sub) :: Z41):=by
   have S2:=S.zneed hZ
   rw [hO] at S2
   simp only [hl19,cd2,la2] at S2
   exact S2.drops
  refine wd (does_indexF zq hv7 rfl (SR.onZ 3) (zG hi24).1 (zG hi24).2) ?_
  exact w4 rfl ⟨b38,s40,O42,Z41,hZ,hm13.keep rfl rfl tl0,hm14.keep rfl rfl tl0,hm15.keep rfl rfl tl0,hm16.keep rfl rfl tl0,(kpU hk18),(kpZ tl0 hq19),by rw [hO]; simp only [pN L 8 18,pN L 8 19],S⟩
 ·rintro L g v hL hcl hclo ⟨b38,s40,O42,Z41,hZ,hm13,hm14,hm15,hm16,hk18,hq19,hO,S⟩ hv8
  have hl19:=clF hL (hclo 19 9 · zap)
  have SR:St A N w v LT2 (ze s9 ((kd (kd a1 0) 0).sub) :: ze s6 ((kd a1 0).sub) :: oT a_0 a0 :: ze s_1 a1.sub :: oPw :: oCl s9.blk (s9.off + Int.toNat 0 * 5) (tmC (kd (kd (kd a1 0) 0) 0) s23) :: ze s23 ((kd (kd (kd a1 0) 0) 0).sub) :: oCl s_1.blk (s_1.off + Int.toNat 1 * 5) (tmC (kd a1 1) s25) :: ze s25 ((kd a1 1).sub) :: Z41):=by
   have S2:=S.zneed hZ
   rw [hO] at S2
   simp only [hl19,cd2,la2] at S2
   exact S2.drops
  refine wd (zt z1 hv8 (SR.cl 7) (Term.len _)) ?_
  exact w4 rfl ⟨b38,s40,O42,Z41,hZ,hm13.keep rfl rfl tl0,hm14.keep rfl rfl tl0,hm15.keep rfl rfl tl0,hm16.keep rfl rfl tl0,(kpU hk18),(kpZ tl0 hq19),by rw [hO]; simp only [pN L 9 18,pN L 9 19],S⟩
 ·rintro L g v hL hcl hclo ⟨b38,s40,O42,Z41,hZ,hm13,hm14,hm15,hm16,hk18,hq19,hO,S⟩ 
  have hl19:=clF hL (hclo 19 10 · zap)
  have SR:St A N w v LT2 (ze s9 ((kd (kd a1 0) 0).sub) :: ze s6 ((kd a1 0).sub) :: oT a_0 a0 :: ze s_1 a1.sub :: oPw :: oCl s9.blk (s9.off + Int.toNat 0 * 5) (tmC (kd (kd (kd a1 0) 0) 0) s23) :: ze s23 ((kd (kd (kd a1 0) 0) 0).sub) :: oCl s_1.blk (s_1.off + Int.toNat 1 * 5) (tmC (kd a1 1) s25) :: ze s25 ((kd a1 1).sub) :: Z41):=by
   have S2:=S.zneed hZ
   rw [hO] at S2
   simp only [hl19,cd2,la2] at S2
   exact S2.drops
  refine wd (zB rfl) ?_
  exact w4 rfl ⟨b38,s40,O42,Z41,hZ,hm13.keep rfl rfl tl0,hm14.keep rfl rfl tl0,hm15.keep rfl rfl tl0,hm16.keep rfl rfl tl0,(kpU hk18),(kpZ tl0 hq19),by rw [hO]; simp only [pN L 10 18,pN L 10 19],S⟩
 ·rintro L g v hL hcl hclo ⟨b38,s40,O42,Z41,hZ,hm13,hm14,hm15,hm16,hk18,hq19,hO,S⟩ 
  have hl19:=clF hL (hclo 19 11 · zap)
  have SR:St A N w v LT2 (ze s9 ((kd (kd a1 0) 0).sub) :: ze s6 ((kd a1 0).sub) :: oT a_0 a0 :: ze s_1 a1.sub :: oPw :: oCl s9.blk (s9.off + Int.toNat 0 * 5) (tmC (kd (kd (kd a1 0) 0) 0) s23) :: ze s23 ((kd (kd (kd a1 0) 0) 0).sub) :: oCl s_1.blk (s_1.off + Int.toNat 1 * 5) (tmC (kd a1 1) s25) :: ze s25 ((kd a1 1).sub) :: Z41):=by
   have S2:=S.zneed hZ
   rw [hO] at S2
   simp only [hl19,cd2,la2] at S2
   exact S2.drops
  refine wd (ldT rfl (SR.blk 2)) ?_
  exact w4 rfl ⟨b38,s40,O42,Z41,hZ,hm13.keep rfl rfl tl0,hm14.keep rfl rfl tl0,hm15.keep rfl rfl tl0,hm16.keep rfl rfl tl0,(kpU hk18),(kpZ tl0 hq19),by rw [hO]; simp only [pN L 11 18,pN L 11 19],S⟩
 ·rintro L g v hL hcl hclo ⟨b38,s40,O42,Z41,hZ,hm13,hm14,hm15,hm16,hk18,hq19,hO,S⟩ hv10 hv11
  have hl19:=clF hL (hclo 19 12 · zap)
  have SR:St A N w v LT2 (ze s9 ((kd (kd a1 0) 0).sub) :: ze s6 ((kd a1 0).sub) :: oT a_0 a0 :: ze s_1 a1.sub :: oPw :: oCl s9.blk (s9.off + Int.toNat 0 * 5) (tmC (kd (kd (kd a1 0) 0) 0) s23) :: ze s23 ((kd (kd (kd a1 0) 0) 0).sub) :: oCl s_1.blk (s_1.off + Int.toNat 1 * 5) (tmC (kd a1 1) s25) :: ze s25 ((kd a1 1).sub) :: Z41):=by
   have S2:=S.zneed hZ
   rw [hO] at S2
   simp only [hl19,cd2,la2] at S2
   exact S2.drops
  refine (have ⟨M,SS⟩ := SR.lend ((.z 2 rfl (.z 3 rfl .nil))); zA (zK ji (zN hv10 (zN hv11 (zN rfl rfl)))) zam (quiet (jp SS er26) (fun v w' h=>⟨h.1,_,_,h.2⟩)) ?_)
  rintro _ v2 ⟨rfl,hx⟩
  exact w4 rfl ⟨b38,s40,O42,Z41,hZ,hm13.keep rfl rfl tl0,hm14.keep rfl rfl tl0,hm15.keep rfl rfl tl0,hm16.keep rfl rfl tl0,(kpU hk18),(kpZ tl0 hq19),by rw [hO]; simp only [pN L 12 18,pN L 12 19],S.ext hx⟩
 ·rintro L g v hL hcl hclo ⟨b38,s40,O42,Z41,hZ,hm13,hm14,hm15,hm16,hk18,hq19,hO,S⟩ hv9 hv12
  have hl19:=clF hL (hclo 19 13 · zap)
  replace S:=(S.zneed hZ)
  obtain ⟨_,_,T,bk⟩ := S.sub [8] [] (O42)
  refine zA (zK jK (zN hv9 (zN hv12 rfl))) zam (jM (a0:=(kd a1 1)) T er29) ?_
  rintro _ w46 ⟨s48,rfl,S2⟩
  replace S:=bk _ _ _ _ _ S2 rfl rfl
  exact w4 trivial ⟨b38,s40,O42,_,(fun z h=>tl10 z (hZ z h)),Made.one (val:=(fun (c:SlV)=>Value.agg (tmC r29 c).toArray)) (ps:=(fun (c:SlV)=>[ze c r29.sub])) s48 (xX List.mem_cons_self yw),hm14.keep rfl rfl tl10,hm15.keep rfl rfl tl10,hm16.keep rfl rfl tl10,(kpU hk18),(kpZ tl10 hq19),by rw [hO]; simp only [pN L 13 18,pN L 13 19],S⟩
 ·rintro L g v hL hcl hclo ⟨b38,s40,O42,Z41,hZ,hm13,hm14,hm15,hm16,hk18,hq19,hO,S⟩ hv3 hv5 _
  obtain ⟨s32,he13,hp13⟩ := hm13 (hcl 13 zap)
  have hl19:=clF hL (hclo 19 14 · zap)
  replace S:=(S.zneed (xD (l1:=[ze s32 r29.sub]) hp13 hZ))
  obtain ⟨_,_,T,bk⟩ := S.sub [7,0,5] [] (O42)
  refine zA (zK jU (zN hv3 (zN hv5 (zN he13 rfl)))) zam (j1 (a0:=(kd (kd (kd a1 0) 0) 0)) (a2:=r29) T er33) ?_
  rintro _ w50 ⟨s52,rfl,S2⟩
  replace S:=bk _ _ _ _ _ S2 rfl rfl
  exact w4 trivial ⟨b38,s40,O42,_,(fun z h=>tl11 z (hZ z h)),hm13.keep rfl rfl tl11,Made.one (val:=(fun (c:SlV)=>Value.tuple #[.agg (tmC r33.1 c).toArray,.int .i64 r33.2])) (ps:=(fun (c:SlV)=>[ze c r33.1.sub])) s52 (xX List.mem_cons_self yw),hm15.keep rfl rfl tl11,hm16.keep rfl rfl tl11,(kpU hk18),(kpZ tl11 hq19),by rw [hO]; simp only [pN L 14 18,pN L 14 19],S⟩
 ·rintro L g v hL hcl hclo ⟨b38,s40,O42,Z41,hZ,hm13,hm14,hm15,hm16,hk18,hq19,hO,S⟩ _
  obtain ⟨s36,he14,hp14⟩ := hm14 (hcl 14 zap)
  have hl19:=clF hL (hclo 19 15 · zap)
  replace S:=(S.zneed (xD (l1:=[ze s36 r33.1.sub]) hp14 hZ))
  refine wd (xb he14) ?_
  exact w4 trivial ⟨b38,s40,O42,_,(fun z h=>tl10 z (hZ z h)),hm13.keep rfl rfl tl10,hm14.keep rfl rfl tl10,Made.one (val:=(fun (c:SlV)=>Value.tuple #[.agg (tmC r33.1 c).toArray,.int .i64 r33.2])) (ps:=(fun (c:SlV)=>[ze c r33.1.sub])) s36 (xX List.mem_cons_self yw),hm16.keep rfl rfl tl10,(kpU hk18),(kpZ tl10 hq19),by rw [hO]; simp only [pN L 15 18,pN L 15 19],S⟩
 ·rintro L g v hL hcl hclo ⟨b38,s40,O42,Z41,hZ,hm13,hm14,hm15,hm16,hk18,hq19,hO,S⟩ _
  obtain ⟨s36,he15,hp15⟩ := hm15 (hcl 15 zap)
  have hl19:=clF hL (hclo 19 16 · zap)
  replace S:=(S.zneed (xD (l1:=[ze s36 r33.1.sub]) hp15 hZ))
  refine wd (zo he15 rfl) ?_
  exact w4 trivial ⟨b38,s40,O42,_,(fun z h=>tl10 z (hZ z h)),hm13.keep rfl rfl tl10,hm14.keep rfl rfl tl10,hm15.keep rfl rfl tl10,Made.one (val:=(fun (c:SlV)=>Value.agg (tmC r33.1 c).toArray)) (ps:=(fun (c:SlV)=>[ze c r33.1.sub])) s36 (xX List.mem_cons_self yw),(kpU hk18),(kpZ tl10 hq19),by rw [hO]; simp only [pN L 16 18,pN L 16 19],S⟩
 ·rintro L g v hL hcl hclo ⟨b38,s40,O42,Z41,hZ,hm13,hm14,hm15,hm16,hk18,hq19,hO,S⟩ _
  obtain ⟨s36,he15,hp15⟩ := hm15 (hcl 15 zap)
  have SR:St A N w v LT2 (ze s36 r33.1.sub :: ze s9 ((kd (kd a1 0) 0).sub) :: ze s6 ((kd a1 0).sub) :: oT a_0 a0 :: ze s_1 a1.sub :: oPw :: oCl s9.blk (s9.off + Int.toNat 0 * 5) (tmC (kd (kd (kd a1 0) 0) 0) s23) :: ze s23 ((kd (kd (kd a1 0) 0) 0).sub) :: oCl s_1.blk (s_1.off + Int.toNat 1 * 5) (tmC (kd a1 1) s25) :: ze s25 ((kd a1 1).sub) :: Z41):=by
   have S2:=S.zneed (xD (l1:=[ze s36 r33.1.sub]) hp15 hZ)
   rw [hO] at S2
   exact S2.drops
  refine wd (zo he15 rfl) ?_
  exact w4 rfl ⟨b38,s40,O42,Z41,hZ,hm13.keep rfl rfl tl0,hm14.keep rfl rfl tl0,hm15.keep rfl rfl tl0,hm16.keep rfl rfl tl0,(kpU hk18),(kpZ tl0 hq19),by rw [hO]; simp only [pN L 17 18,pN L 17 19],S⟩
 ·rintro L g v hL hcl hclo ⟨b38,s40,O42,Z41,hZ,hm13,hm14,hm15,hm16,hk18,hq19,hO,S⟩ 
  have hl18:L 18=false:=hL
  have hl19:=clF hL (hclo 19 18 · zap)
  have hOP : ∃ P Y,P=[]∧Y=LT2∧O42=P ++ ([] ++ Y):=⟨_,_,rfl,rfl,by rw [hO]; simp only [hl18,hl19,cd2,la2]⟩
  obtain ⟨P,Y,hP,hY,hPY⟩ := hOP
  rw [hPY] at S
  replace S:=S
  refine zQ xn zam fun b54 w53 hw53=>?_
  replace S:=S.new hw53
  refine w4 trivial ⟨b54,s40,P ++ ([oB b54 zm (Term.C tmZ)] ++ Y),_,hZ,hm13.keep rfl rfl tl0,hm14.keep rfl rfl tl0,hm15.keep rfl rfl tl0,hm16.keep rfl rfl tl0,(fun _=>upd_same _ _ _),(kpZ tl0 hq19),?_,S.ins (P:=[oB b54 zm (Term.C tmZ)])⟩
  rw [hP,hY]; simp only [pN L 18 19,xR (L:=L) (i:=18),hl19,cd2,la2]
 ·rintro L g v hL hcl hclo ⟨b38,s40,O42,Z41,hZ,hm13,hm14,hm15,hm16,hk18,hq19,hO,S⟩ _ _
  obtain ⟨s36,he16,hp16⟩ := hm16 (hcl 16 zap)
  have hl18:L 18=true:=hcl 18 zap
  have hl19:L 19=false:=hL
  have hOP : ∃ P Y,P=[]∧Y=LT2∧O42=P ++ ([oB b38 zm (Term.C tmZ)] ++ Y):=⟨_,_,rfl,rfl,by rw [hO]; simp only [hl18,hl19,cd2,la2]⟩
  obtain ⟨P,Y,hP,hY,hPY⟩ := hOP
  rw [hPY] at S
  replace S:=(S.ins.zneed (xD (l1:=[ze s36 r33.1.sub]) hp16 hZ))
  refine wsT (hk18 (hcl 18 zap)) he16 (S.blk 0) fun w55 B hw55 zw55=>?_
  replace S:=S.store 0 B hw55
  refine zd (ob40 trivial (fun _=>trivial) ⟨b38,s36,P ++ ([oB b38 zm (tmC r33.1 s36)] ++ Y),_,(fun z h=>tl10 z (hZ z h)),hm13.keep0 rfl tl10,hm14.keep0 rfl tl10,hm15.keep0 rfl tl10,hm16.keep0 rfl tl10,(kpP hk18),(fun _ z q=>tl10 z (hp16 z q)),?_,S.ins (P:=[oB b38 zm (tmC r33.1 s36)])⟩)
  rw [hP,hY]; simp only [pN L 19 18,xR (L:=L) (i:=19),hl18,cd2,la2]
 rintro L g w56 hLm ⟨b38,s40,O42,Z41,hZ,hm13,hm14,hm15,hm16,hk18,hq19,hO,S⟩ hv57_0 hv57_1 hv57_2 hv57_3 hv57_4 hv57_5 hv57_6 hv57_7 hv57_8 hv57_9 hv57_10 hv57_11 hv57_12 _ _ _ _ hv57_17 _ _
 have hLt : ∀ j,j < 20→L j=true:=fun j hj=>by rw [hLm]; exact decide_eq_true hj
 obtain ⟨s32,hv57_13,hp13⟩ := hm13 (hLt 13 zam)
 obtain ⟨s36,hv57_16,hp16⟩ := hm16 (hLt 16 zam)
 have hv57_18:=hk18 (hLt 18 zam)
 simp only [hLt 18 zam,hLt 19 zam,cond_true,List.nil_append,List.cons_append] at hO
 rw [hO] at S
 replace hq19:=hq19 (hLt 19 zam)
 replace S:=S.pickZ (xD (l1:=[ze s32 r29.sub]) hp13 (xD (l1:=[ze s36 r33.1.sub]) hp16 (xD (l1:=[ze s40 r33.1.sub]) hq19 hZ)))
 clear hp13 hp16 hZ hm13 hm14 hm15 hm16
 refine wd (zh hv57_17) (zd (zb ?_))
 obtain ⟨r68,er68,H⟩ := zp H
 obtain ⟨r71,er71,H⟩ := zp H
 let LT1:List OA:=[ze s32 r29.sub,ze s36 r33.1.sub,ze s40 r33.1.sub,ze s9 ((kd (kd a1 0) 0).sub),ze s6 ((kd a1 0).sub),oT a_0 a0,ze s_1 a1.sub,oPw,oCl s9.blk (s9.off + Int.toNat 0 * 5) (tmC (kd (kd (kd a1 0) 0) 0) s23),ze s23 ((kd (kd (kd a1 0) 0) 0).sub),oCl s_1.blk (s_1.off + Int.toNat 1 * 5) (tmC (kd a1 1) s25),ze s25 ((kd a1 1).sub)]
 let LT3:List OA:=[oB b38 zm (tmC r33.1 s40),oB b12 zm (tmC (kd (kd a1 0) 0) s9),oB b2 zm (tmC a1 s_1)]
 refine yX 7 ⟨fun _ _=>True,fun _ _ _=>True,fun i v _=>match i with
  | 0=>v=Value.agg (tmC r33.1 s40).toArray
  | 1=>v=Value.pointer a_0
  | 2=>v=Value.agg (tmC a1 s_1).toArray
  | 3=>v=Value.int .i64 r68
  | 5=>v=Value.int .i64 r33.2
  | _=>True⟩ (fun L g v=>bif L 6 then (∃ (s74:SlV),(L 4=true→g 38=Value.agg (tmC r71 s74).toArray)∧St A N w v (oB b4 zm (tmC r71 s74) :: LT3) (ze s74 r71.sub :: LT1)) else bif L 4 then (∃ (s74:SlV),(L 4=true→g 38=Value.agg (tmC r71 s74).toArray)∧St A N w v (oB b38 zm (tmC r33.1 s40) :: LT2) (ze s74 r71.sub :: LT1)) else (St A N w v (oB b38 zm (tmC r33.1 s40) :: LT2) LT1)) hmix zap (fun _ _ _ _ _ _ _ hv=>hv) (fun g=>S.ext (Ext.drawn _)) ⟨?_,?_,?_,?_,?_,?_,?_,trivial⟩ ?_
 ·rintro L g v hL hcl hclo hT 
  have hl4:=clF hL (hclo 4 0 · zap)
  have hl6:=clF hL (hclo 6 0 · zap)
  simp only [hl4,hl6,cd2] at hT
  replace S:=hT
  refine wd (zt z1 hv57_18 ((S.blk 0).all _ (Term.len _)) (Term.len _)) ?_
  exact w4 rfl (by simp only [pN L 0 4,pN L 0 6,hl4,hl6,cd2]; exact S)
 ·rintro L g v hL hcl hclo hT 
  have hl4:=clF hL (hclo 4 1 · zap)
  have hl6:=clF hL (hclo 6 1 · zap)
  simp only [hl4,hl6,cd2] at hT
  replace S:=hT
  refine wd (zB rfl) ?_
  exact w4 rfl (by simp only [pN L 1 4,pN L 1 6,hl4,hl6,cd2]; exact S)
 ·rintro L g v hL hcl hclo hT 
  have hl4:=clF hL (hclo 4 2 · zap)
  have hl6:=clF hL (hclo 6 2 · zap)
  simp only [hl4,hl6,cd2] at hT
  replace S:=hT
  refine wd (ldT rfl (S.blk 3)) ?_
  exact w4 rfl (by simp only [pN L 2 4,pN L 2 6,hl4,hl6,cd2]; exact S)
 ·rintro L g v hL hcl hclo hT hv1 hv2
  have hl4:=clF hL (hclo 4 3 · zap)
  have hl6:=clF hL (hclo 6 3 · zap)
  simp only [hl4,hl6,cd2] at hT
  replace S:=hT
  obtain ⟨_,_,T,bk⟩ := S.calln 0 ((.z 5 rfl (.z 6 rfl .nil)))
  refine zA (zK ji (zN hv1 (zN hv2 (zN rfl rfl)))) zam (jp (a1:=a1) T er68) ?_
  rintro _ w77 ⟨rfl,S2⟩
  replace S:=bk _ _ _ _ S2 rfl
  exact w4 rfl (by simp only [pN L 3 4,pN L 3 6,hl4,hl6,cd2]; exact S)
 ·rintro L g v hL hcl hclo hT hv0 hv3
  have hl4:L 4=false:=hL
  have hl6:=clF hL (hclo 6 4 · zap)
  simp only [hl4,hl6,cd2] at hT
  replace S:=hT
  obtain ⟨_,_,T,bk⟩ := S.sub [2] [] (oB b38 zm (tmC r33.1 s40) :: LT2)
  refine zA (zK jK (zN hv0 (zN hv3 rfl))) zam (jM (a0:=r33.1) T er71) ?_
  rintro _ w80 ⟨s74,rfl,S2⟩
  replace S:=bk _ _ _ _ _ S2 rfl rfl
  have hT2 : ∃ (s74':SlV),((plus L 4) 4=true→(upd g 38 (Value.agg (tmC r71 s74).toArray)) 38=Value.agg (tmC r71 s74').toArray)∧St A N w w80 (oB b38 zm (tmC r33.1 s40) :: LT2) (ze s74' r71.sub :: LT1):=⟨s74,fun _=>upd_same _ _ _,S⟩
  exact w4 trivial (by simp only [pN L 4 6,xR (L:=L) (i:=4),hl6,cd2] at hT2 ⊢; exact hT2)
 ·rintro L g v hL hcl hclo hT 
  cases hl6:L 6 with
  | true =>
   replace hT : ∃ (s74:SlV),(L 4=true→g 38=Value.agg (tmC r71 s74).toArray)∧St A N w v (oB b4 zm (tmC r71 s74) :: LT3) (ze s74 r71.sub :: LT1):=by simp only [hl6,cd2] at hT ⊢; exact hT
   obtain ⟨s74,he4,S⟩ := hT
   refine wd (zk rfl) ?_
   have hT2 : ∃ (s74':SlV),((plus L 5) 4=true→(upd g 39 (Value.int .i64 r33.2)) 38=Value.agg (tmC r71 s74').toArray)∧St A N w v (oB b4 zm (tmC r71 s74') :: LT3) (ze s74' r71.sub :: LT1):=⟨s74,kpU he4,S⟩
   exact w4 rfl (by simp only [pN L 5 4,pN L 5 6,hl6,cd2] at hT2 ⊢; exact hT2)
  | false =>
   cases hl4:L 4 with
   | true =>
    replace hT : ∃ (s74:SlV),(L 4=true→g 38=Value.agg (tmC r71 s74).toArray)∧St A N w v (oB b38 zm (tmC r33.1 s40) :: LT2) (ze s74 r71.sub :: LT1):=by simp only [hl4,hl6,cd2] at hT ⊢; exact hT
    obtain ⟨s74,he4,S⟩ := hT
    refine wd (zk rfl) ?_
    have hT2 : ∃ (s74':SlV),((plus L 5) 4=true→(upd g 39 (Value.int .i64 r33.2)) 38=Value.agg (tmC r71 s74').toArray)∧St A N w v (oB b38 zm (tmC r33.1 s40) :: LT2) (ze s74' r71.sub :: LT1):=⟨s74,kpU he4,S⟩
    exact w4 rfl (by simp only [pN L 5 4,pN L 5 6,hl4,hl6,cd2] at hT2 ⊢; exact hT2)
   | false =>
    simp only [hl4,hl6,cd2] at hT
    replace S:=hT
    refine wd (zk rfl) ?_
    exact w4 rfl (by simp only [pN L 5 4,pN L 5 6,hl4,hl6,cd2]; exact S)
 ·rintro L g v hL hcl hclo hT hv4
  have hl4:L 4=true:=hcl 4 zap
  have hl6:L 6=false:=hL
  replace hT : ∃ (s74:SlV),(L 4=true→g 38=Value.agg (tmC r71 s74).toArray)∧St A N w v (oB b38 zm (tmC r33.1 s40) :: LT2) (ze s74 r71.sub :: LT1):=by simp only [hl4,hl6,cd2] at hT ⊢; exact hT
  obtain ⟨s74,he4,S⟩ := hT
  refine wsT rfl (he4 (hcl 4 zap)) (S.blk 2) fun w82 B hw82 zw82=>?_
  replace S:=S.store 2 B hw82
  have hT2 : ∃ (s74':SlV),((plus L 6) 4=true→g 38=Value.agg (tmC r71 s74').toArray)∧St A N w w82 (oB b4 zm (tmC r71 s74') :: LT3) (ze s74' r71.sub :: LT1):=⟨s74,kpP he4,S⟩
  exact zd (ob40 trivial (fun _=>trivial) (by simp only [pN L 6 4,xR (L:=L) (i:=6),cd2] at hT2 ⊢; exact hT2))
 rintro L g w83 hLm hT hv84_0 hv84_1 hv84_2 hv84_3 _ hv84_5 _
 have hLt : ∀ j,j < 7→L j=true:=fun j hj=>by rw [hLm]; exact decide_eq_true hj
 replace hT : ∃ (s74:SlV),(L 4=true→g 38=Value.agg (tmC r71 s74).toArray)∧St A N w w83 (oB b4 zm (tmC r71 s74) :: LT3) (ze s74 r71.sub :: LT1):=by simp only [hLt 6 zam,cond_true] at hT ⊢; exact hT
 obtain ⟨s74,he4,S⟩ := hT
 have hv84_4:=he4 (hLt 4 zam)
 replace S:=S
 refine wd (zh hv84_5) (zd (zr ?_))
 refine ⟨_,(xm (rtT rfl (S.blk 0)) (zf rfl)),?_⟩
 replace S:=S.arr [] [0]
 obtain rfl:=zaq H
 exact ⟨s74,rfl,S⟩
theorem reduce_into_st {a0:PTerm} {s_0:SlV} {a1:PTerm} {s_1:SlV} {a2:Bool} (S:St A N w w [] [ze s_0 a0.sub,ze s_1 a1.sub,oPw]) {k:Nat} {r:PTerm × Int} (H:zbv.f k a0 a1 a2=some r) :
  Calls PP F_reduce_into #[.agg (tmC a0 s_0).toArray,.agg (tmC a1 s_1).toArray,.bool a2] w <| Rt fun v w'=>(∃ so0:SlV,v = .tuple #[.agg (tmC r.1 so0).toArray,.int .i64 r.2]∧St A N w w' [] [ze so0 r.1.sub]):=by
 unfold zbv.f at H
 refine zu (n:=29) Tryz.func121 rfl rfl zao (zb (za ?_))
 refine zH rfl zam fun b2 w1 hw1=>?_
 replace S:=S.new hw1
 refine zH rfl zam fun b4 w3 hw3=>?_
 replace S:=S.new hw3
 refine zQ xn zam fun b6 w5 hw5=>?_
 replace S:=S.new hw5
 refine wd (zh rfl) (zd (zb (zb (za (wd (zy rfl) (zd ?_))))))
 refine zI rfl (fun hc7=>?_) (fun hc7=>?_)
 ·replace H:=if_t hc7 H
  refine zb ?_
  refine wc_ws hmix fun w12 K=>?_
  replace S:=S.ext K
  clear K
  obtain ⟨hi13,H⟩ := zX H
  obtain ⟨s14,hc15,S⟩ := S.viewTerm 0 (zG hi13)
  replace S:=S.zs [1,2,3,0]
  refine uL 0 7 [] zap zam zap
   (V:=fun i v u=>match i with
   | _=>True) ?_ ?_
  ·intro i v u u' hi hx hv
   match i,hv with
   | _,_=>exact trivial
  refine zT (fun v K=>zg zD rfl (o':=4) rfl) rfl (zT (fun v K=>zl zz rfl (((S.ext K).blk 2).cell (Term.get_sub _))) rfl (zT (fun v K=>does_indexF zq rfl rfl ((S.ext K).onZ 0) (zG hi13).1 (zG hi13).2) rfl (zT (fun v K=>zt z1 rfl (hc15.chg K (fun x=>x)) (Term.len _)) rfl (zT (fun v K=>zg vX rfl (o':=2) rfl) rfl (zT (fun v K=>zl xt rfl (((S.ext K).blk 2).cell (Term.get_other _))) rfl ?_)))))
  refine zT (fun v K=>zt z1 rfl (((S.ext K).blk 1).all _ (Term.len _)) (Term.len _)) rfl ?_
  refine kg fun g w16 K hV=>?_
  replace S:=S.ext K
  clear K hV
  refine zal 7 8 zap zam ?_
  obtain ⟨r18,er18,H⟩ := zp H
  obtain ⟨_,_,T,bk⟩ := S.sub [3,1,2] [] [oB b6 zm (Term.C tmZ),oB b4 zm (tmC a1 s_1),oB b2 zm (tmC a0 s_0)]
  refine zA (zx jU) zam (j1 (a0:=(kd a0 2)) (a2:=a1) T er18) ?_
  rintro _ w19 ⟨s21,rfl,S2⟩
  replace S:=bk _ _ _ _ _ S2 rfl rfl
  refine zd ⟨rfl,?_⟩
  refine uL 8 10 [] zap zam zap
   (V:=fun i v u=>match i with
   | _=>True) ?_ ?_
  ·intro i v u u' hi hx hv
   match i,hv with
   | _,_=>exact trivial
  refine zT (fun v K=>zo rfl rfl) rfl (zT (fun v K=>zo rfl rfl) rfl ?_)
  refine kg fun g w22 K hV=>?_
  replace S:=S.ext K
  clear K hV
  refine ws_tail 10 zap zam ?_
  refine wsT rfl rfl (S.blk 0) fun w24 B hw24 zw24=>?_
  replace S:=S.store 0 B hw24
  refine wd (zh rfl) (zd (zr ?_))
  refine ⟨_,(xm (rtT rfl (S.blk 0)) (zf rfl)),?_⟩
  replace S:=S.arr [] [0]
  obtain rfl:=zaq H
  exact ⟨s21,rfl,S⟩
 replace H:=if_f hc7 H
 refine zw (zb ?_)
 refine wc_ws hmix fun w29 K=>?_
 replace S:=S.ext K
 clear K
 obtain ⟨hi30,H⟩ := zX H
 obtain ⟨s31,hc32,S⟩ := S.viewTerm 0 (zG hi30)
 replace S:=S.zs [1,2,3,0]
 refine uL 0 7 [] zap zam zap
  (V:=fun i v u=>match i with
  | _=>True) ?_ ?_
 ·intro i v u u' hi hx hv
  match i,hv with
  | _,_=>exact trivial
 refine zT (fun v K=>zg zD rfl (o':=4) rfl) rfl (zT (fun v K=>zl zz rfl (((S.ext K).blk 2).cell (Term.get_sub _))) rfl (zT (fun v K=>does_indexF zq rfl rfl ((S.ext K).onZ 0) (zG hi30).1 (zG hi30).2) rfl (zT (fun v K=>zt z1 rfl (hc32.chg K (fun x=>x)) (Term.len _)) rfl (zT (fun v K=>zg xW rfl (o':=1) rfl) rfl (zT (fun v K=>zl xt rfl (((S.ext K).blk 2).cell (Term.get_name _))) rfl ?_)))))
 refine zT (fun v K=>zt z1 rfl (((S.ext K).blk 1).all _ (Term.len _)) (Term.len _)) rfl ?_
 refine kg fun g w33 K hV=>?_
 replace S:=S.ext K
 clear K hV
 refine zal 7 8 zap zam ?_
 obtain ⟨r35,er35,H⟩ := zp H
 obtain ⟨_,_,T,bk⟩ := S.sub [3,1,2] [] [oB b6 zm (Term.C tmZ),oB b4 zm (tmC a1 s_1),oB b2 zm (tmC a0 s_0)]
 refine zA (zx jU) zam (j1 (a0:=(kd a0 1)) (a2:=a1) T er35) ?_
 rintro _ w36 ⟨s38,rfl,S2⟩
 replace S:=bk _ _ _ _ _ S2 rfl rfl
 refine zd ⟨rfl,?_⟩
 refine uL 8 10 [] zap zam zap
  (V:=fun i v u=>match i with
  | _=>True) ?_ ?_
 ·intro i v u u' hi hx hv
  match i,hv with
  | _,_=>exact trivial
 refine zT (fun v K=>zo rfl rfl) rfl (zT (fun v K=>zo rfl rfl) rfl ?_)
 refine kg fun g w39 K hV=>?_
 replace S:=S.ext K
 clear K hV
 refine ws_tail 10 zap zam ?_
 refine wsT rfl rfl (S.blk 0) fun w41 B hw41 zw41=>?_
 replace S:=S.store 0 B hw41
 refine wd (zh rfl) (zd (zr ?_))
 refine ⟨_,(xm (rtT rfl (S.blk 0)) (zf rfl)),?_⟩
 replace S:=S.arr [] [0]
 obtain rfl:=zaq H
 exact ⟨s38,rfl,S⟩
theorem reduce_rules_10_st {a0:Tb} {a_0:Option Addr} {a1:PTerm} {s_1:SlV} (S:St A N w w [] [oT a_0 a0,ze s_1 a1.sub,oPw]) {k:Nat} {r:PTerm × Int} (H:zbw.f k a0 a1=some r) :
  Calls PP yG #[.pointer a_0,.agg (tmC a1 s_1).toArray] w <| Rt fun v w'=>(∃ so0:SlV,v = .tuple #[.agg (tmC r.1 so0).toArray,.int .i64 r.2]∧St A N w w' [] [ze so0 r.1.sub]):=by
 unfold zbw.f at H
 refine zu (n:=25) Tryz.func120 rfl rfl zao (zb (za ?_))
 refine zH rfl zam fun b2 w1 hw1=>?_
 replace S:=S.new hw1
 refine zQ xn zam fun b4 w3 hw3=>?_
 replace S:=S.new hw3
 refine wd (zh rfl) (zd (zb (za (wd (ldT rfl (S.blk 1)) ?_))))
 obtain ⟨r5,er5,H⟩ := zp H
 obtain ⟨_,_,T,bk⟩ := S.calln 0 ((.z 1 rfl .nil))
 refine zA (zx kz) zam (kF (a0:=a1) T er5) ?_
 rintro _ w6 ⟨rfl,S2⟩
 replace S:=bk _ _ _ _ S2 rfl
 refine wd (xb rfl) (wd (zo rfl rfl) (wd (zo rfl rfl) (wd (zi rfl) (wd (zi rfl) (zd (zb ?_))))))
 refine wc_ws hmix fun w15 K=>?_
 replace S:=S.ext K
 clear K
 obtain ⟨hi16,H⟩ := zX H
 obtain ⟨s17,hc18,S⟩ := S.viewTerm 1 (zG hi16)
 replace S:=S.zs [1,2,3,0]
 obtain ⟨hi19,H⟩ := zX H
 obtain ⟨s20,hc21,S⟩ := S.viewTerm 3 (zG hi19)
 replace S:=S.zs [1,2,3,4,0]
 refine uL 0 9 [] zap zam zap
  (V:=fun i v u=>match i with
  | _=>True) ?_ ?_
 ·intro i v u u' hi hx hv
  match i,hv with
  | _,_=>exact trivial
 refine zT (fun v K=>zt z1 rfl (((S.ext K).blk 1).all _ (Term.len _)) (Term.len _)) rfl (zT (fun v K=>zg zD rfl (o':=4) rfl) rfl (zT (fun v K=>zl zz rfl (((S.ext K).blk 1).cell (Term.get_sub _))) rfl (zT (fun v K=>does_indexF zq rfl rfl ((S.ext K).onZ 1) (zG hi16).1 (zG hi16).2) rfl (zT (fun v K=>zg zD rfl (o':=_) rfl) rfl (zT (fun v K=>zl zz rfl ((hc18.chg K (fun x=>x)).get (Term.get_sub _))) rfl ?_)))))
 refine zT (fun v K=>does_indexF zq rfl rfl ((S.ext K).onZ 3) (zG hi19).1 (zG hi19).2) rfl (zT (fun v K=>zt z1 rfl (hc21.chg K (fun x=>x)) (Term.len _)) rfl (zT (fun v K=>zy rfl) rfl ?_))
 refine kg fun g w22 K hV=>?_
 replace S:=S.ext K
 clear K hV
 refine zal 9 10 zap zam ?_
 obtain ⟨r24,er24,H⟩ := zp H
 obtain ⟨_,_,T,bk⟩ := S.sub [1,4,2] [] [oB b4 zm (Term.C tmZ),oB b2 zm (tmC a1 s_1)]
 refine zA (zx ca_reduce_into) zam (reduce_into_st (a0:=a1) (a1:=(kd (kd a1 0) 0)) T er24) ?_
 rintro _ w25 ⟨s27,rfl,S2⟩
 replace S:=bk _ _ _ _ _ S2 rfl rfl
 refine zd ⟨rfl,?_⟩
 refine uL 10 12 [] zap zam zap
  (V:=fun i v u=>match i with
  | _=>True) ?_ ?_
 ·intro i v u u' hi hx hv
  match i,hv with
  | _,_=>exact trivial
 refine zT (fun v K=>zo rfl rfl) rfl (zT (fun v K=>zo rfl rfl) rfl ?_)
 refine kg fun g w28 K hV=>?_
 replace S:=S.ext K
 clear K hV
 refine ws_tail 12 zap zam ?_
 refine wsT rfl rfl (S.blk 0) fun w30 B hw30 zw30=>?_
 replace S:=S.store 0 B hw30
 refine wd (zh rfl) (zd (zr ?_))
 refine ⟨_,(xm (rtT rfl (S.blk 0)) (zf rfl)),?_⟩
 replace S:=S.arr [] [0]
 obtain rfl:=zaq H
 exact ⟨s27,rfl,S⟩
theorem reduce_rules_12_st {a0:Tb} {a_0:Option Addr} {a1:PTerm} {s_1:SlV} (S:St A N w w [] [oT a_0 a0,ze s_1 a1.sub,oPw]) {k:Nat} {r:PTerm × Int} (H:zbx.f k a0 a1=some r) :
  Calls PP yH #[.pointer a_0,.agg (tmC a1 s_1).toArray] w <| Rt fun v w'=>(∃ so0:SlV,v = .tuple #[.agg (tmC r.1 so0).toArray,.int .i64 r.2]∧St A N w w' [] [ze so0 r.1.sub]):=by
 unfold zbx.f at H
 refine zu (n:=34) Tryz.func124 rfl rfl zao (zb (za ?_))
 refine zH rfl zam fun b2 w1 hw1=>?_
 replace S:=S.new hw1
 refine zQ xn zam fun b4 w3 hw3=>?_
 replace S:=S.new hw3
 refine wd (zh rfl) (zd (zb (za (wd (zB rfl) (wd (ldT rfl (S.blk 1)) ?_)))))
 obtain ⟨r5,er5,H⟩ := zp H
 obtain ⟨_,_,T,bk⟩ := S.calln 0 ((.z 0 rfl (.z 1 rfl .nil)))
 refine zA (zx ca_reduce_told) zam (reduce_told_st (a1:=a1) T er5) ?_
 rintro _ w6 ⟨rfl,S2⟩
 replace S:=bk _ _ _ _ S2 rfl
 refine wd (xb rfl) (wd (zo rfl rfl) (wd (zo rfl rfl) (wd (zi rfl) (wd (zi rfl) (zd (zb ?_))))))
 obtain ⟨hi31,H⟩ := zX H
 obtain ⟨hi33,H⟩ := zX H
 obtain ⟨hi35,H⟩ := zX H
 obtain ⟨r37,er37,H⟩ := zp H
 obtain ⟨r40,er40,H⟩ := zp H
 obtain ⟨r44,er44,H⟩ := zp H
 obtain ⟨s32,S⟩ := S.viewTermC 1 (zG hi31)
 replace S:=S
 obtain ⟨s34,S⟩ := S.viewTermC 1 (zG hi33)
 replace S:=S
 obtain ⟨s36,S⟩ := S.viewTermC 1 (zG hi35)
 replace S:=S.zs [6,7,8,4,5,2,3,0,1]
 refine yX 20 ⟨fun _ _=>True,fun _ _ _=>True,fun i v _=>match i with
  | 0=>v=Value.agg (tmC a1 s_1).toArray
  | 1=>v=Value.pointer (some ⟨b2,4,none⟩)
  | 2=>v=s_1.v
  | 3=>v=Value.pointer (some ⟨s_1.blk,s_1.off + Int.toNat 0 * 5,none⟩)
  | 4=>v=Value.pointer (some ⟨s_1.blk,s_1.off + Int.toNat 0 * 5 + 4,none⟩)
  | 5=>v=s32.v
  | 6=>v=Value.pointer (some ⟨s32.blk,s32.off + Int.toNat 0 * 5,none⟩)
  | 7=>v=Value.pointer (some ⟨s32.blk,s32.off + Int.toNat 0 * 5 + 4,none⟩)
  | 8=>v=s34.v
  | 9=>v=Value.pointer (some ⟨s34.blk,s34.off + Int.toNat 0 * 5,none⟩)
  | 10=>v=Value.agg (tmC (kd (kd (kd a1 0) 0) 0) s36).toArray
  | 11=>v=Value.pointer a_0
  | 12=>v=Value.agg (tmC a1 s_1).toArray
  | 13=>v=Value.bool r5.1
  | 14=>v=Value.int .i64 r37
  | 16=>v=Value.bool r5.1
  | 19=>v=Value.int .i64 r44.2
  | _=>True⟩ (fun L g v => ∃ Z48:List OA,(∀ z ∈ [oT a_0 a0,ze s_1 a1.sub,oPw,oCl s_1.blk (s_1.off + Int.toNat 0 * 5) (tmC (kd a1 0) s32),ze s32 ((kd a1 0).sub),oCl s32.blk (s32.off + Int.toNat 0 * 5) (tmC (kd (kd a1 0) 0) s34),ze s34 ((kd (kd a1 0) 0).sub),oCl s34.blk (s34.off + Int.toNat 0 * 5) (tmC (kd (kd (kd a1 0) 0) 0) s36),ze s36 ((kd (kd (kd a1 0) 0) 0).sub)],z ∈ Z48)∧Made L g Z48 15 29 (fun (c:SlV)=>Value.agg (tmC r40 c).toArray) (fun (c:SlV)=>[ze c r40.sub])∧Made L g Z48 17 31 (fun (c:SlV)=>Value.tuple #[.agg (tmC r44.1 c).toArray,.int .i64 r44.2]) (fun (c:SlV)=>[ze c r44.1.sub])∧Made L g Z48 18 32 (fun (c:SlV)=>Value.agg (tmC r44.1 c).toArray) (fun (c:SlV)=>[ze c r44.1.sub])∧St A N w v [oB b4 zm (Term.C tmZ),oB b2 zm (tmC a1 s_1)] Z48) hmix zap (fun _ _ _ _ _ _ _ hv=>hv) (fun g=>⟨_,fun _ h=>h,Made.no,Made.no,Made.no,S.ext (Ext.drawn _)⟩) ⟨?_,?_,?_,?_,?_,?_,?_,?_,?_,?_,?_,?_,?_,?_,?_,?_,?_,?_,?_,?_,trivial⟩ ?_
 ·rintro L g v hL hcl hclo ⟨Z48,hZ,hm15,hm17,hm18,S⟩ 
  refine wd (ldT rfl (S.blk 1)) ?_
  exact w4 rfl ⟨_,hZ,hm15.keep rfl rfl tl0,hm17.keep rfl rfl tl0,hm18.keep rfl rfl tl0,S⟩
 ·rintro L g v hL hcl hclo ⟨Z48,hZ,hm15,hm17,hm18,S⟩ 
  refine wd (zg zD rfl (o':=4) rfl) ?_
  exact w4 rfl ⟨_,hZ,hm15.keep rfl rfl tl0,hm17.keep rfl rfl tl0,hm18.keep rfl rfl tl0,S⟩
 ·rintro L g v hL hcl hclo ⟨Z48,hZ,hm15,hm17,hm18,S⟩ hv1
  refine wd (zl zz hv1 ((S.blk 1).cell (Term.get_sub _))) ?_
  exact w4 rfl ⟨_,hZ,hm15.keep rfl rfl tl0,hm17.keep rfl rfl tl0,hm18.keep rfl rfl tl0,S⟩
 ·rintro L g v hL hcl hclo ⟨Z48,hZ,hm15,hm17,hm18,S⟩ hv2
  replace S:=(S.zneed hZ)
  refine wd (does_indexF zq hv2 rfl (S.onZ 1) (zG hi31).1 (zG hi31).2) ?_
  exact w4 rfl ⟨_,(fun z h=>tl9 z (hZ z h)),hm15.keep rfl rfl tl9,hm17.keep rfl rfl tl9,hm18.keep rfl rfl tl9,S⟩
 ·rintro L g v hL hcl hclo ⟨Z48,hZ,hm15,hm17,hm18,S⟩ hv3
  refine wd (zg zD hv3 (o':=_) rfl) ?_
  exact w4 rfl ⟨_,hZ,hm15.keep rfl rfl tl0,hm17.keep rfl rfl tl0,hm18.keep rfl rfl tl0,S⟩
 ·rintro L g v hL hcl hclo ⟨Z48,hZ,hm15,hm17,hm18,S⟩ hv4
  replace S:=(S.zneed hZ)
  refine wd (zl zz hv4 ((S.cl 3).get (Term.get_sub _))) ?_
  exact w4 rfl ⟨_,(fun z h=>tl9 z (hZ z h)),hm15.keep rfl rfl tl9,hm17.keep rfl rfl tl9,hm18.keep rfl rfl tl9,S⟩
 ·rintro L g v hL hcl hclo ⟨Z48,hZ,hm15,hm17,hm18,S⟩ hv5
  replace S:=(S.zneed hZ)
  refine wd (does_indexF zq hv5 rfl (S.onZ 4) (zG hi33).1 (zG hi33).2) ?_
  exact w4 rfl ⟨_,(fun z h=>tl9 z (hZ z h)),hm15.keep rfl rfl tl9,hm17.keep rfl rfl tl9,hm18.keep rfl rfl tl9,S⟩
 ·rintro L g v hL hcl hclo ⟨Z48,hZ,hm15,hm17,hm18,S⟩ hv6
  refine wd (zg zD hv6 (o':=_) rfl) ?_
  exact w4 rfl ⟨_,hZ,hm15.keep rfl rfl tl0,hm17.keep rfl rfl tl0,hm18.keep rfl rfl tl0,S⟩
 ·rintro L g v hL hcl hclo ⟨Z48,hZ,hm15,hm17,hm18,S⟩ hv7
  replace S:=(S.zneed hZ)
  refine wd (zl zz hv7 ((S.cl 5).get (Term.get_sub _))) ?_
  exact w4 rfl ⟨_,(fun z h=>tl9 z (hZ z h)),hm15.keep rfl rfl tl9,hm17.keep rfl rfl tl9,hm18.keep rfl rfl tl9,S⟩
 ·rintro L g v hL hcl hclo ⟨Z48,hZ,hm15,hm17,hm18,S⟩ hv8
  replace S:=(S.zneed hZ)
  refine wd (does_indexF zq hv8 rfl (S.onZ 6) (zG hi35).1 (zG hi35).2) ?_
  exact w4 rfl ⟨_,(fun z h=>tl9 z (hZ z h)),hm15.keep rfl rfl tl9,hm17.keep rfl rfl tl9,hm18.keep rfl rfl tl9,S⟩
 ·rintro L g v hL hcl hclo ⟨Z48,hZ,hm15,hm17,hm18,S⟩ hv9
  replace S:=(S.zneed hZ)
  refine wd (zt z1 hv9 (S.cl 7) (Term.len _)) ?_
  exact w4 rfl ⟨_,(fun z h=>tl9 z (hZ z h)),hm15.keep rfl rfl tl9,hm17.keep rfl rfl tl9,hm18.keep rfl rfl tl9,S⟩
 ·rintro L g v hL hcl hclo ⟨Z48,hZ,hm15,hm17,hm18,S⟩ 
  refine wd (zB rfl) ?_
  exact w4 rfl ⟨_,hZ,hm15.keep rfl rfl tl0,hm17.keep rfl rfl tl0,hm18.keep rfl rfl tl0,S⟩
 ·rintro L g v hL hcl hclo ⟨Z48,hZ,hm15,hm17,hm18,S⟩ 
  refine wd (ldT rfl (S.blk 1)) ?_
  exact w4 rfl ⟨_,hZ,hm15.keep rfl rfl tl0,hm17.keep rfl rfl tl0,hm18.keep rfl rfl tl0,S⟩
 ·rintro L g v hL hcl hclo ⟨Z48,hZ,hm15,hm17,hm18,S⟩ 
  refine wd (zy rfl) ?_
  exact w4 rfl ⟨_,hZ,hm15.keep rfl rfl tl0,hm17.keep rfl rfl tl0,hm18.keep rfl rfl tl0,S⟩
 ·rintro L g v hL hcl hclo ⟨Z48,hZ,hm15,hm17,hm18,S⟩ hv11 hv12 hv13
  replace S:=(S.zneed hZ)
  obtain ⟨_,_,T,bk⟩ := S.calln 0 ((.z 0 rfl (.z 1 rfl .nil)))
  refine zA (zK ji (zN hv11 (zN hv12 (zN hv13 rfl)))) zam (jp (a1:=a1) T er37) ?_
  rintro _ w54 ⟨rfl,S2⟩
  replace S:=bk _ _ _ _ S2 rfl
  exact w4 rfl ⟨_,(fun z h=>tl9 z (hZ z h)),hm15.keep rfl rfl tl9,hm17.keep rfl rfl tl9,hm18.keep rfl rfl tl9,S⟩
 ·rintro L g v hL hcl hclo ⟨Z48,hZ,hm15,hm17,hm18,S⟩ hv10 hv14
  replace S:=(S.zneed hZ)
  obtain ⟨_,_,T,bk⟩ := S.sub [8] [] [oB b4 zm (Term.C tmZ),oB b2 zm (tmC a1 s_1)]
  refine zA (zK jK (zN hv10 (zN hv14 rfl))) zam (jM (a0:=(kd (kd (kd a1 0) 0) 0)) T er40) ?_
  rintro _ w57 ⟨s59,rfl,S2⟩
  replace S:=bk _ _ _ _ _ S2 rfl rfl
  exact w4 trivial ⟨_,(fun z h=>tl10 z (hZ z h)),Made.one (val:=(fun (c:SlV)=>Value.agg (tmC r40 c).toArray)) (ps:=(fun (c:SlV)=>[ze c r40.sub])) s59 (xX List.mem_cons_self yw),hm17.keep rfl rfl tl10,hm18.keep rfl rfl tl10,S⟩
 ·rintro L g v hL hcl hclo ⟨Z48,hZ,hm15,hm17,hm18,S⟩ 
  refine wd (zy rfl) ?_
  exact w4 rfl ⟨_,hZ,hm15.keep rfl rfl tl0,hm17.keep rfl rfl tl0,hm18.keep rfl rfl tl0,S⟩
 ·rintro L g v hL hcl hclo ⟨Z48,hZ,hm15,hm17,hm18,S⟩ hv0 _ hv16
  obtain ⟨s43,he15,hp15⟩ := hm15 (hcl 15 zap)
  replace S:=(S.zneed (xD (l1:=[ze s43 r40.sub]) hp15 hZ))
  obtain ⟨_,_,T,bk⟩ := S.sub [2,0,3] [] [oB b4 zm (Term.C tmZ),oB b2 zm (tmC a1 s_1)]
  refine zA (zK ca_reduce_into (zN hv0 (zN he15 (zN hv16 rfl)))) zam (reduce_into_st (a0:=a1) (a1:=r40) T er44) ?_
  rintro _ w61 ⟨s63,rfl,S2⟩
  replace S:=bk _ _ _ _ _ S2 rfl rfl
  exact w4 trivial ⟨_,(fun z h=>tl11 z (hZ z h)),hm15.keep rfl rfl tl11,Made.one (val:=(fun (c:SlV)=>Value.tuple #[.agg (tmC r44.1 c).toArray,.int .i64 r44.2])) (ps:=(fun (c:SlV)=>[ze c r44.1.sub])) s63 (xX List.mem_cons_self yw),hm18.keep rfl rfl tl11,S⟩
 ·rintro L g v hL hcl hclo ⟨Z48,hZ,hm15,hm17,hm18,S⟩ _
  obtain ⟨s47,he17,hp17⟩ := hm17 (hcl 17 zap)
  replace S:=(S.zneed (xD (l1:=[ze s47 r44.1.sub]) hp17 hZ))
  refine wd (zo he17 rfl) ?_
  exact w4 trivial ⟨_,(fun z h=>tl10 z (hZ z h)),hm15.keep rfl rfl tl10,hm17.keep rfl rfl tl10,Made.one (val:=(fun (c:SlV)=>Value.agg (tmC r44.1 c).toArray)) (ps:=(fun (c:SlV)=>[ze c r44.1.sub])) s47 (xX List.mem_cons_self yw),S⟩
 ·rintro L g v hL hcl hclo ⟨Z48,hZ,hm15,hm17,hm18,S⟩ _
  obtain ⟨s47,he17,hp17⟩ := hm17 (hcl 17 zap)
  replace S:=(S.zneed (xD (l1:=[ze s47 r44.1.sub]) hp17 hZ))
  refine wd (zo he17 rfl) ?_
  exact w4 rfl ⟨_,(fun z h=>tl10 z (hZ z h)),hm15.keep rfl rfl tl10,hm17.keep rfl rfl tl10,hm18.keep rfl rfl tl10,S⟩
 rintro L g w64 hLm ⟨Z48,hZ,hm15,hm17,hm18,S⟩ hv65_0 hv65_1 hv65_2 hv65_3 hv65_4 hv65_5 hv65_6 hv65_7 hv65_8 hv65_9 hv65_10 hv65_11 hv65_12 hv65_13 hv65_14 _ hv65_16 _ _ hv65_19
 have hLt : ∀ j,j < 20→L j=true:=fun j hj=>by rw [hLm]; exact decide_eq_true hj
 obtain ⟨s43,hv65_15,hp15⟩ := hm15 (hLt 15 zam)
 obtain ⟨s47,hv65_18,hp18⟩ := hm18 (hLt 18 zam)
 replace S:=S.pickZ (xD (l1:=[ze s43 r40.sub]) hp15 (xD (l1:=[ze s47 r44.1.sub]) hp18 hZ))
 clear hp15 hp18 hZ hm15 hm17 hm18
 refine wsT rfl hv65_18 (S.blk 0) fun w66 B hw66 zw66=>?_
 replace S:=S.store 0 B hw66
 refine wd (zh hv65_19) (zd (zr ?_))
 refine ⟨_,(xm (rtT rfl (S.blk 0)) (zf rfl)),?_⟩
 replace S:=S.arr [] [1]
 obtain rfl:=zaq H
 exact ⟨s47,rfl,S⟩
theorem reduce_rules_14_st {a0:Tb} {a_0:Option Addr} {a1:PTerm} {s_1:SlV} (S:St A N w w [] [oT a_0 a0,ze s_1 a1.sub,oPw]) {k:Nat} {r:PTerm × Int} (H:zby.f k a0 a1=some r) :
  Calls PP yI #[.pointer a_0,.agg (tmC a1 s_1).toArray] w <| Rt fun v w'=>(∃ so0:SlV,v = .tuple #[.agg (tmC r.1 so0).toArray,.int .i64 r.2]∧St A N w w' [] [ze so0 r.1.sub]):=by
 unfold zby.f at H
 refine zu (n:=19) Tryz.func126 rfl rfl zao (zb (za ?_))
 refine zH rfl zam fun b2 w1 hw1=>?_
 replace S:=S.new hw1
 refine zQ xn zam fun b4 w3 hw3=>?_
 replace S:=S.new hw3
 refine wd (zh rfl) (zd (zb ?_))
 refine wc_ws hmix fun w12 K=>?_
 replace S:=S.ext K
 clear K
 obtain ⟨hi13,H⟩ := zX H
 obtain ⟨s14,hc15,S⟩ := S.viewTerm 1 (zG hi13)
 replace S:=S.zs [1,2,3,0]
 obtain ⟨hi16,H⟩ := zX H
 obtain ⟨s17,hc18,S⟩ := S.viewTerm 1 (zG hi16)
 replace S:=S.zs [1,2,3,4,0]
 refine uL 0 10 [] zap zam zap
  (V:=fun i v u=>match i with
  | _=>True) ?_ ?_
 ·intro i v u u' hi hx hv
  match i,hv with
  | _,_=>exact trivial
 refine zT (fun v K=>zg zD rfl (o':=4) rfl) rfl (zT (fun v K=>zl zz rfl (((S.ext K).blk 1).cell (Term.get_sub _))) rfl (zT (fun v K=>does_indexF zq rfl rfl ((S.ext K).onZ 1) (zG hi13).1 (zG hi13).2) rfl (zT (fun v K=>zt z1 rfl (hc15.chg K (fun x=>x)) (Term.len _)) rfl (zT (fun v K=>zg xW rfl (o':=1) rfl) rfl (zT (fun v K=>zl xt rfl (((S.ext K).blk 1).cell (Term.get_name _))) rfl ?_)))))
 refine zT (fun v K=>zg zD rfl (o':=4) rfl) rfl (zT (fun v K=>zl zz rfl (((S.ext K).blk 1).cell (Term.get_sub _))) rfl (zT (fun v K=>does_indexF zq rfl rfl ((S.ext K).onZ 1) (zG hi16).1 (zG hi16).2) rfl (zT (fun v K=>zt z1 rfl (hc18.chg K (fun x=>x)) (Term.len _)) rfl ?_)))
 refine kg fun g w19 K hV=>?_
 replace S:=S.ext K
 clear K hV
 refine zal 10 11 zap zam ?_
 obtain ⟨r21,er21,H⟩ := zp H
 obtain ⟨_,_,T,bk⟩ := S.sub [3,4,2] [] [oB b4 zm (Term.C tmZ),oB b2 zm (tmC a1 s_1)]
 refine zA (zx jU) zam (j1 (a0:=(kd a1 1)) (a2:=(kd a1 0)) T er21) ?_
 rintro _ w22 ⟨s24,rfl,S2⟩
 replace S:=bk _ _ _ _ _ S2 rfl rfl
 refine zd ⟨rfl,?_⟩
 refine uL 11 13 [] zap zam zap
  (V:=fun i v u=>match i with
  | _=>True) ?_ ?_
 ·intro i v u u' hi hx hv
  match i,hv with
  | _,_=>exact trivial
 refine zT (fun v K=>zo rfl rfl) rfl (zT (fun v K=>zo rfl rfl) rfl ?_)
 refine kg fun g w25 K hV=>?_
 replace S:=S.ext K
 clear K hV
 refine ws_tail 13 zap zam ?_
 refine wsT rfl rfl (S.blk 0) fun w27 B hw27 zw27=>?_
 replace S:=S.store 0 B hw27
 refine wd (zh rfl) (zd (zr ?_))
 refine ⟨_,(xm (rtT rfl (S.blk 0)) (zf rfl)),?_⟩
 replace S:=S.arr [] [0]
 obtain rfl:=zaq H
 exact ⟨s24,rfl,S⟩
end
section
open Gw Go.RowKit
def jR (i:Int):FuncId:=if i=0 then y7 else if i=1 then y8 else if i=2 then y9 else if i=3 then va else if i=4 then yG else if i=5 then yH else if i=6 then yI else yJ
theorem ca_rule_does (i:Int):zF PP (jR i):=by
 unfold jR
 repeat' split
 ·exact ca_reduce_rules_2
 ·exact ca_reduce_rules_4
 ·exact ca_reduce_rules_6
 ·exact ca_reduce_rules_8
 ·exact ca_reduce_rules_10
 ·exact ca_reduce_rules_12
 ·exact ca_reduce_rules_14
 ·exact ca_reduce_rules_16
def zbz.f (k:Nat) (i:Int) (a0:Tb) (a1:PTerm):Option (PTerm × Int) :=
 if i=0 then zbt.f k a0 a1 else if i=1 then zbu.f k a0 a1 else if i=2 then zaX.f a0 a1 else if i=3 then zaZ.f a0 a1 else if i=4 then zbw.f k a0 a1 else if i=5 then zbx.f k a0 a1 else if i=6 then zby.f k a0 a1 else if i=7 then zbe.f a0 a1 else none
theorem rule_does_v {k:Nat} {i:Int} {a0:Tb} {a1:PTerm} {r:PTerm × Int} (H:zbz.f k i a0 a1=some r):(ux i).does.v = .func (.func (jR i)) #[] #[]:=by
 by_cases h:0 ≤ i∧i < 8
 ·have:i=0∨i=1∨i=2∨i=3∨i=4∨i=5∨i=6∨i=7:=by omega
  rcases this with rfl | rfl | rfl | rfl | rfl | rfl | rfl | rfl <;> rfl
 ·unfold zbz.f at H
  simp only [show ¬ i=0 by omega,show ¬ i=1 by omega,show ¬ i=2 by omega,show ¬ i=3 by omega,show ¬ i=4 by omega,show ¬ i=5 by omega,show ¬ i=6 by omega,show ¬ i=7 by omega,if_false] at H
  cases H
section
variable {A:Nat→Prop} {N:Oth} {w:World}
theorem rule_does_st {a0:Tb} {a_0:Option Addr} {a1:PTerm} {s_1:SlV} (S:St A N w w [] [oT a_0 a0,ze s_1 a1.sub,oPw]) {k:Nat} {i:Int} {r:PTerm × Int} (H:zbz.f k i a0 a1=some r) :
  Calls PP (jR i) #[.pointer a_0,.agg (Term.C (⟨a1.kind,a1.name,a1.other,a1.form,s_1⟩ : Term)).toArray] w fun e w' => ∃ v,e = .returned v∧(∃ so0:SlV,v = .tuple #[.agg (Term.C (⟨r.1.kind,r.1.name,r.1.other,r.1.form,so0⟩ : Term)).toArray,.int .i64 r.2]∧St A N w w' [] [ze so0 r.1.sub]):=by
 unfold zbz.f at H
 unfold jR
 have S2:St A N w w [] [oT a_0 a0,ze s_1 a1.sub]:=S.zs [0,1]
 split
 ·rename_i e; rw [if_pos e] at H; exact reduce_rules_2_st S H
 rename_i e; rw [if_neg e] at H; clear e
 split
 ·rename_i e; rw [if_pos e] at H; exact reduce_rules_4_st S H
 rename_i e; rw [if_neg e] at H; clear e
 split
 ·rename_i e; rw [if_pos e] at H; exact reduce_rules_6_st S2 H
 rename_i e; rw [if_neg e] at H; clear e
 split
 ·rename_i e; rw [if_pos e] at H; exact reduce_rules_8_st S2 H
 rename_i e; rw [if_neg e] at H; clear e
 split
 ·rename_i e; rw [if_pos e] at H; exact reduce_rules_10_st S H
 rename_i e; rw [if_neg e] at H; clear e
 split
 ·rename_i e; rw [if_pos e] at H; exact reduce_rules_12_st S H
 rename_i e; rw [if_neg e] at H; clear e
 split
 ·rename_i e; rw [if_pos e] at H; exact reduce_rules_14_st S H
 rename_i e; rw [if_neg e] at H; clear e
 split at H
 ·exact reduce_rules_16_st S2 H
 ·cases H
end
end
section
open Gw
def zbA.f (a0:Tb) (a1:PTerm):Option (Int × Bool) :=
 (zaU.f a0 a1).bind fun r17=>if r17 then some (0,true) else (zaV.f a0 a1).bind fun r31=>if r31 then some (1,true) else (zaW.f a0 a1).bind fun r45=>if r45 then some (2,true) else (zaY.f a0 a1).bind fun r59=>if r59 then some (3,true) else (zba.f a0 a1).bind fun r73=>if r73 then some (4,true) else (zbb.f a0 a1).bind fun r87=>if r87 then some (5,true) else (zbc.f a0 a1).bind fun r101=>if r101 then some (6,true) else (zbd.f a0 a1).bind fun r115=>if r115 then some (7,true) else some (8,false)
def zbB.b0 (zct:PTerm→Option PTerm) (i11:Int) (x11_0:PTerm):Option PTerm :=
 chk (inb i11 x11_0.sub.length) ((zct (at_ PTerm.z x11_0.sub i11)).bind fun r23=>chk (inb i11 x11_0.sub.length) (some (⟨x11_0.kind,x11_0.name,x11_0.other,x11_0.form,x11_0.sub.set (Int.toNat i11) r23⟩ : PTerm)))
def zbB.g (zct:PTerm→Option PTerm) (a0:PTerm):Option PTerm :=
 (zaz.f a0.sub).bind fun r6=>(forS (fun i s=>zbB.b0 zct i s) ((r6.length:Int) - 0).toNat 0 (⟨a0.kind,a0.name,a0.other,a0.form,r6⟩ : PTerm)).bind fun (o11:PTerm)=>some (⟨o11.kind,o11.name,o11.other,o11.form,o11.sub⟩ : PTerm)
def zbB.f:Nat→PTerm→Option PTerm
 | 0=>fun _=>none
 | k + 1=>zbB.g (zbB.f k)
def zbC.b0 (zcy:PTerm→Option PTerm) (i20:Int) (x20_0:PTerm):Option PTerm :=
 chk (inb i20 x20_0.sub.length) ((zcy (at_ PTerm.z x20_0.sub i20)).bind fun r32=>chk (inb i20 x20_0.sub.length) (some (⟨x20_0.kind,x20_0.name,x20_0.other,x20_0.form,x20_0.sub.set (Int.toNat i20) r32⟩ : PTerm)))
def zbC.g (zcy:PTerm→Option PTerm) (a0:PTerm):Option PTerm :=
 if decide (a0.kind=11) then chk (inb 0 a0.sub.length) ((zcy (at_ PTerm.z a0.sub 0)).bind fun r9=>some r9) else (zaz.f a0.sub).bind fun r15=>(forS (fun i s=>zbC.b0 zcy i s) ((r15.length:Int) - 0).toNat 0 (⟨a0.kind,a0.name,a0.other,a0.form,r15⟩ : PTerm)).bind fun (o20:PTerm)=>some (⟨o20.kind,o20.name,o20.other,o20.form,o20.sub⟩ : PTerm)
def zbC.f:Nat→PTerm→Option PTerm
 | 0=>fun _=>none
 | k + 1=>zbC.g (zbC.f k)
def zbD.f (k:Nat) (a0:PTerm):Option (PTerm × Int) :=
 (zaK.f k a0).bind fun r5=>if decide (r5 ≠ 0) then some ((⟨0,ByteArray.empty,ByteArray.empty,0,[]⟩ : PTerm),r5) else (zbC.f k a0).bind fun r10=>some (r10,0)
def zbE.g (zcv:Tb→PTerm→List Int→Option (PTerm × Int)) (k:Nat) (a0:Tb) (a1:PTerm) (a2:List Int):Option (PTerm × Int) :=
 if decide ((a2.length:Int)=0) then (zbA.f a0 a1).bind fun r6=>if !r6.2 then some ((⟨0,ByteArray.empty,ByteArray.empty,0,[]⟩ : PTerm),140) else (zbz.f k r6.1 a0 a1).bind fun r21=>some (r21.1,r21.2) else chk (inb 0 a2.length) (if (decide (at_ (0:Int) a2 0 < 0)) || (decide ((a1.sub.length:Int) ≤ at_ (0:Int) a2 0)) then some ((⟨0,ByteArray.empty,ByteArray.empty,0,[]⟩ : PTerm),140) else chk (inb (at_ (0:Int) a2 0) a1.sub.length) (chk (decide ((0:Int) ≤ 1∧1 ≤ (a2.length:Int))) ((zcv a0 (at_ PTerm.z a1.sub (at_ (0:Int) a2 0)) (a2.drop ((1:Int)).toNat)).bind fun r38=>if decide (r38.2 ≠ 0) then some ((⟨0,ByteArray.empty,ByteArray.empty,0,[]⟩ : PTerm),r38.2) else (zaz.f a1.sub).bind fun r62=>chk (inb (at_ (0:Int) a2 0) r62.length) (some ((⟨a1.kind,a1.name,a1.other,a1.form,r62.set (Int.toNat (at_ (0:Int) a2 0)) r38.1⟩ : PTerm),0)))))
def zbE.f:Nat→Tb→PTerm→List Int→Option (PTerm × Int)
 | 0=>fun _ _ _=>none
 | k + 1=>zbE.g (zbE.f k) k
def zbF.f (k:Nat) (a0:Tb) (a1:PTerm) (a2:List Int):Option (PTerm × Int) :=
 (zbE.f k a0 a1 a2).bind fun r5=>(if (decide (r5.2=0)) then zaK.f k r5.1 else some 0).bind fun r12=>if (decide (r5.2=0)) && (decide (r12 ≠ 0)) then if decide (121 ≠ 0) then some ((⟨0,ByteArray.empty,ByteArray.empty,0,[]⟩ : PTerm),121) else (zbB.f k r5.1).bind fun r17=>some (r17,0) else if decide (r5.2 ≠ 0) then some ((⟨0,ByteArray.empty,ByteArray.empty,0,[]⟩ : PTerm),r5.2) else (zbB.f k r5.1).bind fun r24=>some (r24,0)
def zbG.f (k:Nat) (a0:Tb) (a1:PTerm) (a2:List Int):Option (PTerm × Int) :=
 (zbk.f k a0 a1).bind fun r5=>if decide (r5.2 ≠ 0) then some ((⟨0,ByteArray.empty,ByteArray.empty,0,[]⟩ : PTerm),r5.2) else chk r5.1 ((zbF.f k a0 a1 a2).bind fun r11=>some (r11.1,r11.2))
def zbH.f (a0:List Int) (a1:List (List Int)):Option (List (List Int) × Bool) :=
 (zaA.f a0).bind fun r10=>chk (decide ((a1.length + 1) * 24 ≤ 140737488355328)) (some (a1 ++ [r10],decide (((a1 ++ [r10]).length:Int) < 1000)))
def zbI.b0 (a2:List Int) (zcw:Tb→PTerm→List Int→List (List Int)→Option (List (List Int) × Bool)) (a0:Tb) (a1:PTerm) (i14:Int) (x14_0:List (List Int)):Option (Stp (List (List Int)) (List (List Int) × Bool)) :=
 chk (decide (0 ≤ (a2.length:Int)∧(a2.length:Int) ≤ (a2.length:Int))) (chk (decide (((a2.take (Int.toNat (a2.length:Int))).length + ([i14]).length) * 8 ≤ 140737488355328)) ((zcw a0 (at_ PTerm.z a1.sub i14) ((a2.take (Int.toNat (a2.length:Int))) ++ [i14]) x14_0).bind fun r43=>if !r43.2 then some (.ret (r43.1,false)) else some (.go r43.1)))
def zbI.g (zcw:Tb→PTerm→List Int→List (List Int)→Option (List (List Int) × Bool)) (a0:Tb) (a1:PTerm) (a2:List Int) (a3_0:List (List Int)):Option (List (List Int) × Bool) :=
 (zbA.f a0 a1).bind fun r3=>(if r3.2 then zbH.f a2 a3_0 else some (a3_0,false)).bind fun r9=>if r3.2 && (!r9.2) then some (r9.1,false) else (forN (fun i s=>zbI.b0 a2 zcw a0 a1 i s) ((a1.sub.length:Int) - 0).toNat 0 r9.1).bind (aft fun (s14:List (List Int))=>some (s14,true))
def zbI.f:Nat→Tb→PTerm→List Int→List (List Int)→Option (List (List Int) × Bool)
 | 0=>fun _ _ _ _=>none
 | k + 1=>zbI.g (zbI.f k)
def zbJ.f (k:Nat) (a0:Tb) (a1:PTerm):Option (List (List Int) × Int) :=
 (zbk.f k a0 a1).bind fun r3=>if decide (r3.2 ≠ 0) then some (([]:List (List Int)),r3.2) else chk r3.1 ((zbI.f k a0 a1 ([]) ([]:List (List Int))).bind fun r10=>some (r10.1,0))
def zbK.f (k:Nat) (a0:Tb) (a1:PTerm):Option (Bool × Int) :=
 (zbJ.f k a0 a1).bind fun r3=>some ((decide (r3.2=0)) && (decide ((r3.1.length:Int)=0)),r3.2)
def zbL.f (a0:List Int) (a1:List Int):Option (List Int × Bool) :=
 (zaA.f a0).bind fun r1=>some (r1,false)
def zbM.b0 (a2:List Int) (zcx:Tb→PTerm→List Int→List Int→Option (List Int × Bool)) (a0:Tb) (a1:PTerm) (i14:Int) (x14_0:List Int):Option (Stp (List Int) (List Int × Bool)) :=
 chk (decide (0 ≤ (a2.length:Int)∧(a2.length:Int) ≤ (a2.length:Int))) (chk (decide (((a2.take (Int.toNat (a2.length:Int))).length + ([i14]).length) * 8 ≤ 140737488355328)) ((zcx a0 (at_ PTerm.z a1.sub i14) ((a2.take (Int.toNat (a2.length:Int))) ++ [i14]) x14_0).bind fun r43=>if !r43.2 then some (.ret (r43.1,false)) else some (.go r43.1)))
def zbM.g (zcx:Tb→PTerm→List Int→List Int→Option (List Int × Bool)) (a0:Tb) (a1:PTerm) (a2:List Int) (a3_0:List Int):Option (List Int × Bool) :=
 (zbA.f a0 a1).bind fun r3=>(if r3.2 then zbL.f a2 a3_0 else some (a3_0,false)).bind fun r9=>if r3.2 && (!r9.2) then some (r9.1,false) else (forN (fun i s=>zbM.b0 a2 zcx a0 a1 i s) ((a1.sub.length:Int) - 0).toNat 0 r9.1).bind (aft fun (s14:List Int)=>some (s14,true))
def zbM.f:Nat→Tb→PTerm→List Int→List Int→Option (List Int × Bool)
 | 0=>fun _ _ _ _=>none
 | k + 1=>zbM.g (zbM.f k)
def zbN.b0 (k:Nat) (a0:Tb) (a2:Int) (x19_0:Int) (x19_1:PTerm) (x19_2:PTerm):Option (Stp (Int × PTerm × PTerm) (PTerm × Int × Bool × Int)) :=
 (zbM.f k a0 x19_1 ([]) ([]:List Int)).bind fun r28=>if r28.2 then some (.brk (x19_0,x19_1,x19_2)) else if decide (x19_0=a2) then some (.ret (x19_1,x19_0,false,0)) else (zbF.f k a0 x19_1 r28.1).bind fun r35=>if decide (r35.2 ≠ 0) then some (.ret (x19_1,x19_0,false,r35.2)) else some (.go (IntKind.i64.wrap (x19_0 + 1),r35.1,x19_2))
def zbN.f (k:Nat) (a0:Tb) (a1:PTerm) (a2:Int):Option (PTerm × Int × Bool × Int) :=
 (zbk.f k a0 a1).bind fun r5=>if decide (r5.2 ≠ 0) then some ((⟨0,ByteArray.empty,ByteArray.empty,0,[]⟩ : PTerm),0,false,r5.2) else if (decide (a2 < 0)) || (decide (4096 < a2)) then some ((⟨0,ByteArray.empty,ByteArray.empty,0,[]⟩ : PTerm),0,false,2) else (zbB.f k a1).bind fun r13=>chk r5.1 ((iter (fun s=>zbN.b0 k a0 a2 s.1 s.2.1 s.2.2) k (0,r13,(⟨0,ByteArray.empty,ByteArray.empty,0,[]⟩ : PTerm))).bind (aft fun (s19:Int × PTerm × PTerm)=>some (s19.2.1,s19.1,true,0)))
end
section
open Gw
def zbO.b0 (a0:List Nd) (i5:Int) (x5_0:Tb):Option (Stp Tb (Tb × Int)) :=
 (zav.f x5_0 (at_ Nd.z a0 i5)).bind fun r11=>if (decide (r11.2.2=0)) && (decide (r11.2.1 ≠ i5)) then if decide (31 ≠ 0) then some (.ret (none,31)) else some (.go r11.1) else if decide (r11.2.2 ≠ 0) then some (.ret (none,r11.2.2)) else some (.go r11.1)
def zbO.f (a0:List Nd):Option (Tb × Int) :=
 (zay.f).bind fun r1=>(forN (fun i s=>zbO.b0 a0 i s) ((a0.length:Int) - 0).toNat 0 r1).bind (aft fun (s5:Tb)=>some (s5,0))
def zbP.b0 (a1:List Int) (a0:List Int) (i2:Int):Option (Stp Unit Bool) :=
 chk (inb i2 a1.length) (if decide (at_ (0:Int) a0 i2 ≠ at_ (0:Int) a1 i2) then some (.ret false) else some (.go ()))
def zbP.f (a0:List Int) (a1:List Int):Option Bool :=
 if decide ((a0.length:Int) ≠ (a1.length:Int)) then some false else (forN (fun i s=>zbP.b0 a1 a0 i) ((a0.length:Int) - 0).toNat 0 ()).bind (aft fun (s2:Unit)=>some true)
def zbQ.f (a0:Tb) (a1:Int):Option Bool :=
 chk a0.isSome (some ((decide (0 ≤ a1)) && (decide (a1 < ((a0.getD []).length:Int)))))
def zbR.b0 (a0:Tb) (a1:Nd) (i4:Int):Option (Stp Unit (Int × Bool)) :=
 if decide (at_ Nd.z (a0.getD []) i4=a1) then some (.ret (i4,true)) else some (.go ())
def zbR.f (a0:Tb) (a1:Nd):Option (Int × Bool) :=
 chk a0.isSome ((forN (fun i s=>zbR.b0 a0 a1 i) (((a0.getD []).length:Int) - 0).toNat 0 ()).bind (aft fun (s4:Unit)=>some (0,false)))
def zbS.f (a0:Tb) (a1:Nd):Option (Tb × Int × Int) :=
 (if decide (a1.kind=1) then if (decide (a1.l ≠ 0)) || (decide (a1.r ≠ 0)) then some (.inr (a0,0,31)) else (zax.f a1.name).bind fun r6=>if !r6 then some (.inr (a0,0,32)) else some (.inl a0) else if decide (a1.kind=2) then if ((decide (a1.name ≠ (⟨#[]⟩ : ByteArray))) || (decide (a1.l ≠ 0))) || (decide (a1.r ≠ 0)) then some (.inr (a0,0,31)) else some (.inl a0) else (if decide (a1.kind=3) then some (decide (a1.kind=3)) else if decide (a1.kind=4) then some (decide (a1.kind=4)) else some (decide (a1.kind=5))).bind fun (o12:Bool)=>if o12 then (if (!(decide (a1.name ≠ (⟨#[]⟩ : ByteArray)))) then zbQ.f a0 a1.l else some false).bind fun r18=>(if (!((decide (a1.name ≠ (⟨#[]⟩ : ByteArray))) || (!r18))) then zbQ.f a0 a1.r else some false).bind fun r20=>if ((decide (a1.name ≠ (⟨#[]⟩ : ByteArray))) || (!r18)) || (!r20) then some (.inr (a0,0,31)) else some (.inl a0) else some (.inr (a0,0,31))).bind (aft fun (s3:Tb)=>(zbR.f s3 a1).bind fun r25=>if r25.2 then some (s3,r25.1,0) else chk s3.isSome (if decide (1024 ≤ ((s3.getD []).length:Int)) then some ((some (s3.getD [])),0,30) else chk (decide (((s3.getD []).length + 1) * 40 ≤ 140737488355328)) (some ((some ((s3.getD []) ++ [a1])),IntKind.i64.wrap ((((s3.getD []) ++ [a1]).length:Int) - 1),0))))
def zbT.b0 (a0:List Nd) (i3:Int) (x3_0:Tb):Option (Stp Tb (Tb × Int)) :=
 (zbS.f x3_0 (at_ Nd.z a0 i3)).bind fun r6=>if decide (r6.2.2 ≠ 0) then some (.ret (none,r6.2.2)) else if decide (r6.2.1 ≠ i3) then some (.ret (none,31)) else some (.go r6.1)
def zbT.f (a0:List Nd):Option (Tb × Int) :=
 (forN (fun i s=>zbT.b0 a0 i s) ((a0.length:Int) - 0).toNat 0 (some [])).bind (aft fun (s3:Tb)=>some (s3,0))
def zbU.f (a0:List Nd):Option (Tb × Tb × Bool) :=
 chk (decide ((([]:List Nd).length + a0.length) * 40 ≤ 140737488355328)) ((zbT.f a0).bind fun r7=>if decide (r7.2 ≠ 0) then some (none,none,false) else (zbO.f (([]:List Nd) ++ a0)).bind fun r12=>some (r12.1,r7.1,true))
end
section
open Gw
def zbV.f (a0:Tb) (a1:ByteArray):Option (Tb × Int × Int) :=
 (zav.f a0 ({ Nd.z with kind:=1,name:=a1 })).bind fun r1=>some (r1.1,r1.2.1,r1.2.2)
def zbW.f (a0:Int):Option Int :=
 some a0
def zbX.f (a0:ByteArray):Option PTerm :=
 some (⟨1,a0,ByteArray.empty,0,[]⟩ : PTerm)
def zbY.b0 (a0:PTerm) (a1:PTerm) (zcA:PTerm→PTerm→Option Bool) (x6_0:Int):Option (Stp Int Bool) :=
 if decide (x6_0 < (a0.sub.length:Int)) then chk (inb x6_0 a0.sub.length) (chk (inb x6_0 a1.sub.length) ((zcA (at_ PTerm.z a0.sub x6_0) (at_ PTerm.z a1.sub x6_0)).bind fun r15=>if !r15 then some (.ret false) else some (.go (IntKind.i64.wrap (x6_0 + 1))))) else some (.brk x6_0)
def zbY.g (zcA:PTerm→PTerm→Option Bool) (k:Nat) (a0:PTerm) (a1:PTerm):Option Bool :=
 if ((((decide (a0.kind ≠ a1.kind)) || (decide (a0.name ≠ a1.name))) || (decide (a0.other ≠ a1.other))) || (decide (a0.form ≠ a1.form))) || (decide ((a0.sub.length:Int) ≠ (a1.sub.length:Int))) then some false else (iter (fun s=>zbY.b0 a0 a1 zcA s) k 0).bind (aft fun (s6:Int)=>some true)
def zbY.f:Nat→PTerm→PTerm→Option Bool
 | 0=>fun _ _=>none
 | k + 1=>zbY.g (zbY.f k) k
def zbZ.b0 (a1:List (List Int)) (a0:List (List Int)) (i2:Int):Option (Stp Unit Bool) :=
 chk (inb i2 a1.length) ((zbP.f (at_ [] a0 i2) (at_ [] a1 i2)).bind fun r11=>if !r11 then some (.ret false) else some (.go ()))
def zbZ.f (a0:List (List Int)) (a1:List (List Int)):Option Bool :=
 if decide ((a0.length:Int) ≠ (a1.length:Int)) then some false else (forN (fun i s=>zbZ.b0 a1 a0 i) ((a0.length:Int) - 0).toNat 0 ()).bind (aft fun (s2:Unit)=>some true)
end
section
open Gw
def zca.f (k:Nat)  : Option Bool :=
 (zay.f).bind fun r1=>(zbV.f r1 (⟨#[112]⟩ : ByteArray)).bind fun r5=>(zau.f r5.1 r5.2.1 r5.2.1).bind fun r8=>(zbX.f (⟨#[120]⟩ : ByteArray)).bind fun r11=>(zbX.f (⟨#[121]⟩ : ByteArray)).bind fun r24=>(zbG.f k r8.1 (⟨3,ByteArray.empty,ByteArray.empty,0,[(⟨11,ByteArray.empty,ByteArray.empty,r8.2.1,[(⟨2,(⟨#[120]⟩ : ByteArray),ByteArray.empty,0,[r11]⟩ : PTerm)]⟩ : PTerm),r24]⟩ : PTerm) ([])).bind fun r50=>(zbJ.f k r8.1 r50.1).bind fun r57=>(zbN.f k r8.1 (⟨3,ByteArray.empty,ByteArray.empty,0,[(⟨11,ByteArray.empty,ByteArray.empty,r8.2.1,[(⟨2,(⟨#[120]⟩ : ByteArray),ByteArray.empty,0,[r11]⟩ : PTerm)]⟩ : PTerm),r24]⟩ : PTerm) 9).bind fun r61=>(zbD.f k (⟨3,ByteArray.empty,ByteArray.empty,0,[(⟨11,ByteArray.empty,ByteArray.empty,r8.2.1,[(⟨2,(⟨#[120]⟩ : ByteArray),ByteArray.empty,0,[r11]⟩ : PTerm)]⟩ : PTerm),r24]⟩ : PTerm)).bind fun r68=>(zbX.f (⟨#[121]⟩ : ByteArray)).bind fun r75=>(zbK.f k r8.1 r75).bind fun r79=>(zbX.f (⟨#[121]⟩ : ByteArray)).bind fun r82=>(zbG.f k r8.1 r82 ([])).bind fun r86=>(zbX.f (⟨#[121]⟩ : ByteArray)).bind fun r93=>(zbW.f r50.2).bind fun r130=>chk (decide (r130=0)) ((zbY.f k r50.1 (⟨11,ByteArray.empty,ByteArray.empty,r5.2.1,[(⟨11,ByteArray.empty,ByteArray.empty,r5.2.1,[r93]⟩ : PTerm)]⟩ : PTerm)).bind fun r134=>chk ((decide (r130=0)) && r134) ((zbW.f r57.2).bind fun r138=>chk (((decide (r130=0)) && r134) && (decide (r138=0))) ((zbZ.f r57.1 ([([]:List Int),[0]])).bind fun r148=>chk ((((decide (r130=0)) && r134) && (decide (r138=0))) && r148) ((zbW.f r61.2.2.2).bind fun r152=>chk (((((decide (r130=0)) && r134) && (decide (r138=0))) && r148) && (decide (r152=0))) (chk ((((((decide (r130=0)) && r134) && (decide (r138=0))) && r148) && (decide (r152=0))) && (decide (r61.2.1=3))) (chk (((((((decide (r130=0)) && r134) && (decide (r138=0))) && r148) && (decide (r152=0))) && (decide (r61.2.1=3))) && r61.2.2.1) ((zbX.f (⟨#[121]⟩ : ByteArray)).bind fun r158=>(zbY.f k r61.1 r158).bind fun r162=>chk ((((((((decide (r130=0)) && r134) && (decide (r138=0))) && r148) && (decide (r152=0))) && (decide (r61.2.1=3))) && r61.2.2.1) && r162) ((zbW.f r68.2).bind fun r166=>chk (((((((((decide (r130=0)) && r134) && (decide (r138=0))) && r148) && (decide (r152=0))) && (decide (r61.2.1=3))) && r61.2.2.1) && r162) && (decide (r166=0))) ((if (((((((((decide (r130=0)) && r134) && (decide (r138=0))) && r148) && (decide (r152=0))) && (decide (r61.2.1=3))) && r61.2.2.1) && r162) && (decide (r166=0))) then zbY.f k r68.1 (⟨3,ByteArray.empty,ByteArray.empty,0,[(⟨2,(⟨#[120]⟩ : ByteArray),ByteArray.empty,0,[r11]⟩ : PTerm),r158]⟩ : PTerm) else some false).bind fun r215=>(if ((((((((((decide (r130=0)) && r134) && (decide (r138=0))) && r148) && (decide (r152=0))) && (decide (r61.2.1=3))) && r61.2.2.1) && r162) && (decide (r166=0))) && r215) then zbW.f r79.2 else some 0).bind fun r217=>(if ((((((((((((decide (r130=0)) && r134) && (decide (r138=0))) && r148) && (decide (r152=0))) && (decide (r61.2.1=3))) && r61.2.2.1) && r162) && (decide (r166=0))) && r215) && (decide (r217=0))) && r79.1) then zbW.f r86.2 else some 0).bind fun r219=>some (((((((((((((decide (r130=0)) && r134) && (decide (r138=0))) && r148) && (decide (r152=0))) && (decide (r61.2.1=3))) && r61.2.2.1) && r162) && (decide (r166=0))) && r215) && (decide (r217=0))) && r79.1) && (decide (r219=140))))))))))))
end
section
open Gw
def zcb.f (a0:List Nd):Option (Tb × Tb) :=
 (zbU.f a0).bind fun r1=>if !r1.2.2 then (zay.f).bind fun r7=>some (r7,(some [])) else some (r1.1,r1.2.1)
def zcc.b0 (a0:PTerm) (zcz:PTerm→Option PTerm) (x9_0:Int) (x9_1:PTerm):Option (Stp (Int × PTerm) PTerm) :=
 if decide (x9_0 < (a0.sub.length:Int)) then chk (inb x9_0 a0.sub.length) ((zcz (at_ PTerm.z a0.sub x9_0)).bind fun r19=>chk (decide ((x9_1.sub.length + 1) * 72 ≤ 140737488355328)) (some (.go (IntKind.i64.wrap (x9_0 + 1),(⟨x9_1.kind,x9_1.name,x9_1.other,x9_1.form,x9_1.sub ++ [r19]⟩ : PTerm))))) else some (.brk (x9_0,x9_1))
def zcc.g (zcz:PTerm→Option PTerm) (k:Nat) (a0:PTerm):Option PTerm :=
 (iter (fun s=>zcc.b0 a0 zcz s.1 s.2) k (0,(⟨a0.kind,a0.name,a0.other,a0.form,([]:List PTerm)⟩ : PTerm))).bind (aft fun (s9:Int × PTerm)=>some (⟨s9.2.kind,s9.2.name,s9.2.other,s9.2.form,s9.2.sub⟩ : PTerm))
def zcc.f:Nat→PTerm→Option PTerm
 | 0=>fun _=>none
 | k + 1=>zcc.g (zcc.f k) k
end
end Go.Proofs.YtmggdbbmmkkplaaGreatDoor
section
namespace Go.Proofs
open Go.Shelf Go.RowKit Go.Sort Go.Lib
def Tryz.lays190_ren:Go.Shelf.Ren:=⟨fun | 190=>59 | 125=>89 | 258=>88 | 128=>152 | 129=>153 | 302=>143 | 303=>144 | 304=>145 | 305=>146 | 306=>147 | 307=>148 | 308=>149 | 309=>150 | 310=>151 | 333=>170 | 329=>171 | 330=>172 | 334=>173 | 335=>174 | 336=>175 | 344=>185 | n=>n,fun | 31=>71 | 9=>9 | 3=>3 | 46=>144 | 0=>0 | 51=>196 | 53=>198 | 4=>4 | 183=>189 | 182=>188 | 131=>185 | 5=>5 | 218=>222 | 222=>226 | 228=>245 | 229=>162 | n=>n,fun | n=>n⟩
theorem Tryz.lays190:Go.Proofs.Lays.n190 Tryz.prog Tryz.lays190_ren:={
 mixed:=by kernel_rfl
 f125:=Tryz.func89.trans (congrArg some (by kernel_rfl))
 f128:=Tryz.func152.trans (congrArg some (by kernel_rfl))
 f129:=Tryz.func153.trans (congrArg some (by kernel_rfl))
 f190:=Tryz.func59.trans (congrArg some (by kernel_rfl))
 f258:=Tryz.func88.trans (congrArg some (by kernel_rfl))
 f302:=Tryz.func143.trans (congrArg some (by kernel_rfl))
 f303:=Tryz.func144.trans (congrArg some (by kernel_rfl))
 f304:=Tryz.func145.trans (congrArg some (by kernel_rfl))
 f305:=Tryz.func146.trans (congrArg some (by kernel_rfl))
 f306:=Tryz.func147.trans (congrArg some (by kernel_rfl))
 f307:=Tryz.func148.trans (congrArg some (by kernel_rfl))
 f308:=Tryz.func149.trans (congrArg some (by kernel_rfl))
 f309:=Tryz.func150.trans (congrArg some (by kernel_rfl))
 f310:=Tryz.func151.trans (congrArg some (by kernel_rfl))
 f329:=Tryz.func171.trans (congrArg some (by kernel_rfl))
 f330:=Tryz.func172.trans (congrArg some (by kernel_rfl))
 f333:=Tryz.func170.trans (congrArg some (by kernel_rfl))
 f334:=Tryz.func173.trans (congrArg some (by kernel_rfl))
 f335:=Tryz.func174.trans (congrArg some (by kernel_rfl))
 f336:=Tryz.func175.trans (congrArg some (by kernel_rfl))
 f344:=Tryz.func185.trans (congrArg some (by kernel_rfl))
 t0:=Tryz.underlying0
 a0:=Tryz.isAgg0
 z0:=Tryz.sizeOf0
 v0:=Tryz.zeroValue0
 t3:=Tryz.underlying3
 a3:=Tryz.isAgg3
 z3:=Tryz.sizeOf3
 v3:=Tryz.zeroValue3
 t4:=Tryz.underlying4
 a4:=Tryz.isAgg4
 z4:=Tryz.sizeOf4
 v4:=Tryz.zeroValue4
 t5:=Tryz.underlying5
 a5:=Tryz.isAgg5
 z5:=Tryz.sizeOf5
 v5:=Tryz.zeroValue5
 t9:=Tryz.underlying9
 a9:=Tryz.isAgg9
 z9:=Tryz.sizeOf9
 v9:=Tryz.zeroValue9
 t31:=Tryz.underlying71
 a31:=Tryz.isAgg71
 z31:=Tryz.sizeOf71
 v31:=Tryz.zeroValue71
 t46:=Tryz.underlying144
 a46:=Tryz.isAgg144
 z46:=Tryz.sizeOf144
 v46:=Tryz.zeroValue144
 t51:=Tryz.underlying196
 a51:=Tryz.isAgg196
 z51:=Tryz.sizeOf196
 v51:=Tryz.zeroValue196
 t53:=Tryz.underlying198
 a53:=Tryz.isAgg198
 z53:=Tryz.sizeOf198
 v53:=Tryz.zeroValue198
 t131:=Tryz.underlying185
 a131:=Tryz.isAgg185
 z131:=Tryz.sizeOf185
 v131:=Tryz.zeroValue185
 t182:=Tryz.underlying188
 a182:=Tryz.isAgg188
 z182:=Tryz.sizeOf188
 v182:=Tryz.zeroValue188
 t183:=Tryz.underlying189
 a183:=Tryz.isAgg189
 z183:=Tryz.sizeOf189
 v183:=Tryz.zeroValue189
 t218:=Tryz.underlying222
 a218:=Tryz.isAgg222
 z218:=Tryz.sizeOf222
 v218:=Tryz.zeroValue222
 t222:=Tryz.underlying226
 a222:=Tryz.isAgg226
 z222:=Tryz.sizeOf226
 v222:=Tryz.zeroValue226
 t228:=Tryz.underlying245
 a228:=Tryz.isAgg245
 z228:=Tryz.sizeOf245
 v228:=Tryz.zeroValue245
 t229:=Tryz.underlying162
 a229:=Tryz.isAgg162
 z229:=Tryz.sizeOf162
 v229:=Tryz.zeroValue162 }
theorem Tryz.slices_Sort_string (blk off cap:Nat) (ss:List (List UInt8)) (w:World) (hH:Holds encStr w blk off ss.toArray) (hblk:blk < w.heap.size) (hsz:ss.length < 4611686018427387904) :
  Calls Tryz.prog 59 #[.slice (some ⟨blk,off,none⟩) ss.length cap] w fun e w' =>
   e = .returned (.tuple #[]) ∧ ∃ n os,w'=grow (putRow encStr (Sort.ahead w n) blk off (ss.mergeSort fun x y=>decide (x ≤ y)).toArray) os:=Any.slices_Sort_string Tryz.lays190 blk off cap ss w hH hblk hsz
theorem Tryz.slices_Sort_string_none (p:Option Addr) (cap:Nat) (w:World) :
  Calls Tryz.prog 59 #[.slice p 0 cap] w fun e w'=>e = .returned (.tuple #[])∧w'=w:=Any.slices_Sort_string_none Tryz.lays190 p cap w
end Go.Proofs
end
namespace Go.Proofs.YtmggdbbmmkkplaaGreatDoor
section
open Gw Go.RowKit Go.Sort Go.Proofs
def kP (l:List ByteArray):List ByteArray:=((l.map fun b=>b.data.toList).mergeSort fun x y=>decide (x ≤ y)).map fun l=>(⟨l.toArray⟩ : ByteArray)
theorem bytes_eta (b:ByteArray):(⟨b.data.toList.toArray⟩ : ByteArray)=b:=by cases b; simp
theorem sortB_perm (l:List ByteArray):(kP l).Perm l:=by
 unfold kP
 refine ((List.mergeSort_perm _ _).map _).trans ?_
 rw [List.map_map]
 have:(fun l=>(⟨l.toArray⟩ : ByteArray)) ∘ (fun b:ByteArray=>b.data.toList)=id:=by funext b; exact bytes_eta b
 rw [this,List.map_id]
theorem sortB_len (l:List ByteArray):(kP l).length=l.length:=(sortB_perm l).length_eq
theorem sortB_of {l l':List ByteArray} (h:l.Perm l'):kP l=kP l':=by
 unfold kP
 exact congrArg _ (mergeSort_of_perm (h.map _))
theorem slices_Sort_st {A:Nat→Prop} {N:Oth} {w:World} {l:List ByteArray} {s:SlV} (S:St A N w w [oS vS 1 SC s l] []) :
  Calls PP ki #[s.v] w <| Rt fun v w'=>v = .tuple #[]∧St A N w w' [oS vS 1 SC s (kP l)] []:=by
 have ho:=S.sl 0
 have hlen:=S.lenO 0
 rcases ho.own with ⟨rfl,hnil⟩ | ⟨g,cap,cur,rfl,h0,hb,h1,h2,h3⟩
 ·have:l=[]:=by simpa using hnil
  subst this
  have hv:SlV.nil.v = .slice none 0 0:=SlV.nil_eq.symm
  rw [hv]
  refine (Tryz.slices_Sort_string_none none 0 w).mono fun e w' ⟨he,hw⟩ => ?_
  subst hw
  refine ⟨_,he,rfl,?_⟩
  have:kP []=[]:=List.eq_nil_of_length_eq_zero (by rw [sortB_len]; rfl)
  rw [this]; exact S
 ·have hn:(l.map SC).length=l.length:=by simp
  have hfl:(l.map SC).flatten=(l.map fun b=>b.data.toList).map encStr:=by
   rw [List.map_map]
   clear h3 h2 h1 hb h0 ho hlen S hn
   induction l with
   | nil=>rfl
   | cons b l ih=>simp only [List.map_cons,List.flatten_cons,ih,SC]; show [Value.string b] ++ _=_; rw [← bytes_eta b]; rfl
  have hsl:(l.map fun b=>b.data.toList).length=l.length:=by simp
  rw [hn] at h1 h3
  rw [hfl,Nat.mul_one] at h3
  have hH:Holds encStr w g 0 (l.map fun b=>b.data.toList).toArray:=holds_of_block hb (by rw [hsl]; exact h3)
  have hg:=(Array.getElem?_eq_some_iff.1 hb).1
  have hc:=Tryz.slices_Sort_string g 0 cap (l.map fun b=>b.data.toList) w hH hg (by rw [hsl]; omega)
  rw [hsl] at hc
  have hv:SlV.v ⟨some ⟨g,0,none⟩,(l.map SC).length,cap⟩ = .slice (some ⟨g,0,none⟩) l.length cap:=by rw [SlV.eq,hn]
  rw [hv]
  refine hc.mono fun e w' ⟨he,k,os,hw⟩ => ⟨_,he,rfl,?_⟩
  have hts:((l.map fun b=>b.data.toList).mergeSort fun x y=>decide (x ≤ y)).length=l.length:=by simp
  have hfs:((kP l).map SC).flatten=((l.map fun b=>b.data.toList).mergeSort fun x y=>decide (x ≤ y)).map encStr:=by
   unfold kP
   rw [List.map_map]
   generalize (l.map fun b=>b.data.toList).mergeSort (fun x y=>decide (x ≤ y))=L
   clear hw he
   induction L with
   | nil=>rfl
   | cons b L ih=>simp only [List.map_cons,List.flatten_cons,ih]; rfl
  have hso:((kP l).map SC).length=(l.map SC).length:=by simp [sortB_len]
  generalize ((l.map fun b=>b.data.toList).mergeSort fun x y=>decide (x ≤ y))=ts at hw hts hfs
  have hcap:cap ≤ cur.size:=by omega
  have hO:Own w' 0 vS 1 ⟨some ⟨g,0,none⟩,(l.map SC).length,cap⟩ ((kP l).map SC):=by
   refine ⟨.inr ⟨g,cap,putCells encStr 0 ts.toArray cur,by rw [hso],Nat.zero_le _,by rw [hw]; exact heap_sorted _ hb,by rw [hso,hn]; exact h1,by simp [putCells]; omega,?_⟩,?_⟩
   ·rw [hso,hn,Nat.mul_one,hfs,← hts]; exact take_putCells cur ts zan
   ·intro r hr
    obtain ⟨b,_,rfl⟩ := List.mem_map.1 hr
    rfl
  have hC:Chg (SlV.fp ⟨some ⟨g,0,none⟩,(l.map SC).length,cap⟩) w w':=by
   rw [hw]
   refine ⟨rfl,rfl,rfl,by simp,fun j hj hne=>?_,fun a ha=>?_⟩
   ·rw [heap_grow_old _ _ (by simpa using hj)]
    have:g ≠ j:=fun e=>hne ⟨by simp,e.symm⟩
    simp [putRow,mapBlock,Sort.ahead,Array.getElem?_modify,this]
   ·rw [frozen?_grow _ _ _ (by simpa using ha),frozen?_putRow]; rfl
  exact S.push 0 hO (by rw [sortB_len]; exact hlen) hC (fun i hi => .inl hi)
end
section
open Gw
def zcd.f (k:Nat) (a0:PTerm):Option (List ByteArray × Int) :=
 (zaK.f k a0).bind fun r3=>if decide (r3 ≠ 0) then some (([]:List ByteArray),r3) else (zbo.f k a0).bind fun r7=>chk (decide (r7.length * 16 ≤ 140737488355328)) (some (kP (r7.map (·.1)),0))
end
section
open Gw
def zce.b1 (r8:List ByteArray × Int) (r33:List ByteArray × Int) (i41:Int) (i43:Int) (x43_0:Bool):Option Bool :=
 some (x43_0 || (decide (at_ ByteArray.empty r8.1 i43=at_ ByteArray.empty r33.1 i41)))
def zce.b0 (r8:List ByteArray × Int) (r33:List ByteArray × Int) (i41:Int):Option (Stp Unit Bool) :=
 (forS (fun i s=>zce.b1 r8 r33 i41 i s) ((r8.1.length:Int) - 0).toNat 0 false).bind fun (o43:Bool)=>if !o43 then some (.ret false) else some (.go ())
def zce.f (k:Nat) (a0:List Nd) (a1:PTerm) (a2:Int):Option Bool :=
 (zcb.f a0).bind fun r3=>(zcd.f k a1).bind fun r8=>(zcc.f k a1).bind fun r12=>(zbN.f k r3.1 r12 a2).bind fun r16=>(zbW.f r8.2).bind fun r23=>(if (!(decide (r23 ≠ 0))) then zbW.f r16.2.2.2 else some 0).bind fun r26=>(if (!(decide (r23 ≠ 0))) && (decide (r26 ≠ 0)) then zbW.f r16.2.2.2 else some 0).bind fun r28=>if (decide (r23 ≠ 0)) || ((decide (r26 ≠ 0)) && (decide (r28 ≠ 121))) then (if (decide (r16.2.1=0)) then zca.f k else some false).bind fun r31=>some ((decide (r16.2.1=0)) && r31) else (zcd.f k r16.1).bind fun r33=>(zbW.f r33.2).bind fun r37=>if ((decide (r37 ≠ 0)) || (decide (r16.2.1 < 0))) || (decide (a2 < r16.2.1)) then some false else (forN (fun i s=>zce.b0 r8 r33 i) ((r33.1.length:Int) - 0).toNat 0 ()).bind (aft fun (s41:Unit)=>(zcc.f k a1).bind fun r53=>(zbN.f k r3.1 r53 r16.2.1).bind fun r57=>(zbW.f r57.2.2.2).bind fun r64=>(if ((decide (r64=0)) && (decide (r57.2.1=r16.2.1))) then zbY.f k r16.1 r57.1 else some false).bind fun r67=>(if (((decide (r64=0)) && (decide (r57.2.1=r16.2.1))) && r67) then zca.f k else some false).bind fun r69=>some ((((decide (r64=0)) && (decide (r57.2.1=r16.2.1))) && r67) && r69))
end
section
open Go.RowKit
namespace Gw
section
variable {P:Program} {rd:Option Nat} {n:Nat} {dm:List Nat} {ops:Array Oper} {Q:Post} {f:Fr} {w:World} {rest:List Oper} {ty:TypeId} {pos:String} {af:Array Edge}
theorem wl_gturn2 {dd:Tmp} {op:Op} {j:Nat} {pol c t:Bool} {v:Value} {oj:Oper} {dj:Tmp} {g:FuncId} {args:Array Value} {R:World→Prop} (hj:ops[j]? = some oj) (hdj:oj.dst=some dj) (ht:f dj=gv c (.bool t)) (hdn:dj < n)
  (he:(c && (t == pol))=true→Enters P ⟨some dd,op,ty,pos,af,some (j,pol)⟩ f w g args) (hd:dd < n)
  (hc:(c && (t == pol))=true→Calls P g args w fun e w' => ∃ v',e = .returned v'∧(v'=v∧R w')) (h0:(c && (t == pol))=false→R w)
  (h : ∀ w',R w'→wl P rd n dm ops rest Q (upd f dd (gv (c && (t == pol)) v)) w'):wl P rd n dm ops (⟨some dd,op,ty,pos,af,some (j,pol)⟩ :: rest) Q f w:=fun a ha=>by
 refine wpListIn_step fun K hK=>?_
 rw [km ha rfl hj hdj ht hdn]
 cases hcc:(c && (t == pol)) with
 | true =>
  rw [if_pos rfl]
  refine op_wp ha (he hcc) zao (show _∧_ from ⟨fun h=>(by cases h),?_⟩)
  refine CallsIn.mono (show CallsIn (fen rd) _ P g args w _ from callsIn_wide.2 (hc hcc)) ?_
  rintro e w' ⟨v',rfl,rfl,hx⟩
  have h2:=h w' hx
  rw [hcc,zn rfl] at h2
  exact hK _ _ (h2 _ (ha.put hd _))
 | false =>
  rw [if_neg zao]
  have h2:=h w (h0 hcc)
  rw [hcc,gv_f] at h2
  exact ⟨fun _ _=>trivial,hK _ _ (h2 _ (ha.put hd _))⟩
theorem wl_gturn {dd:Tmp} {op:Op} {j:Nat} {pol t:Bool} {v:Value} {oj:Oper} {dj:Tmp} {g:FuncId} {args:Array Value} {R:World→Prop} (hj:ops[j]? = some oj) (hdj:oj.dst=some dj) (ht:f dj = .bool t) (hdn:dj < n)
  (he:(t == pol)=true→Enters P ⟨some dd,op,ty,pos,af,some (j,pol)⟩ f w g args) (hd:dd < n)
  (hc:(t == pol)=true→Calls P g args w fun e w' => ∃ v',e = .returned v'∧(v'=v∧R w')) (h0:(t == pol)=false→R w)
  (h : ∀ w',R w'→wl P rd n dm ops rest Q (upd f dd (gv (t == pol) v)) w'):wl P rd n dm ops (⟨some dd,op,ty,pos,af,some (j,pol)⟩ :: rest) Q f w :=
 wl_gturn2 (c:=true) hj hdj (by rw [ht]; exact gv_t _) hdn he hd hc h0 h
end
end Gw
end
section
open Gw Go.RowKit
set_option maxHeartbeats 4000000
set_option maxRecDepth 20000
variable {A:Nat→Prop} {N:Oth} {w:World}
theorem vR {a0:Tb} {a_0:Option Addr} {g_0_1:Option Addr} {a1:PTerm} {s_1:SlV} (S:St A N w w [] [oMa a_0 g_0_1 true,oT g_0_1 a0,ze s_1 a1.sub]) {r:Int × Bool} (H:zbA.f a0 a1=some r) :
  Calls PP ju #[.pointer a_0,.agg (tmC a1 s_1).toArray] w <| Rt fun v w'=>(v = .tuple #[.agg (RRule.C (ux r.1)).toArray,.bool r.2]∧St A N w w' [] []):=by
 unfold zbA.f at H
 refine zu (n:=28) Tryz.func69 rfl rfl zao (zb (za ?_))
 refine zH rfl zam fun b2 w1 hw1=>?_
 replace S:=S.new hw1
 refine zQ vV zam fun b4 w3 hw3=>?_
 replace S:=S.new hw3
 refine wd (zi rfl) (zd (zb (zb (za (wd (zB rfl) ?_)))))
 obtain ⟨p5,s7,hp6,S⟩ := S.see_oMa 0
 replace S:=S
 refine wd (zS (congrArg Value.pointer hp6)) (wd (zg fl_Machine_rules rfl (o':=1) rfl) (wd (zl on_L_reduce_rule rfl ((S.blkZ 0).cell (Machine.get_rules _))) (wd (xE xN rfl (S.rd 1)) (wd (zk rfl) ?_))))
 replace S:=S.zs [1,2,3,4]
 refine zd ?_
 refine zL ?_
 refine wc_rounds 9 ?_
 refine jr (zb (za (wd (xp rfl rfl) (zd (zb ?_)))))
 refine jO rfl (zw (zb ?_))
 refine zL (zb (za (wd (xg xN rfl rfl (S.rd 0) zam zam) (wd (zt xc rfl ((S.rd 0).at (vf RRule.z (And.intro zam zam))) (RRule.len _)) ?_))))
 refine zQ vV zam fun b11 w10 hw10=>?_
 replace S:=S.new hw10
 refine z7 xc rfl rfl (S.blk 0) (RRule.len _) (by rw [RRule.len]; decide) (RRule.one _) (xx (RRule.len _)) fun w12 B hw12 zw12=>?_
 replace S:=S.store 0 B hw12
 refine zd (zb ?_)
 obtain ⟨p13,s15,hp14,S⟩ := S.see_oMa 1
 replace S:=S
 refine x0 7 (Ext w12) hmix zap zap (Ext.drawn _) (zC (fun v K=>zg y6 rfl (o':=0) rfl) (zC (fun v K=>zl zY rfl (((S.ext K).blk 0).cell (RRule.get_fits _))) (zC (fun v K=>zB rfl) (zC (fun v K=>zS (congrArg Value.pointer hp14)) (zC (fun v K=>zg y0 rfl (o':=0) rfl) ?_)))))
 refine zC (fun v K=>zl xo rfl (((S.ext K).blkZ 0).cell (Machine.get_t _))) (zC (fun v K=>zt z1 rfl (((S.ext K).blk 2).all _ (Term.len _)) (Term.len _)) ?_)
 refine vj fun w16 K=>?_
 replace S:=S.ext K
 clear K
 obtain ⟨r17,er17,H⟩ := zp H
 obtain ⟨_,_,T,bk⟩ := S.calln 0 ((.z 4 rfl (.z 5 rfl .nil)))
 refine zA (yr ca_reduce_rules_1 rfl) zam (reduce_rules_1_st (a1:=a1) T er17) ?_
 rintro _ w18 ⟨rfl,S2⟩
 replace S:=bk _ _ _ _ S2 rfl
 replace S:=S.zs [1,2,3,4,5]
 refine zd ?_
 refine zI rfl (fun hc20=>?_) (fun hc20=>?_)
 ·replace H:=if_t hc20 H
  refine zb (za (wd (zt xc rfl ((S.blk 0).all _ (RRule.len _)) (RRule.len _)) ?_))
  refine z7 xc rfl rfl (S.blk 1) (RRule.len _) (by rw [RRule.len]; decide) (RRule.one _) (xx (RRule.len _)) fun w21 B hw21 zw21=>?_
  replace S:=S.store 1 B hw21
  refine wd (zi rfl) (zd (zr ?_))
  refine ⟨_,(xm (yS xc rfl ((S.blk 0).all _ (RRule.len _)) (RRule.len _)) (zf rfl)),?_⟩
  replace S:=S.arr [] []
  obtain rfl:=zaq H
  exact ⟨rfl,S⟩
 replace H:=if_f hc20 H
 refine zw (za (wd (xi rfl rfl (c:=1) rfl zam zam) (wd (zk rfl) (zd ?_))))
 refine ⟨rfl,?_⟩
 refine jr (zb (za (wd (xp rfl rfl) (zd (zb ?_)))))
 refine jO rfl (zw (zb ?_))
 refine zL (zb (za (wd (xg xN rfl rfl (S.rd 1) zam zam) (wd (zt xc rfl ((S.rd 1).at (vf RRule.z (And.intro zam zam))) (RRule.len _)) ?_))))
 refine zQ vV zam fun b25 w24 hw24=>?_
 replace S:=S.new hw24
 refine z7 xc rfl rfl (S.blk 0) (RRule.len _) (by rw [RRule.len]; decide) (RRule.one _) (xx (RRule.len _)) fun w26 B hw26 zw26=>?_
 replace S:=S.store 0 B hw26
 refine zd (zb ?_)
 obtain ⟨p27,s29,hp28,S⟩ := S.see_oMa 2
 replace S:=S
 refine x0 7 (Ext w26) hmix zap zap (Ext.drawn _) (zC (fun v K=>zg y6 rfl (o':=0) rfl) (zC (fun v K=>zl zY rfl (((S.ext K).blk 0).cell (RRule.get_fits _))) (zC (fun v K=>zB rfl) (zC (fun v K=>zS (congrArg Value.pointer hp28)) (zC (fun v K=>zg y0 rfl (o':=0) rfl) ?_)))))
 refine zC (fun v K=>zl xo rfl (((S.ext K).blkZ 0).cell (Machine.get_t _))) (zC (fun v K=>zt z1 rfl (((S.ext K).blk 3).all _ (Term.len _)) (Term.len _)) ?_)
 refine vj fun w30 K=>?_
 replace S:=S.ext K
 clear K
 obtain ⟨r31,er31,H⟩ := zp H
 obtain ⟨_,_,T,bk⟩ := S.calln 0 ((.z 5 rfl (.z 6 rfl .nil)))
 refine zA (yr ca_reduce_rules_3 rfl) zam (reduce_rules_3_st (a1:=a1) T er31) ?_
 rintro _ w32 ⟨rfl,S2⟩
 replace S:=bk _ _ _ _ S2 rfl
 replace S:=S.zs [1,2,3,4,5,6]
 refine zd ?_
 refine zI rfl (fun hc34=>?_) (fun hc34=>?_)
 ·replace H:=if_t hc34 H
  refine zb (za (wd (zt xc rfl ((S.blk 0).all _ (RRule.len _)) (RRule.len _)) ?_))
  refine z7 xc rfl rfl (S.blk 2) (RRule.len _) (by rw [RRule.len]; decide) (RRule.one _) (xx (RRule.len _)) fun w35 B hw35 zw35=>?_
  replace S:=S.store 2 B hw35
  refine wd (zi rfl) (zd (zr ?_))
  refine ⟨_,(xm (yS xc rfl ((S.blk 0).all _ (RRule.len _)) (RRule.len _)) (zf rfl)),?_⟩
  replace S:=S.arr [] []
  obtain rfl:=zaq H
  exact ⟨rfl,S⟩
 replace H:=if_f hc34 H
 refine zw (za (wd (xi rfl rfl (c:=2) rfl zam zam) (wd (zk rfl) (zd ?_))))
 refine ⟨rfl,?_⟩
 refine jr (zb (za (wd (xp rfl rfl) (zd (zb ?_)))))
 refine jO rfl (zw (zb ?_))
 refine zL (zb (za (wd (xg xN rfl rfl (S.rd 2) zam zam) (wd (zt xc rfl ((S.rd 2).at (vf RRule.z (And.intro zam zam))) (RRule.len _)) ?_))))
 refine zQ vV zam fun b39 w38 hw38=>?_
 replace S:=S.new hw38
 refine z7 xc rfl rfl (S.blk 0) (RRule.len _) (by rw [RRule.len]; decide) (RRule.one _) (xx (RRule.len _)) fun w40 B hw40 zw40=>?_
 replace S:=S.store 0 B hw40
 refine zd (zb ?_)
 obtain ⟨p41,s43,hp42,S⟩ := S.see_oMa 3
 replace S:=S
 refine x0 7 (Ext w40) hmix zap zap (Ext.drawn _) (zC (fun v K=>zg y6 rfl (o':=0) rfl) (zC (fun v K=>zl zY rfl (((S.ext K).blk 0).cell (RRule.get_fits _))) (zC (fun v K=>zB rfl) (zC (fun v K=>zS (congrArg Value.pointer hp42)) (zC (fun v K=>zg y0 rfl (o':=0) rfl) ?_)))))
 refine zC (fun v K=>zl xo rfl (((S.ext K).blkZ 0).cell (Machine.get_t _))) (zC (fun v K=>zt z1 rfl (((S.ext K).blk 4).all _ (Term.len _)) (Term.len _)) ?_)
 refine vj fun w44 K=>?_
 replace S:=S.ext K
 clear K
 obtain ⟨r45,er45,H⟩ := zp H
 obtain ⟨_,_,T,bk⟩ := S.calln 0 ((.z 6 rfl (.z 7 rfl .nil)))
 refine zA (yr ca_reduce_rules_5 rfl) zam (reduce_rules_5_st (a1:=a1) T er45) ?_
 rintro _ w46 ⟨rfl,S2⟩
 replace S:=bk _ _ _ _ S2 rfl
 replace S:=S.zs [1,2,3,4,5,6,7]
 refine zd ?_
 refine zI rfl (fun hc48=>?_) (fun hc48=>?_)
 ·replace H:=if_t hc48 H
  refine zb (za (wd (zt xc rfl ((S.blk 0).all _ (RRule.len _)) (RRule.len _)) ?_))
  refine z7 xc rfl rfl (S.blk 3) (RRule.len _) (by rw [RRule.len]; decide) (RRule.one _) (xx (RRule.len _)) fun w49 B hw49 zw49=>?_
  replace S:=S.store 3 B hw49
  refine wd (zi rfl) (zd (zr ?_))
  refine ⟨_,(xm (yS xc rfl ((S.blk 0).all _ (RRule.len _)) (RRule.len _)) (zf rfl)),?_⟩
  replace S:=S.arr [] []
  obtain rfl:=zaq H
  exact ⟨rfl,S⟩
 replace H:=if_f hc48 H
 refine zw (za (wd (xi rfl rfl (c:=3) rfl zam zam) (wd (zk rfl) (zd ?_))))
 refine ⟨rfl,?_⟩
 refine jr (zb (za (wd (xp rfl rfl) (zd (zb ?_)))))
 refine jO rfl (zw (zb ?_))
 refine zL (zb (za (wd (xg xN rfl rfl (S.rd 3) zam zam) (wd (zt xc rfl ((S.rd 3).at (vf RRule.z (And.intro zam zam))) (RRule.len _)) ?_))))
 refine zQ vV zam fun b53 w52 hw52=>?_
 replace S:=S.new hw52
 refine z7 xc rfl rfl (S.blk 0) (RRule.len _) (by rw [RRule.len]; decide) (RRule.one _) (xx (RRule.len _)) fun w54 B hw54 zw54=>?_
 replace S:=S.store 0 B hw54
 refine zd (zb ?_)
 obtain ⟨p55,s57,hp56,S⟩ := S.see_oMa 4
 replace S:=S
 refine x0 7 (Ext w54) hmix zap zap (Ext.drawn _) (zC (fun v K=>zg y6 rfl (o':=0) rfl) (zC (fun v K=>zl zY rfl (((S.ext K).blk 0).cell (RRule.get_fits _))) (zC (fun v K=>zB rfl) (zC (fun v K=>zS (congrArg Value.pointer hp56)) (zC (fun v K=>zg y0 rfl (o':=0) rfl) ?_)))))
 refine zC (fun v K=>zl xo rfl (((S.ext K).blkZ 0).cell (Machine.get_t _))) (zC (fun v K=>zt z1 rfl (((S.ext K).blk 5).all _ (Term.len _)) (Term.len _)) ?_)
 refine vj fun w58 K=>?_
 replace S:=S.ext K
 clear K
 obtain ⟨r59,er59,H⟩ := zp H
 obtain ⟨_,_,T,bk⟩ := S.calln 0 ((.z 7 rfl (.z 8 rfl .nil)))
 refine zA (yr ca_reduce_rules_7 rfl) zam (reduce_rules_7_st (a1:=a1) T er59) ?_
 rintro _ w60 ⟨rfl,S2⟩
 replace S:=bk _ _ _ _ S2 rfl
 replace S:=S.zs (rg 1 8)
 refine zd ?_
 refine zI rfl (fun hc62=>?_) (fun hc62=>?_)
 ·replace H:=if_t hc62 H
  refine zb (za (wd (zt xc rfl ((S.blk 0).all _ (RRule.len _)) (RRule.len _)) ?_))
  refine z7 xc rfl rfl (S.blk 4) (RRule.len _) (by rw [RRule.len]; decide) (RRule.one _) (xx (RRule.len _)) fun w63 B hw63 zw63=>?_
  replace S:=S.store 4 B hw63
  refine wd (zi rfl) (zd (zr ?_))
  refine ⟨_,(xm (yS xc rfl ((S.blk 0).all _ (RRule.len _)) (RRule.len _)) (zf rfl)),?_⟩
  replace S:=S.arr [] []
  obtain rfl:=zaq H
  exact ⟨rfl,S⟩
 replace H:=if_f hc62 H
 refine zw (za (wd (xi rfl rfl (c:=4) rfl zam zam) (wd (zk rfl) (zd ?_))))
 refine ⟨rfl,?_⟩
 refine jr (zb (za (wd (xp rfl rfl) (zd (zb ?_)))))
 refine jO rfl (zw (zb ?_))
 refine zL (zb (za (wd (xg xN rfl rfl (S.rd 4) zam zam) (wd (zt xc rfl ((S.rd 4).at (vf RRule.z (And.intro zam zam))) (RRule.len _)) ?_))))
 refine zQ vV zam fun b67 w66 hw66=>?_
 replace S:=S.new hw66
 refine z7 xc rfl rfl (S.blk 0) (RRule.len _) (by rw [RRule.len]; decide) (RRule.one _) (xx (RRule.len _)) fun w68 B hw68 zw68=>?_
 replace S:=S.store 0 B hw68
 refine zd (zb ?_)
 obtain ⟨p69,s71,hp70,S⟩ := S.see_oMa 5
 replace S:=S
 refine x0 7 (Ext w68) hmix zap zap (Ext.drawn _) (zC (fun v K=>zg y6 rfl (o':=0) rfl) (zC (fun v K=>zl zY rfl (((S.ext K).blk 0).cell (RRule.get_fits _))) (zC (fun v K=>zB rfl) (zC (fun v K=>zS (congrArg Value.pointer hp70)) (zC (fun v K=>zg y0 rfl (o':=0) rfl) ?_)))))
 refine zC (fun v K=>zl xo rfl (((S.ext K).blkZ 0).cell (Machine.get_t _))) (zC (fun v K=>zt z1 rfl (((S.ext K).blk 6).all _ (Term.len _)) (Term.len _)) ?_)
 refine vj fun w72 K=>?_
 replace S:=S.ext K
 clear K
 obtain ⟨r73,er73,H⟩ := zp H
 obtain ⟨_,_,T,bk⟩ := S.calln 0 ((.z 8 rfl (.z 9 rfl .nil)))
 refine zA (yr ca_reduce_rules_9 rfl) zam (reduce_rules_9_st (a1:=a1) T er73) ?_
 rintro _ w74 ⟨rfl,S2⟩
 replace S:=bk _ _ _ _ S2 rfl
 replace S:=S.zs (rg 1 9)
 refine zd ?_
 refine zI rfl (fun hc76=>?_) (fun hc76=>?_)
 ·replace H:=if_t hc76 H
  refine zb (za (wd (zt xc rfl ((S.blk 0).all _ (RRule.len _)) (RRule.len _)) ?_))
  refine z7 xc rfl rfl (S.blk 5) (RRule.len _) (by rw [RRule.len]; decide) (RRule.one _) (xx (RRule.len _)) fun w77 B hw77 zw77=>?_
  replace S:=S.store 5 B hw77
  refine wd (zi rfl) (zd (zr ?_))
  refine ⟨_,(xm (yS xc rfl ((S.blk 0).all _ (RRule.len _)) (RRule.len _)) (zf rfl)),?_⟩
  replace S:=S.arr [] []
  obtain rfl:=zaq H
  exact ⟨rfl,S⟩
 replace H:=if_f hc76 H
 refine zw (za (wd (xi rfl rfl (c:=5) rfl zam zam) (wd (zk rfl) (zd ?_))))
 refine ⟨rfl,?_⟩
 refine jr (zb (za (wd (xp rfl rfl) (zd (zb ?_)))))
 refine jO rfl (zw (zb ?_))
 refine zL (zb (za (wd (xg xN rfl rfl (S.rd 5) zam zam) (wd (zt xc rfl ((S.rd 5).at (vf RRule.z (And.intro zam zam))) (RRule.len _)) ?_))))
 refine zQ vV zam fun b81 w80 hw80=>?_
 replace S:=S.new hw80
 refine z7 xc rfl rfl (S.blk 0) (RRule.len _) (by rw [RRule.len]; decide) (RRule.one _) (xx (RRule.len _)) fun w82 B hw82 zw82=>?_
 replace S:=S.store 0 B hw82
 refine zd (zb ?_)
 obtain ⟨p83,s85,hp84,S⟩ := S.see_oMa 6
 replace S:=S
 refine x0 7 (Ext w82) hmix zap zap (Ext.drawn _) (zC (fun v K=>zg y6 rfl (o':=0) rfl) (zC (fun v K=>zl zY rfl (((S.ext K).blk 0).cell (RRule.get_fits _))) (zC (fun v K=>zB rfl) (zC (fun v K=>zS (congrArg Value.pointer hp84)) (zC (fun v K=>zg y0 rfl (o':=0) rfl) ?_)))))
 refine zC (fun v K=>zl xo rfl (((S.ext K).blkZ 0).cell (Machine.get_t _))) (zC (fun v K=>zt z1 rfl (((S.ext K).blk 7).all _ (Term.len _)) (Term.len _)) ?_)
 refine vj fun w86 K=>?_
 replace S:=S.ext K
 clear K
 obtain ⟨r87,er87,H⟩ := zp H
 obtain ⟨_,_,T,bk⟩ := S.calln 0 ((.z 9 rfl (.z 10 rfl .nil)))
 refine zA (yr ca_reduce_rules_11 rfl) zam (reduce_rules_11_st (a1:=a1) T er87) ?_
 rintro _ w88 ⟨rfl,S2⟩
 replace S:=bk _ _ _ _ S2 rfl
 replace S:=S.zs (rg 1 10)
 refine zd ?_
 refine zI rfl (fun hc90=>?_) (fun hc90=>?_)
 ·replace H:=if_t hc90 H
  refine zb (za (wd (zt xc rfl ((S.blk 0).all _ (RRule.len _)) (RRule.len _)) ?_))
  refine z7 xc rfl rfl (S.blk 6) (RRule.len _) (by rw [RRule.len]; decide) (RRule.one _) (xx (RRule.len _)) fun w91 B hw91 zw91=>?_
  replace S:=S.store 6 B hw91
  refine wd (zi rfl) (zd (zr ?_))
  refine ⟨_,(xm (yS xc rfl ((S.blk 0).all _ (RRule.len _)) (RRule.len _)) (zf rfl)),?_⟩
  replace S:=S.arr [] []
  obtain rfl:=zaq H
  exact ⟨rfl,S⟩
 replace H:=if_f hc90 H
 refine zw (za (wd (xi rfl rfl (c:=6) rfl zam zam) (wd (zk rfl) (zd ?_))))
 refine ⟨rfl,?_⟩
 refine jr (zb (za (wd (xp rfl rfl) (zd (zb ?_)))))
 refine jO rfl (zw (zb ?_))
 refine zL (zb (za (wd (xg xN rfl rfl (S.rd 6) zam zam) (wd (zt xc rfl ((S.rd 6).at (vf RRule.z (And.intro zam zam))) (RRule.len _)) ?_))))
 refine zQ vV zam fun b95 w94 hw94=>?_
 replace S:=S.new hw94
 refine z7 xc rfl rfl (S.blk 0) (RRule.len _) (by rw [RRule.len]; decide) (RRule.one _) (xx (RRule.len _)) fun w96 B hw96 zw96=>?_
 replace S:=S.store 0 B hw96
 refine zd (zb ?_)
 obtain ⟨p97,s99,hp98,S⟩ := S.see_oMa 7
 replace S:=S
 refine x0 7 (Ext w96) hmix zap zap (Ext.drawn _) (zC (fun v K=>zg y6 rfl (o':=0) rfl) (zC (fun v K=>zl zY rfl (((S.ext K).blk 0).cell (RRule.get_fits _))) (zC (fun v K=>zB rfl) (zC (fun v K=>zS (congrArg Value.pointer hp98)) (zC (fun v K=>zg y0 rfl (o':=0) rfl) ?_)))))
 refine zC (fun v K=>zl xo rfl (((S.ext K).blkZ 0).cell (Machine.get_t _))) (zC (fun v K=>zt z1 rfl (((S.ext K).blk 8).all _ (Term.len _)) (Term.len _)) ?_)
 refine vj fun w100 K=>?_
 replace S:=S.ext K
 clear K
 obtain ⟨r101,er101,H⟩ := zp H
 obtain ⟨_,_,T,bk⟩ := S.calln 0 ((.z 10 rfl (.z 11 rfl .nil)))
 refine zA (yr ca_reduce_rules_13 rfl) zam (reduce_rules_13_st (a1:=a1) T er101) ?_
 rintro _ w102 ⟨rfl,S2⟩
 replace S:=bk _ _ _ _ S2 rfl
 replace S:=S.zs (rg 1 11)
 refine zd ?_
 refine zI rfl (fun hc104=>?_) (fun hc104=>?_)
 ·replace H:=if_t hc104 H
  refine zb (za (wd (zt xc rfl ((S.blk 0).all _ (RRule.len _)) (RRule.len _)) ?_))
  refine z7 xc rfl rfl (S.blk 7) (RRule.len _) (by rw [RRule.len]; decide) (RRule.one _) (xx (RRule.len _)) fun w105 B hw105 zw105=>?_
  replace S:=S.store 7 B hw105
  refine wd (zi rfl) (zd (zr ?_))
  refine ⟨_,(xm (yS xc rfl ((S.blk 0).all _ (RRule.len _)) (RRule.len _)) (zf rfl)),?_⟩
  replace S:=S.arr [] []
  obtain rfl:=zaq H
  exact ⟨rfl,S⟩
 replace H:=if_f hc104 H
 refine zw (za (wd (xi rfl rfl (c:=7) rfl zam zam) (wd (zk rfl) (zd ?_))))
 refine ⟨rfl,?_⟩
 refine jr (zb (za (wd (xp rfl rfl) (zd (zb ?_)))))
 refine jO rfl (zw (zb ?_))
 refine zL (zb (za (wd (xg xN rfl rfl (S.rd 7) zam zam) (wd (zt xc rfl ((S.rd 7).at (vf RRule.z (And.intro zam zam))) (RRule.len _)) ?_))))
 refine zQ vV zam fun b109 w108 hw108=>?_
 replace S:=S.new hw108
 refine z7 xc rfl rfl (S.blk 0) (RRule.len _) (by rw [RRule.len]; decide) (RRule.one _) (xx (RRule.len _)) fun w110 B hw110 zw110=>?_
 replace S:=S.store 0 B hw110
 refine zd (zb ?_)
 obtain ⟨p111,s113,hp112,S⟩ := S.see_oMa 8
 replace S:=S
 refine x0 7 (Ext w110) hmix zap zap (Ext.drawn _) (zC (fun v K=>zg y6 rfl (o':=0) rfl) (zC (fun v K=>zl zY rfl (((S.ext K).blk 0).cell (RRule.get_fits _))) (zC (fun v K=>zB rfl) (zC (fun v K=>zS (congrArg Value.pointer hp112)) (zC (fun v K=>zg y0 rfl (o':=0) rfl) ?_)))))
 refine zC (fun v K=>zl xo rfl (((S.ext K).blkZ 0).cell (Machine.get_t _))) (zC (fun v K=>zt z1 rfl (((S.ext K).blk 9).all _ (Term.len _)) (Term.len _)) ?_)
 refine vj fun w114 K=>?_
 replace S:=S.ext K
 clear K
 obtain ⟨r115,er115,H⟩ := zp H
 obtain ⟨_,_,T,bk⟩ := S.calln 0 ((.z 11 rfl (.z 12 rfl .nil)))
 refine zA (yr ca_reduce_rules_15 rfl) zam (reduce_rules_15_st (a1:=a1) T er115) ?_
 rintro _ w116 ⟨rfl,S2⟩
 replace S:=bk _ _ _ _ S2 rfl
 replace S:=S.zs (rg 1 12)
 refine zd ?_
 refine zI rfl (fun hc118=>?_) (fun hc118=>?_)
 ·replace H:=if_t hc118 H
  refine zb (za (wd (zt xc rfl ((S.blk 0).all _ (RRule.len _)) (RRule.len _)) ?_))
  refine z7 xc rfl rfl (S.blk 8) (RRule.len _) (by rw [RRule.len]; decide) (RRule.one _) (xx (RRule.len _)) fun w119 B hw119 zw119=>?_
  replace S:=S.store 8 B hw119
  refine wd (zi rfl) (zd (zr ?_))
  refine ⟨_,(xm (yS xc rfl ((S.blk 0).all _ (RRule.len _)) (RRule.len _)) (zf rfl)),?_⟩
  replace S:=S.arr [] []
  obtain rfl:=zaq H
  exact ⟨rfl,S⟩
 replace H:=if_f hc118 H
 refine zw (za (wd (xi rfl rfl (c:=8) rfl zam zam) (wd (zk rfl) (zd ?_))))
 refine ⟨rfl,?_⟩
 refine jr (zb (za (wd (xp rfl rfl) (zd (zb ?_)))))
 refine wc_false rfl ?_
 refine xO (zb (za (wd (vP jg Bld.nil) ?_)))
 refine z7 xc rfl rfl (S.blk 8) (RRule.len _) (by rw [RRule.len]; decide) (RRule.one _) (xx (RRule.len _)) fun w121 B hw121 zw121=>?_
 replace S:=S.store 8 B hw121
 refine wd (zi rfl) (zd (zr ?_))
 refine ⟨_,(xm (yS xc rfl ((S.blk 0).all _ (RRule.len _)) (RRule.len _)) (zf rfl)),?_⟩
 replace S:=S.arr [] []
 obtain rfl:=zaq H
 exact ⟨rfl,S⟩
theorem reduce_clone_gst {zct:PTerm→Option PTerm} (zcf : ∀ {A:Nat→Prop} {N:Oth} {w:World} {a0:PTerm} {s_0:SlV} (S:St A N w w [] [ze s_0 a0.sub]) {r:PTerm} (H:zct a0=some r),Calls PP uf #[.agg (tmC a0 s_0).toArray] w <| Rt fun v w'=>(∃ so0:SlV,v = .agg (tmC r so0).toArray∧St A N w w' [] [ze so0 r.sub])) {A:Nat→Prop} {N:Oth} {w:World} {a0:PTerm} {s_0:SlV} (S:St A N w w [] [ze s_0 a0.sub]) {r:PTerm} (H:zbB.g zct a0=some r) :
  Calls PP uf #[.agg (tmC a0 s_0).toArray] w <| Rt fun v w'=>(∃ so0:SlV,v = .agg (tmC r so0).toArray∧St A N w w' [] [ze so0 r.sub]):=by
 unfold zbB.g at H
 refine zu (n:=26) Tryz.func52 rfl rfl zao (zb (za ?_))
 refine zH rfl zam fun b2 w1 hw1=>?_
 replace S:=S.new hw1
 refine zQ xn zam fun b4 w3 hw3=>?_
 replace S:=S.new hw3
 refine zd (zb (za (wd (zg zD rfl (o':=4) rfl) (wd (zl zz rfl ((S.blk 1).cell (Term.get_sub _))) ?_))))
 obtain ⟨r6,er6,H⟩ := zp H
 obtain ⟨_,_,T,bk⟩ := S.sub [0] [] [oB b4 zm (Term.C tmZ),oB b2 zm (tmC a0 s_0)]
 refine zA (zx yc) zam (yd T er6) ?_
 rintro _ w5 ⟨s8,m9,rfl,S2⟩
 replace S:=bk _ _ _ _ _ S2 rfl rfl
 refine wd (zg zD rfl (o':=4) rfl) ?_
 refine yE zz rfl rfl (S.blk 2) (by rw [Term.len]; decide) (SlV.one _ _ rfl) (Term.set_sub _ _) fun w10 B hw10 zw10=>?_
 replace S:=S.store 2 B hw10
 refine zd (zb (zb (za (wd (zg zD rfl (o':=4) rfl) (wd (zl zz rfl ((S.blk 0).cell (Term.get_sub _))) (wd (Does.val (xE zq rfl (S.rdO 1)) (by rw [(S.lenTm 0)])) (wd (zk rfl) (zd ?_))))))))
 replace S:=(S.nil zm 5 Term.C).bigTm
 have hb11:=(show r6.length ≤ 140737488355328 from (S.lenTm 1) ▸ S.lenO 2)
 obtain ⟨o11,e11,Ho11⟩ := zp H
 clear H
 refine xL ([3] ++ rg 11 14) (fun fr W => ∃ s12:SlV,∃ m13:List Term,St A N w W [oS zm 5 Term.C SlV.nil ([]:List Term),oB b2 zm (tmC o11 s12),oS zm 5 Term.C s12 m13,oB b4 zm (Term.C tmZ)] [bigA xk ([]:List Term) ([]:List PTerm),bigA xk m13 o11.sub,ze s_0 a0.sub]) ?_ ?_
 ·refine zL ?_
  refine xI (α:=Nat × Int × PTerm) ([3] ++ rg 11 14) (fun x fr W=>(x.1:Int)=(r6.length:Int) - x.2.1∧0 ≤ x.2.1∧forS (fun i s=>zbB.b0 zct i s) x.1 x.2.1 x.2.2=some o11 ∧ ∃ s14:SlV,∃ m15:List Term,fr 11 = .int .i64 x.2.1∧St A N w W [oS zm 5 Term.C SlV.nil ([]:List Term),oB b2 zm (tmC (x.2.2) s14),oS zm 5 Term.C s14 m15,oB b4 zm (Term.C tmZ)] [bigA xk ([]:List Term) ([]:List PTerm),bigA xk m15 (x.2.2).sub,ze s_0 a0.sub]) (fun x=>x.1) (((r6.length:Int) - 0).toNat,0,(⟨a0.kind,a0.name,a0.other,a0.form,r6⟩ : PTerm)) ⟨(by dsimp only; have hle:=Int.natCast_nonneg (r6.length); omega),(Int.le_refl _),(by dsimp only; exact e11),s8,m9,rfl,S⟩ ?_
  rintro ⟨m11,i11,x11_0⟩ g11 u11 ⟨hm11,hl11,e11,s16,m17,q11_i,S⟩
  try dsimp only at hm11
  try dsimp only at hl11
  try dsimp only at e11
  try dsimp only at S
  try dsimp only at q11_i
  refine zb (za (wd (xp q11_i rfl) (zd (zb ?_))))
  refine zI rfl (fun hc18=>?_) (fun hc18=>?_)
  rotate_left
  ·refine xO ?_
   have hge:(r6.length:Int) ≤ i11:=Int.not_lt.1 (of_decide_eq_false hc18)
   obtain rfl:m11=0:=by omega
   replace e11:=forS_0 e11
   obtain rfl:=e11
   exact ⟨rfl,df,s16,m17,S⟩
  refine zw ?_
  have hlt11:i11 < (r6.length:Int):=of_decide_eq_true hc18
  obtain ⟨m11,rfl⟩ : ∃ m,m11=m + 1:=⟨m11 - 1,by omega⟩
  obtain ⟨q11,H,e11⟩ := forS_s e11
  unfold zbB.b0 at H
  try dsimp only at H
  refine zb ?_
  refine zL (zb (za (wd (zk q11_i) (wd (zh rfl) (zd ?_)))))
  obtain ⟨hi20,H⟩ := zX H
  obtain ⟨r23,er23,H⟩ := zp H
  refine yX 9 ⟨fun _ _=>True,fun _ _ _=>True,fun i v _=>match i with
   | 0=>v=Value.pointer (some ⟨b2,4,none⟩)
   | 1=>v=s16.v
   | 2=>v=Value.int .i64 i11
   | 3=>v=Value.pointer (some ⟨b2,4,none⟩)
   | 4=>v=s16.v
   | 5=>v=Value.int .i64 i11
   | 6=>v=Value.pointer (some ⟨s16.blk,s16.off + Int.toNat i11 * 5,none⟩)
   | _=>True⟩ (fun L g v => ∃ Z27:List OA,(∀ z ∈ [bigA xk ([]:List Term) ([]:List PTerm),bigA xk m17 x11_0.sub,ze s_0 a0.sub],z ∈ Z27)∧Made L g Z27 7 21 (fun (c:SlV)=>Value.agg (tmC (kd x11_0 i11) c).toArray) (fun (c:SlV)=>[ze c ((kd x11_0 i11).sub)])∧Made L g Z27 8 22 (fun (c:SlV)=>Value.agg (tmC r23 c).toArray) (fun (c:SlV)=>[ze c r23.sub])∧St A N w v [oS zm 5 Term.C SlV.nil ([]:List Term),oB b2 zm (tmC x11_0 s16),oS zm 5 Term.C s16 m17,oB b4 zm (Term.C tmZ)] Z27) hmix zap (fun _ _ _ _ _ _ _ hv=>hv) (fun g=>⟨_,fun _ h=>h,Made.no,Made.no,S.ext (Ext.drawn _)⟩) ⟨?_,?_,?_,?_,?_,?_,?_,?_,?_,trivial⟩ ?_
  ·rintro L g v hL hcl hclo ⟨Z27,hZ,hm7,hm8,S⟩ 
   refine wd (zg zD rfl (o':=4) rfl) ?_
   exact w4 rfl ⟨_,hZ,hm7.keep rfl rfl tl0,hm8.keep rfl rfl tl0,S⟩
  ·rintro L g v hL hcl hclo ⟨Z27,hZ,hm7,hm8,S⟩ hv0
   refine wd (zl zz hv0 ((S.blk 1).cell (Term.get_sub _))) ?_
   exact w4 rfl ⟨_,hZ,hm7.keep rfl rfl tl0,hm8.keep rfl rfl tl0,S⟩
  ·rintro L g v hL hcl hclo ⟨Z27,hZ,hm7,hm8,S⟩ 
   refine wd (zk rfl) ?_
   exact w4 rfl ⟨_,hZ,hm7.keep rfl rfl tl0,hm8.keep rfl rfl tl0,S⟩
  ·rintro L g v hL hcl hclo ⟨Z27,hZ,hm7,hm8,S⟩ 
   refine wd (zg zD rfl (o':=4) rfl) ?_
   exact w4 rfl ⟨_,hZ,hm7.keep rfl rfl tl0,hm8.keep rfl rfl tl0,S⟩
  ·rintro L g v hL hcl hclo ⟨Z27,hZ,hm7,hm8,S⟩ hv3
   refine wd (zl zz hv3 ((S.blk 1).cell (Term.get_sub _))) ?_
   exact w4 rfl ⟨_,hZ,hm7.keep rfl rfl tl0,hm8.keep rfl rfl tl0,S⟩
  ·rintro L g v hL hcl hclo ⟨Z27,hZ,hm7,hm8,S⟩ 
   refine wd (zk rfl) ?_
   exact w4 rfl ⟨_,hZ,hm7.keep rfl rfl tl0,hm8.keep rfl rfl tl0,S⟩
  ·rintro L g v hL hcl hclo ⟨Z27,hZ,hm7,hm8,S⟩ hv4 hv5
   replace S:=(S.zneed hZ)
   refine wd (xg zq hv4 hv5 (S.rdO 2) (zG hi20).1 (by rw [(S.lenTm 1)]; exact (zG hi20).2)) ?_
   exact w4 rfl ⟨_,(fun z h=>tl3 z (hZ z h)),hm7.keep rfl rfl tl3,hm8.keep rfl rfl tl3,S⟩
  ·rintro L g v hL hcl hclo ⟨Z27,hZ,hm7,hm8,S⟩ hv6
   replace S:=(S.zneed hZ)
   obtain ⟨s32,hc33,S⟩ := S.viewH 2 1 (zG hi20)
   replace S:=S
   refine wd (zt z1 hv6 hc33 (Term.len _)) ?_
   exact w4 trivial ⟨_,(fun z h=>tl4 z (hZ z h)),Made.one (val:=(fun (c:SlV)=>Value.agg (tmC (kd x11_0 i11) c).toArray)) (ps:=(fun (c:SlV)=>[ze c ((kd x11_0 i11).sub)])) s32 (xX List.mem_cons_self yw),hm8.keep rfl rfl tl4,S⟩
  ·rintro L g v hL hcl hclo ⟨Z27,hZ,hm7,hm8,S⟩ _
   obtain ⟨s21,he7,hp7⟩ := hm7 (hcl 7 zap)
   replace S:=(S.zneed (xD (l1:=[ze s21 ((kd x11_0 i11).sub)]) hp7 hZ))
   obtain ⟨_,_,T,bk⟩ := S.sub [0] [] [oS zm 5 Term.C SlV.nil ([]:List Term),oB b2 zm (tmC x11_0 s16),oS zm 5 Term.C s16 m17,oB b4 zm (Term.C tmZ)]
   refine zA (zK uI (zN he7 rfl)) zam (zcf (a0:=(kd x11_0 i11)) T er23) ?_
   rintro _ w35 ⟨s37,rfl,S2⟩
   replace S:=bk _ _ _ _ _ S2 rfl rfl
   exact w4 trivial ⟨_,(fun z h=>tl5 z (hZ z h)),hm7.keep rfl rfl tl5,Made.one (val:=(fun (c:SlV)=>Value.agg (tmC r23 c).toArray)) (ps:=(fun (c:SlV)=>[ze c r23.sub])) s37 (xX List.mem_cons_self yw),S⟩
  rintro L g w38 hLm ⟨Z27,hZ,hm7,hm8,S⟩ hv39_0 hv39_1 hv39_2 hv39_3 hv39_4 hv39_5 hv39_6 _ _
  have hLt : ∀ j,j < 9→L j=true:=fun j hj=>by rw [hLm]; exact decide_eq_true hj
  obtain ⟨s21,hv39_7,hp7⟩ := hm7 (hLt 7 zam)
  obtain ⟨s26,hv39_8,hp8⟩ := hm8 (hLt 8 zam)
  replace S:=S.pickZ (xD (l1:=[ze s21 ((kd x11_0 i11).sub)]) hp7 (xD (l1:=[ze s26 r23.sub]) hp8 hZ))
  clear hp7 hp8 hZ hm7 hm8
  obtain ⟨hi40,H⟩ := zX H
  refine wd (xg zq hv39_1 hv39_2 (S.rdO 2) (zG hi40).1 (by rw [(S.lenTm 3)]; exact (zG hi40).2)) ?_
  have hlw41:=S.lenO 2
  have hqw41:=(S.lenTm 3)
  refine kn (C:=Term.C) (a:=(tmT r23 s26)) z1 rfl hv39_8 (S.sl 2) ⟨(zG hi40).1,by rw [hqw41]; exact (zG hi40).2⟩ (Term.len _) (Term.one _) fun w41 O hw41=>?_
  replace S:=S.push 2 O (by rw [List.length_set]; exact hlw41) hw41 (fun i hi => .inl hi)
  clear O hlw41 hqw41
  replace S:=S.setTm (x:=r23) 3 1 (Int.toNat i11)
  refine zd (za (wd (xi q11_i rfl (c:=i11 + 1) rfl zan zan) (wd (zk rfl) (zd ?_))))
  replace S:=S.arr [1,2,0,3] [3,0,5]
  obtain rfl:=zaq H
  exact ⟨rfl,df,(m11,i11 + 1,(⟨x11_0.kind,x11_0.name,x11_0.other,x11_0.form,x11_0.sub.set (Int.toNat i11) r23⟩ : PTerm)),⟨(by dsimp only; omega),(by dsimp only; omega),e11,s16,m17.set (Int.toNat i11) (tmT r23 s26),rfl,S⟩,by dsimp only; omega⟩
 rintro g42 u43 ⟨s12,m13,S⟩
 have H:=Ho11
 refine zb (za ?_)
 replace S:=S.frzTm 2 1
 refine wd (ldT rfl (S.blk 1)) ?_
 refine wsT rfl rfl (S.blk 2) fun w44 B hw44 zw44=>?_
 replace S:=S.store 2 B hw44
 refine zd (zr ?_)
 refine ⟨_,(zP (rtT rfl (S.blk 0))),?_⟩
 replace S:=S.arr [] [0]
 obtain rfl:=zaq H
 exact ⟨s12,rfl,S⟩
theorem j9 {a0:PTerm} {s_0:SlV} (S:St A N w w [] [ze s_0 a0.sub]) {k:Nat} {r:PTerm} (H:zbB.f k a0=some r) :
  Calls PP uf #[.agg (tmC a0 s_0).toArray] w <| Rt fun v w'=>(∃ so0:SlV,v = .agg (tmC r so0).toArray∧St A N w w' [] [ze so0 r.sub]):=by
 have main : ∀ (k:Nat) {A:Nat→Prop} {N:Oth} {w:World} {a0:PTerm} {s_0:SlV} (S:St A N w w [] [ze s_0 a0.sub]) {r:PTerm} (H:zbB.f k a0=some r),Calls PP uf #[.agg (tmC a0 s_0).toArray] w <| Rt fun v w'=>(∃ so0:SlV,v = .agg (tmC r so0).toArray∧St A N w w' [] [ze so0 r.sub]):=by
  intro k
  induction k with
  | zero=>intro A N w a0 s_0 S r H; cases H
  | succ k ih=>intro A N w a0 s_0 S r H; exact reduce_clone_gst ih S H
 exact main k S H
theorem reduce_strip_gst {zcy:PTerm→Option PTerm} (zck : ∀ {A:Nat→Prop} {N:Oth} {w:World} {a0:PTerm} {s_0:SlV} (S:St A N w w [] [ze s_0 a0.sub]) {r:PTerm} (H:zcy a0=some r),Calls PP ug #[.agg (tmC a0 s_0).toArray] w <| Rt fun v w'=>(∃ so0:SlV,v = .agg (tmC r so0).toArray∧St A N w w' [] [ze so0 r.sub])) {A:Nat→Prop} {N:Oth} {w:World} {a0:PTerm} {s_0:SlV} (S:St A N w w [] [ze s_0 a0.sub]) {r:PTerm} (H:zbC.g zcy a0=some r) :
  Calls PP ug #[.agg (tmC a0 s_0).toArray] w <| Rt fun v w'=>(∃ so0:SlV,v = .agg (tmC r so0).toArray∧St A N w w' [] [ze so0 r.sub]):=by
 unfold zbC.g at H
 refine zu (n:=34) Tryz.func46 rfl rfl zao (zb (za ?_))
 refine zH rfl zam fun b2 w1 hw1=>?_
 replace S:=S.new hw1
 refine zQ xn zam fun b4 w3 hw3=>?_
 replace S:=S.new hw3
 refine zd (zb (zb (za (wd (zg xh rfl (o':=0) rfl) (wd (zl zU rfl ((S.blk 1).cell (Term.get_kind _))) (wd (zR rfl rfl) (zd ?_)))))))
 refine zI rfl (fun hc5=>?_) (fun hc5=>?_)
 ·replace H:=if_t hc5 H
  refine zb (za (wd (zg zD rfl (o':=4) rfl) (wd (zl zz rfl ((S.blk 1).cell (Term.get_sub _))) ?_)))
  obtain ⟨hi6,H⟩ := zX H
  refine wd (does_indexF zq rfl rfl (S.onZ 0) (zG hi6).1 (zG hi6).2) ?_
  obtain ⟨s7,hc8,S⟩ := S.viewTerm 0 (zG hi6)
  replace S:=S
  refine wd (ldC rfl hc8) ?_
  obtain ⟨r9,er9,H⟩ := zp H
  obtain ⟨_,_,T,bk⟩ := S.sub [0] [] [oB b4 zm (Term.C tmZ),oB b2 zm (tmC a0 s_0)]
  refine zA (zx j5) zam (zck (a0:=(kd a0 0)) T er9) ?_
  rintro _ w10 ⟨s12,rfl,S2⟩
  replace S:=bk _ _ _ _ _ S2 rfl rfl
  refine wsT rfl rfl (S.blk 0) fun w13 B hw13 zw13=>?_
  replace S:=S.store 0 B hw13
  refine zd (zr ?_)
  refine ⟨_,(zP (rtT rfl (S.blk 0))),?_⟩
  replace S:=S.arr [] [0]
  obtain rfl:=zaq H
  exact ⟨s12,rfl,S⟩
 replace H:=if_f hc5 H
 refine zw (zb (za (wd (zg zD rfl (o':=4) rfl) (wd (zl zz rfl ((S.blk 1).cell (Term.get_sub _))) ?_))))
 obtain ⟨r15,er15,H⟩ := zp H
 obtain ⟨_,_,T,bk⟩ := S.sub [0] [] [oB b4 zm (Term.C tmZ),oB b2 zm (tmC a0 s_0)]
 refine zA (zx yc) zam (yd T er15) ?_
 rintro _ w14 ⟨s17,m18,rfl,S2⟩
 replace S:=bk _ _ _ _ _ S2 rfl rfl
 refine wd (zg zD rfl (o':=4) rfl) ?_
 refine yE zz rfl rfl (S.blk 2) (by rw [Term.len]; decide) (SlV.one _ _ rfl) (Term.set_sub _ _) fun w19 B hw19 zw19=>?_
 replace S:=S.store 2 B hw19
 refine zd (zb (zb (za (wd (zg zD rfl (o':=4) rfl) (wd (zl zz rfl ((S.blk 0).cell (Term.get_sub _))) (wd (Does.val (xE zq rfl (S.rdO 1)) (by rw [(S.lenTm 0)])) (wd (zk rfl) (zd ?_))))))))
 replace S:=(S.nil zm 5 Term.C).bigTm
 have hb20:=(show r15.length ≤ 140737488355328 from (S.lenTm 1) ▸ S.lenO 2)
 obtain ⟨o20,e20,Ho20⟩ := zp H
 clear H
 refine xL ([3] ++ rg 19 14) (fun fr W => ∃ s21:SlV,∃ m22:List Term,St A N w W [oS zm 5 Term.C SlV.nil ([]:List Term),oB b2 zm (tmC o20 s21),oS zm 5 Term.C s21 m22,oB b4 zm (Term.C tmZ)] [bigA xk ([]:List Term) ([]:List PTerm),bigA xk m22 o20.sub,ze s_0 a0.sub]) ?_ ?_
 ·refine zL ?_
  refine xI (α:=Nat × Int × PTerm) ([3] ++ rg 19 14) (fun x fr W=>(x.1:Int)=(r15.length:Int) - x.2.1∧0 ≤ x.2.1∧forS (fun i s=>zbC.b0 zcy i s) x.1 x.2.1 x.2.2=some o20 ∧ ∃ s23:SlV,∃ m24:List Term,fr 19 = .int .i64 x.2.1∧St A N w W [oS zm 5 Term.C SlV.nil ([]:List Term),oB b2 zm (tmC (x.2.2) s23),oS zm 5 Term.C s23 m24,oB b4 zm (Term.C tmZ)] [bigA xk ([]:List Term) ([]:List PTerm),bigA xk m24 (x.2.2).sub,ze s_0 a0.sub]) (fun x=>x.1) (((r15.length:Int) - 0).toNat,0,(⟨a0.kind,a0.name,a0.other,a0.form,r15⟩ : PTerm)) ⟨(by dsimp only; have hle:=Int.natCast_nonneg (r15.length); omega),(Int.le_refl _),(by dsimp only; exact e20),s17,m18,rfl,S⟩ ?_
  rintro ⟨m20,i20,x20_0⟩ g20 u20 ⟨hm20,hl20,e20,s25,m26,q20_i,S⟩
  try dsimp only at hm20
  try dsimp only at hl20
  try dsimp only at e20
  try dsimp only at S
  try dsimp only at q20_i
  refine zb (za (wd (xp q20_i rfl) (zd (zb ?_))))
  refine zI rfl (fun hc27=>?_) (fun hc27=>?_)
  rotate_left
  ·refine xO ?_
   have hge:(r15.length:Int) ≤ i20:=Int.not_lt.1 (of_decide_eq_false hc27)
   obtain rfl:m20=0:=by omega
   replace e20:=forS_0 e20
   obtain rfl:=e20
   exact ⟨rfl,df,s25,m26,S⟩
  refine zw ?_
  have hlt20:i20 < (r15.length:Int):=of_decide_eq_true hc27
  obtain ⟨m20,rfl⟩ : ∃ m,m20=m + 1:=⟨m20 - 1,by omega⟩
  obtain ⟨q20,H,e20⟩ := forS_s e20
  unfold zbC.b0 at H
  try dsimp only at H
  refine zb ?_
  refine zL (zb (za (wd (zk q20_i) (wd (zh rfl) (zd ?_)))))
  obtain ⟨hi29,H⟩ := zX H
  obtain ⟨r32,er32,H⟩ := zp H
  refine yX 9 ⟨fun _ _=>True,fun _ _ _=>True,fun i v _=>match i with
   | 0=>v=Value.pointer (some ⟨b2,4,none⟩)
   | 1=>v=s25.v
   | 2=>v=Value.int .i64 i20
   | 3=>v=Value.pointer (some ⟨b2,4,none⟩)
   | 4=>v=s25.v
   | 5=>v=Value.int .i64 i20
   | 6=>v=Value.pointer (some ⟨s25.blk,s25.off + Int.toNat i20 * 5,none⟩)
   | _=>True⟩ (fun L g v => ∃ Z36:List OA,(∀ z ∈ [bigA xk ([]:List Term) ([]:List PTerm),bigA xk m26 x20_0.sub,ze s_0 a0.sub],z ∈ Z36)∧Made L g Z36 7 29 (fun (c:SlV)=>Value.agg (tmC (kd x20_0 i20) c).toArray) (fun (c:SlV)=>[ze c ((kd x20_0 i20).sub)])∧Made L g Z36 8 30 (fun (c:SlV)=>Value.agg (tmC r32 c).toArray) (fun (c:SlV)=>[ze c r32.sub])∧St A N w v [oS zm 5 Term.C SlV.nil ([]:List Term),oB b2 zm (tmC x20_0 s25),oS zm 5 Term.C s25 m26,oB b4 zm (Term.C tmZ)] Z36) hmix zap (fun _ _ _ _ _ _ _ hv=>hv) (fun g=>⟨_,fun _ h=>h,Made.no,Made.no,S.ext (Ext.drawn _)⟩) ⟨?_,?_,?_,?_,?_,?_,?_,?_,?_,trivial⟩ ?_
  ·rintro L g v hL hcl hclo ⟨Z36,hZ,hm7,hm8,S⟩ 
   refine wd (zg zD rfl (o':=4) rfl) ?_
   exact w4 rfl ⟨_,hZ,hm7.keep rfl rfl tl0,hm8.keep rfl rfl tl0,S⟩
  ·rintro L g v hL hcl hclo ⟨Z36,hZ,hm7,hm8,S⟩ hv0
   refine wd (zl zz hv0 ((S.blk 1).cell (Term.get_sub _))) ?_
   exact w4 rfl ⟨_,hZ,hm7.keep rfl rfl tl0,hm8.keep rfl rfl tl0,S⟩
  ·rintro L g v hL hcl hclo ⟨Z36,hZ,hm7,hm8,S⟩ 
   refine wd (zk rfl) ?_
   exact w4 rfl ⟨_,hZ,hm7.keep rfl rfl tl0,hm8.keep rfl rfl tl0,S⟩
  ·rintro L g v hL hcl hclo ⟨Z36,hZ,hm7,hm8,S⟩ 
   refine wd (zg zD rfl (o':=4) rfl) ?_
   exact w4 rfl ⟨_,hZ,hm7.keep rfl rfl tl0,hm8.keep rfl rfl tl0,S⟩
  ·rintro L g v hL hcl hclo ⟨Z36,hZ,hm7,hm8,S⟩ hv3
   refine wd (zl zz hv3 ((S.blk 1).cell (Term.get_sub _))) ?_
   exact w4 rfl ⟨_,hZ,hm7.keep rfl rfl tl0,hm8.keep rfl rfl tl0,S⟩
  ·rintro L g v hL hcl hclo ⟨Z36,hZ,hm7,hm8,S⟩ 
   refine wd (zk rfl) ?_
   exact w4 rfl ⟨_,hZ,hm7.keep rfl rfl tl0,hm8.keep rfl rfl tl0,S⟩
  ·rintro L g v hL hcl hclo ⟨Z36,hZ,hm7,hm8,S⟩ hv4 hv5
   replace S:=(S.zneed hZ)
   refine wd (xg zq hv4 hv5 (S.rdO 2) (zG hi29).1 (by rw [(S.lenTm 1)]; exact (zG hi29).2)) ?_
   exact w4 rfl ⟨_,(fun z h=>tl3 z (hZ z h)),hm7.keep rfl rfl tl3,hm8.keep rfl rfl tl3,S⟩
  ·rintro L g v hL hcl hclo ⟨Z36,hZ,hm7,hm8,S⟩ hv6
   replace S:=(S.zneed hZ)
   obtain ⟨s41,hc42,S⟩ := S.viewH 2 1 (zG hi29)
   replace S:=S
   refine wd (zt z1 hv6 hc42 (Term.len _)) ?_
   exact w4 trivial ⟨_,(fun z h=>tl4 z (hZ z h)),Made.one (val:=(fun (c:SlV)=>Value.agg (tmC (kd x20_0 i20) c).toArray)) (ps:=(fun (c:SlV)=>[ze c ((kd x20_0 i20).sub)])) s41 (xX List.mem_cons_self yw),hm8.keep rfl rfl tl4,S⟩
  ·rintro L g v hL hcl hclo ⟨Z36,hZ,hm7,hm8,S⟩ _
   obtain ⟨s30,he7,hp7⟩ := hm7 (hcl 7 zap)
   replace S:=(S.zneed (xD (l1:=[ze s30 ((kd x20_0 i20).sub)]) hp7 hZ))
   obtain ⟨_,_,T,bk⟩ := S.sub [0] [] [oS zm 5 Term.C SlV.nil ([]:List Term),oB b2 zm (tmC x20_0 s25),oS zm 5 Term.C s25 m26,oB b4 zm (Term.C tmZ)]
   refine zA (zK j5 (zN he7 rfl)) zam (zck (a0:=(kd x20_0 i20)) T er32) ?_
   rintro _ w44 ⟨s46,rfl,S2⟩
   replace S:=bk _ _ _ _ _ S2 rfl rfl
   exact w4 trivial ⟨_,(fun z h=>tl5 z (hZ z h)),hm7.keep rfl rfl tl5,Made.one (val:=(fun (c:SlV)=>Value.agg (tmC r32 c).toArray)) (ps:=(fun (c:SlV)=>[ze c r32.sub])) s46 (xX List.mem_cons_self yw),S⟩
  rintro L g w47 hLm ⟨Z36,hZ,hm7,hm8,S⟩ hv48_0 hv48_1 hv48_2 hv48_3 hv48_4 hv48_5 hv48_6 _ _
  have hLt : ∀ j,j < 9→L j=true:=fun j hj=>by rw [hLm]; exact decide_eq_true hj
  obtain ⟨s30,hv48_7,hp7⟩ := hm7 (hLt 7 zam)
  obtain ⟨s35,hv48_8,hp8⟩ := hm8 (hLt 8 zam)
  replace S:=S.pickZ (xD (l1:=[ze s30 ((kd x20_0 i20).sub)]) hp7 (xD (l1:=[ze s35 r32.sub]) hp8 hZ))
  clear hp7 hp8 hZ hm7 hm8
  obtain ⟨hi49,H⟩ := zX H
  refine wd (xg zq hv48_1 hv48_2 (S.rdO 2) (zG hi49).1 (by rw [(S.lenTm 3)]; exact (zG hi49).2)) ?_
  have hlw50:=S.lenO 2
  have hqw50:=(S.lenTm 3)
  refine kn (C:=Term.C) (a:=(tmT r32 s35)) z1 rfl hv48_8 (S.sl 2) ⟨(zG hi49).1,by rw [hqw50]; exact (zG hi49).2⟩ (Term.len _) (Term.one _) fun w50 O hw50=>?_
  replace S:=S.push 2 O (by rw [List.length_set]; exact hlw50) hw50 (fun i hi => .inl hi)
  clear O hlw50 hqw50
  replace S:=S.setTm (x:=r32) 3 1 (Int.toNat i20)
  refine zd (za (wd (xi q20_i rfl (c:=i20 + 1) rfl zan zan) (wd (zk rfl) (zd ?_))))
  replace S:=S.arr [1,2,0,3] [3,0,5]
  obtain rfl:=zaq H
  exact ⟨rfl,df,(m20,i20 + 1,(⟨x20_0.kind,x20_0.name,x20_0.other,x20_0.form,x20_0.sub.set (Int.toNat i20) r32⟩ : PTerm)),⟨(by dsimp only; omega),(by dsimp only; omega),e20,s25,m26.set (Int.toNat i20) (tmT r32 s35),rfl,S⟩,by dsimp only; omega⟩
 rintro g51 u52 ⟨s21,m22,S⟩
 have H:=Ho20
 refine zb (za ?_)
 replace S:=S.frzTm 2 1
 refine wd (ldT rfl (S.blk 1)) ?_
 refine wsT rfl rfl (S.blk 2) fun w53 B hw53 zw53=>?_
 replace S:=S.store 2 B hw53
 refine zd (zr ?_)
 refine ⟨_,(zP (rtT rfl (S.blk 0))),?_⟩
 replace S:=S.arr [] [0]
 obtain rfl:=zaq H
 exact ⟨s21,rfl,S⟩
theorem reduce_strip_st {a0:PTerm} {s_0:SlV} (S:St A N w w [] [ze s_0 a0.sub]) {k:Nat} {r:PTerm} (H:zbC.f k a0=some r) :
  Calls PP ug #[.agg (tmC a0 s_0).toArray] w <| Rt fun v w'=>(∃ so0:SlV,v = .agg (tmC r so0).toArray∧St A N w w' [] [ze so0 r.sub]):=by
 have main : ∀ (k:Nat) {A:Nat→Prop} {N:Oth} {w:World} {a0:PTerm} {s_0:SlV} (S:St A N w w [] [ze s_0 a0.sub]) {r:PTerm} (H:zbC.f k a0=some r),Calls PP ug #[.agg (tmC a0 s_0).toArray] w <| Rt fun v w'=>(∃ so0:SlV,v = .agg (tmC r so0).toArray∧St A N w w' [] [ze so0 r.sub]):=by
  intro k
  induction k with
  | zero=>intro A N w a0 s_0 S r H; cases H
  | succ k ih=>intro A N w a0 s_0 S r H; exact reduce_strip_gst ih S H
 exact main k S H
theorem reduce_Strip_st {a0:PTerm} {s_0:SlV} (S:St A N w w [] [ze s_0 a0.sub]) {k:Nat} {r:PTerm × Int} (H:zbD.f k a0=some r) :
  Calls PP F_reduce_Strip #[.agg (tmC a0 s_0).toArray] w <| Rt fun v w'=>(∃ so0:SlV,v = .tuple #[.agg (tmC r.1 so0).toArray,.int .i64 r.2]∧St A N w w' [] [ze so0 r.1.sub]):=by
 unfold zbD.f at H
 refine zu (n:=13) Tryz.func18 rfl rfl zao (zb (za ?_))
 refine zH rfl zam fun b2 w1 hw1=>?_
 replace S:=S.new hw1
 refine zQ xn zam fun b4 w3 hw3=>?_
 replace S:=S.new hw3
 refine wd (zh rfl) (zd (zb (zb (za (wd (ldT rfl (S.blk 1)) ?_)))))
 obtain ⟨r5,er5,H⟩ := zp H
 obtain ⟨_,_,T,bk⟩ := S.calln 0 ((.z 0 rfl .nil))
 refine zA (zx vW) zam (vY (a0:=a0) T er5) ?_
 rintro _ w6 ⟨rfl,S2⟩
 replace S:=bk _ _ _ _ S2 rfl
 refine wd (zh rfl) (zd (zb (za (wd (zk rfl) (wd (xq rfl rfl) (zd ?_))))))
 refine zI rfl (fun hc8=>?_) (fun hc8=>?_)
 ·replace H:=if_t hc8 H
  refine zb (za (wd (Does.to (v' := .agg (Term.C tmZ).toArray) (xa (vs:=[]) yl rfl Bld.nil) rfl) (wd (zk rfl) ?_)))
  refine wsT rfl rfl (S.blk 0) fun w9 B hw9 zw9=>?_
  replace S:=S.store 0 B hw9
  refine wd (zh rfl) (zd (zr ?_))
  replace S:=S.nilTm
  refine ⟨_,(xm (rtT rfl (S.blk 0)) (zf rfl)),?_⟩
  replace S:=S.arr [] [0]
  obtain rfl:=zaq H
  exact ⟨SlV.nil,rfl,S⟩
 replace H:=if_f hc8 H
 refine zw (zb (za (wd (ldT rfl (S.blk 1)) ?_)))
 obtain ⟨r10,er10,H⟩ := zp H
 obtain ⟨_,_,T,bk⟩ := S.sub [0] [] [oB b4 zm (Term.C tmZ),oB b2 zm (tmC a0 s_0)]
 refine zA (zx j5) zam (reduce_strip_st (a0:=a0) T er10) ?_
 rintro _ w11 ⟨s13,rfl,S2⟩
 replace S:=bk _ _ _ _ _ S2 rfl rfl
 refine wsT rfl rfl (S.blk 0) fun w14 B hw14 zw14=>?_
 replace S:=S.store 0 B hw14
 refine wd (zh rfl) (zd (zr ?_))
 refine ⟨_,(xm (rtT rfl (S.blk 0)) (zf rfl)),?_⟩
 replace S:=S.arr [] [0]
 obtain rfl:=zaq H
 exact ⟨s13,rfl,S⟩
theorem reduce_machine_do_gst {zcv:Tb→PTerm→List Int→Option (PTerm × Int)} (zch : ∀ {A:Nat→Prop} {N:Oth} {w:World} {a0:Tb} {a_0:Option Addr} {g_0_1:Option Addr} {a1:PTerm} {s_1:SlV} {a2:List Int} {s_2:SlV} (S:St A N w w [] [oMa a_0 g_0_1 true,oT g_0_1 a0,ze s_1 a1.sub,fS 1 IC s_2 a2,oPw]) {r:PTerm × Int} (H:zcv a0 a1 a2=some r),Calls PP yU #[.pointer a_0,.agg (tmC a1 s_1).toArray,s_2.v] w <| Rt fun v w'=>(∃ so0:SlV,v = .tuple #[.agg (tmC r.1 so0).toArray,.int .i64 r.2]∧St A N w w' [] [ze so0 r.1.sub])) {A:Nat→Prop} {N:Oth} {w:World} {a0:Tb} {a_0:Option Addr} {g_0_1:Option Addr} {a1:PTerm} {s_1:SlV} {a2:List Int} {s_2:SlV} (S:St A N w w [] [oMa a_0 g_0_1 true,oT g_0_1 a0,ze s_1 a1.sub,fS 1 IC s_2 a2,oPw]) {k:Nat} {r:PTerm × Int} (H:zbE.g zcv k a0 a1 a2=some r) :
  Calls PP yU #[.pointer a_0,.agg (tmC a1 s_1).toArray,s_2.v] w <| Rt fun v w'=>(∃ so0:SlV,v = .tuple #[.agg (tmC r.1 so0).toArray,.int .i64 r.2]∧St A N w w' [] [ze so0 r.1.sub]):=by
 unfold zbE.g at H
 refine zu (n:=74) Tryz.func70 rfl rfl zao (zb (za ?_))
 refine zH rfl zam fun b2 w1 hw1=>?_
 replace S:=S.new hw1
 refine zQ xn zam fun b4 w3 hw3=>?_
 replace S:=S.new hw3
 refine wd (zh rfl) (zd (zb (zb (za (wd (zM rfl) (wd (xE xZ rfl (S.rd 3)) (wd (zR rfl rfl) (zd ?_))))))))
 refine zI rfl (fun hc5=>?_) (fun hc5=>?_)
 ·replace H:=if_t hc5 H
  refine zb (za (wd (zB rfl) (wd (ldT rfl (S.blk 1)) ?_)))
  obtain ⟨r6,er6,H⟩ := zp H
  obtain ⟨_,_,T,bk⟩ := S.calln 0 ((.z 0 rfl (.z 1 rfl (.z 2 rfl .nil))))
  refine zA (zx vO) zam (vR (a1:=a1) T er6) ?_
  rintro _ w7 ⟨rfl,S2⟩
  replace S:=bk _ _ _ _ S2 rfl
  refine wd (xb rfl) (wd (zo rfl rfl) (wd (zo rfl rfl) ?_))
  refine zQ vV zam fun b10 w9 hw9=>?_
  replace S:=S.new hw9
  refine z7 xc rfl rfl (S.blk 0) (RRule.len _) (by rw [RRule.len]; decide) (RRule.one _) (xx (RRule.len _)) fun w11 B hw11 zw11=>?_
  replace S:=S.store 0 B hw11
  refine wd (zi rfl) (zd (zb (zb (za (wd (zy rfl) (wd (xf rfl) (zd ?_)))))))
  refine zI rfl (fun hc12=>?_) (fun hc12=>?_)
  ·replace H:=if_t hc12 H
   refine zb (za (wd (Does.to (v' := .agg (Term.C tmZ).toArray) (xa (vs:=[]) yl rfl Bld.nil) rfl) ?_))
   refine wsT rfl rfl (S.blk 1) fun w13 B hw13 zw13=>?_
   replace S:=S.store 1 B hw13
   refine wd (zh rfl) (zd (zr ?_))
   replace S:=S.nilTm
   refine ⟨_,(xm (rtT rfl (S.blk 0)) (zf rfl)),?_⟩
   replace S:=S.arr [] [0]
   obtain rfl:=zaq H
   exact ⟨SlV.nil,rfl,S⟩
  replace H:=if_f hc12 H
  refine zw (zb ?_)
  obtain ⟨p14,s16,hp15,S⟩ := S.see_oMa 0
  replace S:=S
  refine wc_ws hmix fun w18 K=>?_
  replace S:=S.ext K
  clear K
  refine uL 0 7 [] zap zam zap
   (V:=fun i v u=>match i with
   | _=>True) ?_ ?_
  ·intro i v u u' hi hx hv
   match i,hv with
   | _,_=>exact trivial
  refine zT (fun v K=>zg fl_RRule_does rfl (o':=1) rfl) rfl (zT (fun v K=>zl vb rfl (((S.ext K).blk 0).cell (RRule.get_does _))) rfl (zT (fun v K=>zB rfl) rfl (zT (fun v K=>zS (congrArg Value.pointer hp15)) rfl (zT (fun v K=>zg y0 rfl (o':=0) rfl) rfl (zT (fun v K=>zl xo rfl (((S.ext K).blkZ 0).cell (Machine.get_t _))) rfl ?_)))))
  refine zT (fun v K=>zt z1 rfl (((S.ext K).blk 2).all _ (Term.len _)) (Term.len _)) rfl ?_
  refine kg fun g w19 K hV=>?_
  replace S:=S.ext K
  clear K hV
  refine zal 7 8 zap zam ?_
  obtain ⟨r21,er21,H⟩ := zp H
  obtain ⟨_,_,T,bk⟩ := S.sub [3,4,6] [] [oB b10 uG (RRule.C (ux r6.1)),oB b4 zm (Term.C tmZ),oB b2 zm (tmC a1 s_1)]
  refine zA (does_callvg (ca_rule_does r6.1) ((rfl:_=(ux r6.1).does.v).trans (rule_does_v er21)) (zN rfl (zN rfl rfl))) zam (rule_does_st (a1:=a1) T er21) ?_
  rintro _ w22 ⟨s24,rfl,S2⟩
  replace S:=bk _ _ _ _ _ S2 rfl rfl
  refine zd ⟨rfl,?_⟩
  refine uL 8 10 [] zap zam zap
   (V:=fun i v u=>match i with
   | _=>True) ?_ ?_
  ·intro i v u u' hi hx hv
   match i,hv with
   | _,_=>exact trivial
  refine zT (fun v K=>zo rfl rfl) rfl (zT (fun v K=>zo rfl rfl) rfl ?_)
  refine kg fun g w25 K hV=>?_
  replace S:=S.ext K
  clear K hV
  refine ws_tail 10 zap zam ?_
  refine wsT rfl rfl (S.blk 1) fun w27 B hw27 zw27=>?_
  replace S:=S.store 1 B hw27
  refine wd (zh rfl) ?_
  replace S:=S.zs [0,2,3,4,5,6,7]
  refine zd (zr ?_)
  refine ⟨_,(xm (rtT rfl (S.blk 0)) (zf rfl)),?_⟩
  replace S:=S.arr [] [0]
  obtain rfl:=zaq H
  exact ⟨s24,rfl,S⟩
 replace H:=if_f hc5 H
 refine zw (zb (za (wd (zM rfl) ?_)))
 obtain ⟨hi28,H⟩ := zX H
 refine wd (xg xZ rfl rfl (S.rd 3) (zG hi28).1 (zG hi28).2) (wd (zl xQ rfl ((S.rd 3).one (vf (0:Int) (zG hi28)) rfl)) (wd (zh rfl) (zd (zb (zb (za (wd (zk rfl) ?_)))))))
 refine wd (xp rfl rfl) (wd (zy rfl) ?_)
 refine wg (fun hg=>zk rfl) ?_
 refine wg (fun hg=>zg zD rfl (o':=4) rfl) ?_
 refine wg (fun hg=>zl zz (zn hg) ((S.blk 1).cell (Term.get_sub _))) ?_
 refine wg (fun hg=>does_lenF zq (zn hg) (S.onZ 2)) ?_
 refine wg (fun hg=>ut (zn hg) (zn hg)) (wd (xv rfl (fun hp=>(zn (xl hp)))) (zd ?_))
 refine zI rfl (fun hc29=>?_) (fun hc29=>?_)
 ·replace H:=if_t hc29 H
  refine zb (za (wd (Does.to (v' := .agg (Term.C tmZ).toArray) (xa (vs:=[]) yl rfl Bld.nil) rfl) ?_))
  refine wsT rfl rfl (S.blk 0) fun w30 B hw30 zw30=>?_
  replace S:=S.store 0 B hw30
  refine wd (zh rfl) (zd (zr ?_))
  replace S:=S.nilTm
  refine ⟨_,(xm (rtT rfl (S.blk 0)) (zf rfl)),?_⟩
  replace S:=S.arr [] [0]
  obtain rfl:=zaq H
  exact ⟨SlV.nil,rfl,S⟩
 replace H:=if_f hc29 H
 refine zw (zb ?_)
 obtain ⟨hi35,H⟩ := zX H
 obtain ⟨hs37,H⟩ := zX H
 obtain ⟨r38,er38,H⟩ := zp H
 obtain ⟨s36,S⟩ := S.viewTermC 2 (zG hi35)
 replace S:=S.zs [2,3,4,5,6,0,1]
 refine yX 14 ⟨fun _ _=>True,fun _ _ _=>True,fun i v _=>match i with
  | 0=>v=Value.pointer a_0
  | 1=>v=Value.pointer (some ⟨b2,4,none⟩)
  | 2=>v=s_1.v
  | 3=>v=Value.int .i64 (at_ (0:Int) a2 0)
  | 4=>v=Value.pointer (some ⟨s_1.blk,s_1.off + Int.toNat (at_ (0:Int) a2 0) * 5,none⟩)
  | 5=>v=Value.agg (tmC (kd a1 (at_ (0:Int) a2 0)) s36).toArray
  | 6=>v=s_2.v
  | 11=>v=Value.int .i64 r38.2
  | _=>True⟩ (fun L g v => ∃ b43:Nat,∃ s45:SlV,∃ O47:List OA,∃ Z46:List OA,(∀ z ∈ [oMa a_0 g_0_1 true,oT g_0_1 a0,ze s_1 a1.sub,fS 1 IC s_2 a2,oPw,oCl s_1.blk (s_1.off + Int.toNat (at_ (0:Int) a2 0) * 5) (tmC (kd a1 (at_ (0:Int) a2 0)) s36),ze s36 ((kd a1 (at_ (0:Int) a2 0)).sub)],z ∈ Z46)∧Made L g Z46 7 56 (fun (c:Unit)=>(⟨if s_2.c=((1:Int)).toNat then s_2.p else s_2.p.map (·.add (((1:Int)).toNat * 1)),s_2.n - ((1:Int)).toNat,s_2.c - ((1:Int)).toNat⟩ : SlV).v) (fun (c:Unit)=>[fS 1 IC (⟨if s_2.c=((1:Int)).toNat then s_2.p else s_2.p.map (·.add (((1:Int)).toNat * 1)),s_2.n - ((1:Int)).toNat,s_2.c - ((1:Int)).toNat⟩ : SlV) (a2.drop ((1:Int)).toNat)])∧Made L g Z46 8 57 (fun (c:SlV)=>Value.tuple #[.agg (tmC r38.1 c).toArray,.int .i64 r38.2]) (fun (c:SlV)=>[ze c r38.1.sub])∧Made L g Z46 9 48 (fun (c:SlV)=>Value.tuple #[.agg (tmC r38.1 c).toArray,.int .i64 r38.2]) (fun (c:SlV)=>[ze c r38.1.sub])∧Made L g Z46 10 58 (fun (c:SlV)=>Value.agg (tmC r38.1 c).toArray) (fun (c:SlV)=>[ze c r38.1.sub])∧(L 12=true→g 11=Value.pointer (some ⟨b43,0,none⟩))∧(L 13=true → ∀ z ∈ [ze s45 r38.1.sub],z ∈ Z46)∧O47=((bif L 13 then [oB b43 zm (tmC r38.1 s45)] else (bif L 12 then [oB b43 zm (Term.C tmZ)] else [])) ++ [oB b4 zm (Term.C tmZ),oB b2 zm (tmC a1 s_1)])∧St A N w v O47 Z46) hmix zap (fun _ _ _ _ _ _ _ hv=>hv) (fun g=>⟨0,SlV.nil,_,_,fun _ h=>h,Made.no,Made.no,Made.no,Made.no,(fun h=>by cases h),(fun h=>by cases h),rfl,S.ext (Ext.drawn _)⟩) ⟨?_,?_,?_,?_,?_,?_,?_,?_,?_,?_,?_,?_,?_,?_,trivial⟩ ?_
 ·rintro L g v hL hcl hclo ⟨b43,s45,O47,Z46,hZ,hm7,hm8,hm9,hm10,hk12,hq13,hO,S⟩ 
  have hl13:=clF hL (hclo 13 0 · zap)
  have SR:St A N w v [oB b4 zm (Term.C tmZ),oB b2 zm (tmC a1 s_1)] (oMa a_0 g_0_1 true :: oT g_0_1 a0 :: ze s_1 a1.sub :: fS 1 IC s_2 a2 :: oPw :: oCl s_1.blk (s_1.off + Int.toNat (at_ (0:Int) a2 0) * 5) (tmC (kd a1 (at_ (0:Int) a2 0)) s36) :: ze s36 ((kd a1 (at_ (0:Int) a2 0)).sub) :: Z46):=by
   have S2:=S.zneed hZ
   rw [hO] at S2
   simp only [hl13,cd2,la2] at S2
   exact S2.drops
  refine wd (zB rfl) ?_
  exact w4 rfl ⟨b43,s45,O47,Z46,hZ,hm7.keep rfl rfl tl0,hm8.keep rfl rfl tl0,hm9.keep rfl rfl tl0,hm10.keep rfl rfl tl0,(kpU hk12),(kpZ tl0 hq13),by rw [hO]; simp only [pN L 0 12,pN L 0 13],S⟩
 ·rintro L g v hL hcl hclo ⟨b43,s45,O47,Z46,hZ,hm7,hm8,hm9,hm10,hk12,hq13,hO,S⟩ 
  have hl13:=clF hL (hclo 13 1 · zap)
  have SR:St A N w v [oB b4 zm (Term.C tmZ),oB b2 zm (tmC a1 s_1)] (oMa a_0 g_0_1 true :: oT g_0_1 a0 :: ze s_1 a1.sub :: fS 1 IC s_2 a2 :: oPw :: oCl s_1.blk (s_1.off + Int.toNat (at_ (0:Int) a2 0) * 5) (tmC (kd a1 (at_ (0:Int) a2 0)) s36) :: ze s36 ((kd a1 (at_ (0:Int) a2 0)).sub) :: Z46):=by
   have S2:=S.zneed hZ
   rw [hO] at S2
   simp only [hl13,cd2,la2] at S2
   exact S2.drops
  refine wd (zg zD rfl (o':=4) rfl) ?_
  exact w4 rfl ⟨b43,s45,O47,Z46,hZ,hm7.keep rfl rfl tl0,hm8.keep rfl rfl tl0,hm9.keep rfl rfl tl0,hm10.keep rfl rfl tl0,(kpU hk12),(kpZ tl0 hq13),by rw [hO]; simp only [pN L 1 12,pN L 1 13],S⟩
 ·rintro L g v hL hcl hclo ⟨b43,s45,O47,Z46,hZ,hm7,hm8,hm9,hm10,hk12,hq13,hO,S⟩ hv1
  have hl13:=clF hL (hclo 13 2 · zap)
  have SR:St A N w v [oB b4 zm (Term.C tmZ),oB b2 zm (tmC a1 s_1)] (oMa a_0 g_0_1 true :: oT g_0_1 a0 :: ze s_1 a1.sub :: fS 1 IC s_2 a2 :: oPw :: oCl s_1.blk (s_1.off + Int.toNat (at_ (0:Int) a2 0) * 5) (tmC (kd a1 (at_ (0:Int) a2 0)) s36) :: ze s36 ((kd a1 (at_ (0:Int) a2 0)).sub) :: Z46):=by
   have S2:=S.zneed hZ
   rw [hO] at S2
   simp only [hl13,cd2,la2] at S2
   exact S2.drops
  refine wd (zl zz hv1 ((SR.blk 1).cell (Term.get_sub _))) ?_
  exact w4 rfl ⟨b43,s45,O47,Z46,hZ,hm7.keep rfl rfl tl0,hm8.keep rfl rfl tl0,hm9.keep rfl rfl tl0,hm10.keep rfl rfl tl0,(kpU hk12),(kpZ tl0 hq13),by rw [hO]; simp only [pN L 2 12,pN L 2 13],S⟩
 ·rintro L g v hL hcl hclo ⟨b43,s45,O47,Z46,hZ,hm7,hm8,hm9,hm10,hk12,hq13,hO,S⟩ 
  have hl13:=clF hL (hclo 13 3 · zap)
  have SR:St A N w v [oB b4 zm (Term.C tmZ),oB b2 zm (tmC a1 s_1)] (oMa a_0 g_0_1 true :: oT g_0_1 a0 :: ze s_1 a1.sub :: fS 1 IC s_2 a2 :: oPw :: oCl s_1.blk (s_1.off + Int.toNat (at_ (0:Int) a2 0) * 5) (tmC (kd a1 (at_ (0:Int) a2 0)) s36) :: ze s36 ((kd a1 (at_ (0:Int) a2 0)).sub) :: Z46):=by
   have S2:=S.zneed hZ
   rw [hO] at S2
   simp only [hl13,cd2,la2] at S2
   exact S2.drops
  refine wd (zk rfl) ?_
  exact w4 rfl ⟨b43,s45,O47,Z46,hZ,hm7.keep rfl rfl tl0,hm8.keep rfl rfl tl0,hm9.keep rfl rfl tl0,hm10.keep rfl rfl tl0,(kpU hk12),(kpZ tl0 hq13),by rw [hO]; simp only [pN L 3 12,pN L 3 13],S⟩
 ·rintro L g v hL hcl hclo ⟨b43,s45,O47,Z46,hZ,hm7,hm8,hm9,hm10,hk12,hq13,hO,S⟩ hv2 hv3
  have hl13:=clF hL (hclo 13 4 · zap)
  have SR:St A N w v [oB b4 zm (Term.C tmZ),oB b2 zm (tmC a1 s_1)] (oMa a_0 g_0_1 true :: oT g_0_1 a0 :: ze s_1 a1.sub :: fS 1 IC s_2 a2 :: oPw :: oCl s_1.blk (s_1.off + Int.toNat (at_ (0:Int) a2 0) * 5) (tmC (kd a1 (at_ (0:Int) a2 0)) s36) :: ze s36 ((kd a1 (at_ (0:Int) a2 0)).sub) :: Z46):=by
   have S2:=S.zneed hZ
   rw [hO] at S2
   simp only [hl13,cd2,la2] at S2
   exact S2.drops
  refine wd (does_indexF zq hv2 hv3 (SR.onZ 2) (zG hi35).1 (zG hi35).2) ?_
  exact w4 rfl ⟨b43,s45,O47,Z46,hZ,hm7.keep rfl rfl tl0,hm8.keep rfl rfl tl0,hm9.keep rfl rfl tl0,hm10.keep rfl rfl tl0,(kpU hk12),(kpZ tl0 hq13),by rw [hO]; simp only [pN L 4 12,pN L 4 13],S⟩
 ·rintro L g v hL hcl hclo ⟨b43,s45,O47,Z46,hZ,hm7,hm8,hm9,hm10,hk12,hq13,hO,S⟩ hv4
  have hl13:=clF hL (hclo 13 5 · zap)
  have SR:St A N w v [oB b4 zm (Term.C tmZ),oB b2 zm (tmC a1 s_1)] (oMa a_0 g_0_1 true :: oT g_0_1 a0 :: ze s_1 a1.sub :: fS 1 IC s_2 a2 :: oPw :: oCl s_1.blk (s_1.off + Int.toNat (at_ (0:Int) a2 0) * 5) (tmC (kd a1 (at_ (0:Int) a2 0)) s36) :: ze s36 ((kd a1 (at_ (0:Int) a2 0)).sub) :: Z46):=by
   have S2:=S.zneed hZ
   rw [hO] at S2
   simp only [hl13,cd2,la2] at S2
   exact S2.drops
  refine wd (zt z1 hv4 (SR.cl 5) (Term.len _)) ?_
  exact w4 rfl ⟨b43,s45,O47,Z46,hZ,hm7.keep rfl rfl tl0,hm8.keep rfl rfl tl0,hm9.keep rfl rfl tl0,hm10.keep rfl rfl tl0,(kpU hk12),(kpZ tl0 hq13),by rw [hO]; simp only [pN L 5 12,pN L 5 13],S⟩
 ·rintro L g v hL hcl hclo ⟨b43,s45,O47,Z46,hZ,hm7,hm8,hm9,hm10,hk12,hq13,hO,S⟩ 
  have hl13:=clF hL (hclo 13 6 · zap)
  have SR:St A N w v [oB b4 zm (Term.C tmZ),oB b2 zm (tmC a1 s_1)] (oMa a_0 g_0_1 true :: oT g_0_1 a0 :: ze s_1 a1.sub :: fS 1 IC s_2 a2 :: oPw :: oCl s_1.blk (s_1.off + Int.toNat (at_ (0:Int) a2 0) * 5) (tmC (kd a1 (at_ (0:Int) a2 0)) s36) :: ze s36 ((kd a1 (at_ (0:Int) a2 0)).sub) :: Z46):=by
   have S2:=S.zneed hZ
   rw [hO] at S2
   simp only [hl13,cd2,la2] at S2
   exact S2.drops
  refine wd (zM rfl) ?_
  exact w4 rfl ⟨b43,s45,O47,Z46,hZ,hm7.keep rfl rfl tl0,hm8.keep rfl rfl tl0,hm9.keep rfl rfl tl0,hm10.keep rfl rfl tl0,(kpU hk12),(kpZ tl0 hq13),by rw [hO]; simp only [pN L 6 12,pN L 6 13],S⟩
 ·rintro L g v hL hcl hclo ⟨b43,s45,O47,Z46,hZ,hm7,hm8,hm9,hm10,hk12,hq13,hO,S⟩ hv6
  have hl13:=clF hL (hclo 13 7 · zap)
  replace S:=(S.zneed hZ)
  refine wd (does_suf xZ hv6 rfl (S.rd 3) (of_decide_eq_true hs37)) ?_
  replace S:=S.sufZ 3 (of_decide_eq_true hs37)
  exact w4 trivial ⟨b43,s45,O47,_,(fun z h=>tl8 z (hZ z h)),Made.one (val:=(fun (c:Unit)=>(⟨if s_2.c=((1:Int)).toNat then s_2.p else s_2.p.map (·.add (((1:Int)).toNat * 1)),s_2.n - ((1:Int)).toNat,s_2.c - ((1:Int)).toNat⟩ : SlV).v)) (ps:=(fun (c:Unit)=>[fS 1 IC (⟨if s_2.c=((1:Int)).toNat then s_2.p else s_2.p.map (·.add (((1:Int)).toNat * 1)),s_2.n - ((1:Int)).toNat,s_2.c - ((1:Int)).toNat⟩ : SlV) (a2.drop ((1:Int)).toNat)])) () (xX List.mem_cons_self yw),hm8.keep rfl rfl tl8,hm9.keep rfl rfl tl8,hm10.keep rfl rfl tl8,(kpU hk12),(kpZ tl8 hq13),by rw [hO]; simp only [pN L 7 12,pN L 7 13],S⟩
 ·rintro L g v hL hcl hclo ⟨b43,s45,O47,Z46,hZ,hm7,hm8,hm9,hm10,hk12,hq13,hO,S⟩ hv0 hv5 _
  obtain ⟨_,he7,hp7⟩ := hm7 (hcl 7 zap)
  have hl13:=clF hL (hclo 13 8 · zap)
  replace S:=(S.zneed (xD (l1:=[fS 1 IC (⟨if s_2.c=((1:Int)).toNat then s_2.p else s_2.p.map (·.add (((1:Int)).toNat * 1)),s_2.n - ((1:Int)).toNat,s_2.c - ((1:Int)).toNat⟩ : SlV) (a2.drop ((1:Int)).toNat)]) hp7 hZ))
  obtain ⟨_,_,T,bk⟩ := S.sub [1,2,7,0,5] [] (O47)
  refine zA (zK jT (zN hv0 (zN hv5 (zN he7 rfl)))) zam (zch (a1:=(kd a1 (at_ (0:Int) a2 0))) T er38) ?_
  rintro _ w51 ⟨s53,rfl,S2⟩
  replace S:=bk _ _ _ _ _ S2 rfl rfl
  exact w4 trivial ⟨b43,s45,O47,_,(fun z h=>tl9 z (hZ z h)),hm7.keep rfl rfl tl9,Made.one (val:=(fun (c:SlV)=>Value.tuple #[.agg (tmC r38.1 c).toArray,.int .i64 r38.2])) (ps:=(fun (c:SlV)=>[ze c r38.1.sub])) s53 (xX List.mem_cons_self yw),hm9.keep rfl rfl tl9,hm10.keep rfl rfl tl9,(kpU hk12),(kpZ tl9 hq13),by rw [hO]; simp only [pN L 8 12,pN L 8 13],S⟩
 ·rintro L g v hL hcl hclo ⟨b43,s45,O47,Z46,hZ,hm7,hm8,hm9,hm10,hk12,hq13,hO,S⟩ _
  obtain ⟨s41,he8,hp8⟩ := hm8 (hcl 8 zap)
  have hl13:=clF hL (hclo 13 9 · zap)
  replace S:=(S.zneed (xD (l1:=[ze s41 r38.1.sub]) hp8 hZ))
  refine wd (xb he8) ?_
  exact w4 trivial ⟨b43,s45,O47,_,(fun z h=>tl8 z (hZ z h)),hm7.keep rfl rfl tl8,hm8.keep rfl rfl tl8,Made.one (val:=(fun (c:SlV)=>Value.tuple #[.agg (tmC r38.1 c).toArray,.int .i64 r38.2])) (ps:=(fun (c:SlV)=>[ze c r38.1.sub])) s41 (xX List.mem_cons_self yw),hm10.keep rfl rfl tl8,(kpU hk12),(kpZ tl8 hq13),by rw [hO]; simp only [pN L 9 12,pN L 9 13],S⟩
 ·rintro L g v hL hcl hclo ⟨b43,s45,O47,Z46,hZ,hm7,hm8,hm9,hm10,hk12,hq13,hO,S⟩ _
  obtain ⟨s41,he9,hp9⟩ := hm9 (hcl 9 zap)
  have hl13:=clF hL (hclo 13 10 · zap)
  replace S:=(S.zneed (xD (l1:=[ze s41 r38.1.sub]) hp9 hZ))
  refine wd (zo he9 rfl) ?_
  exact w4 trivial ⟨b43,s45,O47,_,(fun z h=>tl8 z (hZ z h)),hm7.keep rfl rfl tl8,hm8.keep rfl rfl tl8,hm9.keep rfl rfl tl8,Made.one (val:=(fun (c:SlV)=>Value.agg (tmC r38.1 c).toArray)) (ps:=(fun (c:SlV)=>[ze c r38.1.sub])) s41 (xX List.mem_cons_self yw),(kpU hk12),(kpZ tl8 hq13),by rw [hO]; simp only [pN L 10 12,pN L 10 13],S⟩
 ·rintro L g v hL hcl hclo ⟨b43,s45,O47,Z46,hZ,hm7,hm8,hm9,hm10,hk12,hq13,hO,S⟩ _
  obtain ⟨s41,he9,hp9⟩ := hm9 (hcl 9 zap)
  have SR:St A N w v [oB b4 zm (Term.C tmZ),oB b2 zm (tmC a1 s_1)] (ze s41 r38.1.sub :: oMa a_0 g_0_1 true :: oT g_0_1 a0 :: ze s_1 a1.sub :: fS 1 IC s_2 a2 :: oPw :: oCl s_1.blk (s_1.off + Int.toNat (at_ (0:Int) a2 0) * 5) (tmC (kd a1 (at_ (0:Int) a2 0)) s36) :: ze s36 ((kd a1 (at_ (0:Int) a2 0)).sub) :: Z46):=by
   have S2:=S.zneed (xD (l1:=[ze s41 r38.1.sub]) hp9 hZ)
   rw [hO] at S2
   exact S2.drops
  refine wd (zo he9 rfl) ?_
  exact w4 rfl ⟨b43,s45,O47,Z46,hZ,hm7.keep rfl rfl tl0,hm8.keep rfl rfl tl0,hm9.keep rfl rfl tl0,hm10.keep rfl rfl tl0,(kpU hk12),(kpZ tl0 hq13),by rw [hO]; simp only [pN L 11 12,pN L 11 13],S⟩
 ·rintro L g v hL hcl hclo ⟨b43,s45,O47,Z46,hZ,hm7,hm8,hm9,hm10,hk12,hq13,hO,S⟩ 
  have hl12:L 12=false:=hL
  have hl13:=clF hL (hclo 13 12 · zap)
  have hOP : ∃ P Y,P=[]∧Y=[oB b4 zm (Term.C tmZ),oB b2 zm (tmC a1 s_1)]∧O47=P ++ ([] ++ Y):=⟨_,_,rfl,rfl,by rw [hO]; simp only [hl12,hl13,cd2,la2]⟩
  obtain ⟨P,Y,hP,hY,hPY⟩ := hOP
  rw [hPY] at S
  replace S:=S
  refine zQ xn zam fun b55 w54 hw54=>?_
  replace S:=S.new hw54
  refine w4 trivial ⟨b55,s45,P ++ ([oB b55 zm (Term.C tmZ)] ++ Y),_,hZ,hm7.keep rfl rfl tl0,hm8.keep rfl rfl tl0,hm9.keep rfl rfl tl0,hm10.keep rfl rfl tl0,(fun _=>upd_same _ _ _),(kpZ tl0 hq13),?_,S.ins (P:=[oB b55 zm (Term.C tmZ)])⟩
  rw [hP,hY]; simp only [pN L 12 13,xR (L:=L) (i:=12),hl13,cd2,la2]
 ·rintro L g v hL hcl hclo ⟨b43,s45,O47,Z46,hZ,hm7,hm8,hm9,hm10,hk12,hq13,hO,S⟩ _ _
  obtain ⟨s41,he10,hp10⟩ := hm10 (hcl 10 zap)
  have hl12:L 12=true:=hcl 12 zap
  have hl13:L 13=false:=hL
  have hOP : ∃ P Y,P=[]∧Y=[oB b4 zm (Term.C tmZ),oB b2 zm (tmC a1 s_1)]∧O47=P ++ ([oB b43 zm (Term.C tmZ)] ++ Y):=⟨_,_,rfl,rfl,by rw [hO]; simp only [hl12,hl13,cd2,la2]⟩
  obtain ⟨P,Y,hP,hY,hPY⟩ := hOP
  rw [hPY] at S
  replace S:=(S.ins.zneed (xD (l1:=[ze s41 r38.1.sub]) hp10 hZ))
  refine wsT (hk12 (hcl 12 zap)) he10 (S.blk 0) fun w56 B hw56 zw56=>?_
  replace S:=S.store 0 B hw56
  refine zd (ob40 trivial (fun _=>trivial) ⟨b43,s41,P ++ ([oB b43 zm (tmC r38.1 s41)] ++ Y),_,(fun z h=>tl8 z (hZ z h)),hm7.keep0 rfl tl8,hm8.keep0 rfl tl8,hm9.keep0 rfl tl8,hm10.keep0 rfl tl8,(kpP hk12),(fun _ z q=>tl8 z (hp10 z q)),?_,S.ins (P:=[oB b43 zm (tmC r38.1 s41)])⟩)
  rw [hP,hY]; simp only [pN L 13 12,xR (L:=L) (i:=13),hl12,cd2,la2]
 rintro L g w57 hLm ⟨b43,s45,O47,Z46,hZ,hm7,hm8,hm9,hm10,hk12,hq13,hO,S⟩ hv58_0 hv58_1 hv58_2 hv58_3 hv58_4 hv58_5 hv58_6 _ _ _ _ hv58_11 _ _
 have hLt : ∀ j,j < 14→L j=true:=fun j hj=>by rw [hLm]; exact decide_eq_true hj
 obtain ⟨_,hv58_7,hp7⟩ := hm7 (hLt 7 zam)
 obtain ⟨s41,hv58_10,hp10⟩ := hm10 (hLt 10 zam)
 have hv58_12:=hk12 (hLt 12 zam)
 simp only [hLt 12 zam,hLt 13 zam,cond_true,List.nil_append,List.cons_append] at hO
 rw [hO] at S
 replace hq13:=hq13 (hLt 13 zam)
 replace S:=S.pickZ (xD (l1:=[fS 1 IC (⟨if s_2.c=((1:Int)).toNat then s_2.p else s_2.p.map (·.add (((1:Int)).toNat * 1)),s_2.n - ((1:Int)).toNat,s_2.c - ((1:Int)).toNat⟩ : SlV) (a2.drop ((1:Int)).toNat)]) hp7 (xD (l1:=[ze s41 r38.1.sub]) hp10 (xD (l1:=[ze s45 r38.1.sub]) hq13 hZ)))
 clear hp7 hp10 hZ hm7 hm8 hm9 hm10
 refine wd (zh hv58_11) (zd (zb (zb (za (wd (zk rfl) (wd (xq rfl rfl) (zd ?_)))))))
 refine zI rfl (fun hc59=>?_) (fun hc59=>?_)
 ·replace H:=if_t hc59 H
  refine zb (za (wd (Does.to (v' := .agg (Term.C tmZ).toArray) (xa (vs:=[]) yl rfl Bld.nil) rfl) (wd (zk rfl) ?_)))
  refine wsT rfl rfl (S.blk 1) fun w60 B hw60 zw60=>?_
  replace S:=S.store 1 B hw60
  refine wd (zh rfl) (zd (zr ?_))
  replace S:=S.nilTm
  refine ⟨_,(xm (rtT rfl (S.blk 0)) (zf rfl)),?_⟩
  replace S:=S.arr [] [0]
  obtain rfl:=zaq H
  exact ⟨SlV.nil,rfl,S⟩
 replace H:=if_f hc59 H
 refine zw (zb (za (wd (zg zD rfl (o':=4) rfl) (wd (zl zz rfl ((S.blk 2).cell (Term.get_sub _))) ?_))))
 obtain ⟨r62,er62,H⟩ := zp H
 obtain ⟨_,_,T,bk⟩ := S.sub [5] [] [oB b43 zm (tmC r38.1 s45),oB b4 zm (Term.C tmZ),oB b2 zm (tmC a1 s_1)]
 refine zA (zx yc) zam (yd T er62) ?_
 rintro _ w61 ⟨s64,m65,rfl,S2⟩
 replace S:=bk _ _ _ _ _ S2 rfl rfl
 refine wd (zg zD rfl (o':=4) rfl) ?_
 refine yE zz rfl rfl (S.blk 3) (by rw [Term.len]; decide) (SlV.one _ _ rfl) (Term.set_sub _ _) fun w66 B hw66 zw66=>?_
 replace S:=S.store 3 B hw66
 refine zd (zb (za (wd (zg zD rfl (o':=4) rfl) (wd (zl zz rfl ((S.blk 0).cell (Term.get_sub _))) (wd (zk rfl) (wd (zt z1 hv58_12 ((S.blk 2).all _ (Term.len _)) (Term.len _)) ?_))))))
 obtain ⟨hi67,H⟩ := zX H
 refine wd (xg zq rfl rfl (S.rdO 1) (zG hi67).1 (by rw [(S.lenTm 0)]; exact (zG hi67).2)) ?_
 have hlw68:=S.lenO 1
 have hqw68:=(S.lenTm 0)
 refine kn (C:=Term.C) (a:=(tmT r38.1 s45)) z1 rfl rfl (S.sl 1) ⟨(zG hi67).1,by rw [hqw68]; exact (zG hi67).2⟩ (Term.len _) (Term.one _) fun w68 O hw68=>?_
 replace S:=S.push 1 O (by rw [List.length_set]; exact hlw68) hw68 (fun i hi => .inl hi)
 clear O hlw68 hqw68
 replace S:=S.setTm (x:=r38.1) 0 3 (Int.toNat (at_ (0:Int) a2 0))
 refine zd (zb (za ?_))
 replace S:=S.frzTm 0 0
 refine wd (ldT rfl (S.blk 0)) ?_
 refine wsT rfl rfl (S.blk 2) fun w69 B hw69 zw69=>?_
 replace S:=S.store 2 B hw69
 refine wd (zh rfl) (zd (zr ?_))
 refine ⟨_,(xm (rtT rfl (S.blk 0)) (zf rfl)),?_⟩
 replace S:=S.arr [] [0]
 obtain rfl:=zaq H
 exact ⟨s64,rfl,S⟩
theorem reduce_machine_do_st {a0:Tb} {a_0:Option Addr} {g_0_1:Option Addr} {a1:PTerm} {s_1:SlV} {a2:List Int} {s_2:SlV} (S:St A N w w [] [oMa a_0 g_0_1 true,oT g_0_1 a0,ze s_1 a1.sub,fS 1 IC s_2 a2,oPw]) {k:Nat} {r:PTerm × Int} (H:zbE.f k a0 a1 a2=some r) :
  Calls PP yU #[.pointer a_0,.agg (tmC a1 s_1).toArray,s_2.v] w <| Rt fun v w'=>(∃ so0:SlV,v = .tuple #[.agg (tmC r.1 so0).toArray,.int .i64 r.2]∧St A N w w' [] [ze so0 r.1.sub]):=by
 have main : ∀ (k:Nat) {A:Nat→Prop} {N:Oth} {w:World} {a0:Tb} {a_0:Option Addr} {g_0_1:Option Addr} {a1:PTerm} {s_1:SlV} {a2:List Int} {s_2:SlV} (S:St A N w w [] [oMa a_0 g_0_1 true,oT g_0_1 a0,ze s_1 a1.sub,fS 1 IC s_2 a2,oPw]) {r:PTerm × Int} (H:zbE.f k a0 a1 a2=some r),Calls PP yU #[.pointer a_0,.agg (tmC a1 s_1).toArray,s_2.v] w <| Rt fun v w'=>(∃ so0:SlV,v = .tuple #[.agg (tmC r.1 so0).toArray,.int .i64 r.2]∧St A N w w' [] [ze so0 r.1.sub]):=by
  intro k
  induction k with
  | zero=>intro A N w a0 a_0 g_0_1 a1 s_1 a2 s_2 S r H; cases H
  | succ k ih=>intro A N w a0 a_0 g_0_1 a1 s_1 a2 s_2 S r H; exact reduce_machine_do_gst ih S H
 exact main k S H
theorem jq {a0:Tb} {a_0:Option Addr} {g_0_1:Option Addr} {a1:PTerm} {s_1:SlV} {a2:List Int} {s_2:SlV} (S:St A N w w [] [oMa a_0 g_0_1 true,oT g_0_1 a0,ze s_1 a1.sub,fS 1 IC s_2 a2,oPw]) {k:Nat} {r:PTerm × Int} (H:zbF.f k a0 a1 a2=some r) :
  Calls PP jt #[.pointer a_0,.agg (tmC a1 s_1).toArray,s_2.v] w <| Rt fun v w'=>(∃ so0:SlV,v = .tuple #[.agg (tmC r.1 so0).toArray,.int .i64 r.2]∧St A N w w' [] [ze so0 r.1.sub]):=by
 unfold zbF.f at H
 refine zu (n:=30) Tryz.func42 rfl rfl zao (zb (za ?_))
 refine zH rfl zam fun b2 w1 hw1=>?_
 replace S:=S.new hw1
 refine zQ xn zam fun b4 w3 hw3=>?_
 replace S:=S.new hw3
 refine wd (zh rfl) (zd (zb (za (wd (zB rfl) (wd (ldT rfl (S.blk 1)) (wd (zM rfl) ?_))))))
 obtain ⟨r5,er5,H⟩ := zp H
 obtain ⟨_,_,T,bk⟩ := S.sub [0,1,2,3,4] [] [oB b4 zm (Term.C tmZ),oB b2 zm (tmC a1 s_1)]
 refine zA (zx jT) zam (reduce_machine_do_st (a1:=a1) T er5) ?_
 rintro _ w6 ⟨s8,rfl,S2⟩
 replace S:=bk _ _ _ _ _ S2 rfl rfl
 refine wd (xb rfl) (wd (zo rfl rfl) (wd (zo rfl rfl) ?_))
 refine zQ xn zam fun b10 w9 hw9=>?_
 replace S:=S.new hw9
 refine wsT rfl rfl (S.blk 0) fun w11 B hw11 zw11=>?_
 replace S:=S.store 0 B hw11
 refine wd (zh rfl) (zd (zb (zb (za (wd (zk rfl) (wd (zR rfl rfl) (wd (zy rfl) ?_)))))))
 refine wg (fun hg=>ldT rfl (S.blk 0)) ?_
 obtain ⟨r12,er12,H⟩ := zp H
 refine xJ (j:=2) (pol:=true) rfl rfl rfl zam (fun hg=>zK vW (zN (zn hg) rfl)) zam (fun hg=>(have ⟨M,SS⟩ := S.lend ((.z 0 rfl .nil)); quiet (vY (a0:=r5.1) SS (if_t (by simpa using hg) er12)) (fun v w' h=>⟨h.1,_,_,h.2⟩))) fun w13 hw13=>?_
 replace S:=S.ext hw13
 refine wg (fun hg=>xq (zn hg) rfl) (wd (zV rfl (fun hp=>(zn (xl hp)))) (zd ?_))
 refine zI rfl (fun hc14=>?_) (fun hc14=>?_)
 ·replace H:=if_t hc14 H
  refine za (wd (zh rfl) (zd (zb (zb (za (wd (zk rfl) (wd (xq rfl rfl) (zd ?_))))))))
  refine zI rfl (fun hc15=>?_) (fun hc15=>?_)
  ·replace H:=if_t hc15 H
   refine zb (za (wd (Does.to (v' := .agg (Term.C tmZ).toArray) (xa (vs:=[]) yl rfl Bld.nil) rfl) (wd (zk rfl) ?_)))
   refine wsT rfl rfl (S.blk 1) fun w16 B hw16 zw16=>?_
   replace S:=S.store 1 B hw16
   refine wd (zh rfl) (zd (zr ?_))
   replace S:=S.nilTm
   refine ⟨_,(xm (rtT rfl (S.blk 0)) (zf rfl)),?_⟩
   replace S:=S.arr [] [0]
   obtain rfl:=zaq H
   exact ⟨SlV.nil,rfl,S⟩
  replace H:=if_f hc15 H
  refine zw (zb (za (wd (ldT rfl (S.blk 0)) ?_)))
  obtain ⟨r17,er17,H⟩ := zp H
  obtain ⟨_,_,T,bk⟩ := S.sub [0] [] [oB b10 zm (tmC r5.1 s8),oB b4 zm (Term.C tmZ),oB b2 zm (tmC a1 s_1)]
  refine zA (zx uI) zam (j9 (a0:=r5.1) T er17) ?_
  rintro _ w18 ⟨s20,rfl,S2⟩
  replace S:=bk _ _ _ _ _ S2 rfl rfl
  refine wsT rfl rfl (S.blk 1) fun w21 B hw21 zw21=>?_
  replace S:=S.store 1 B hw21
  refine wd (zh rfl) (zd (zr ?_))
  refine ⟨_,(xm (rtT rfl (S.blk 0)) (zf rfl)),?_⟩
  replace S:=S.arr [] [0]
  obtain rfl:=zaq H
  exact ⟨s20,rfl,S⟩
 ·replace H:=if_f hc14 H
  refine zw (zb (zb (za (wd (zk rfl) (wd (xq rfl rfl) (zd ?_))))))
  refine zI rfl (fun hc22=>?_) (fun hc22=>?_)
  ·replace H:=if_t hc22 H
   refine zb (za (wd (Does.to (v' := .agg (Term.C tmZ).toArray) (xa (vs:=[]) yl rfl Bld.nil) rfl) (wd (zk rfl) ?_)))
   refine wsT rfl rfl (S.blk 1) fun w23 B hw23 zw23=>?_
   replace S:=S.store 1 B hw23
   refine wd (zh rfl) (zd (zr ?_))
   replace S:=S.nilTm
   refine ⟨_,(xm (rtT rfl (S.blk 0)) (zf rfl)),?_⟩
   replace S:=S.arr [] [0]
   obtain rfl:=zaq H
   exact ⟨SlV.nil,rfl,S⟩
  replace H:=if_f hc22 H
  refine zw (zb (za (wd (ldT rfl (S.blk 0)) ?_)))
  obtain ⟨r24,er24,H⟩ := zp H
  obtain ⟨_,_,T,bk⟩ := S.sub [0] [] [oB b10 zm (tmC r5.1 s8),oB b4 zm (Term.C tmZ),oB b2 zm (tmC a1 s_1)]
  refine zA (zx uI) zam (j9 (a0:=r5.1) T er24) ?_
  rintro _ w25 ⟨s27,rfl,S2⟩
  replace S:=bk _ _ _ _ _ S2 rfl rfl
  refine wsT rfl rfl (S.blk 1) fun w28 B hw28 zw28=>?_
  replace S:=S.store 1 B hw28
  refine wd (zh rfl) (zd (zr ?_))
  refine ⟨_,(xm (rtT rfl (S.blk 0)) (zf rfl)),?_⟩
  replace S:=S.arr [] [0]
  obtain rfl:=zaq H
  exact ⟨s27,rfl,S⟩
theorem reduce_Do_st {a0:Tb} {a_0:Option Addr} {a1:PTerm} {s_1:SlV} {a2:List Int} {s_2:SlV} (S:St A N w w [] [oT a_0 a0,ze s_1 a1.sub,fS 1 IC s_2 a2,oPw]) {k:Nat} {r:PTerm × Int} (H:zbG.f k a0 a1 a2=some r) :
  Calls PP F_reduce_Do #[.pointer a_0,.agg (tmC a1 s_1).toArray,s_2.v] w <| Rt fun v w'=>(∃ so0:SlV,v = .tuple #[.agg (tmC r.1 so0).toArray,.int .i64 r.2]∧St A N w w' [] [ze so0 r.1.sub]):=by
 unfold zbG.f at H
 refine zu (n:=26) Tryz.func16 rfl rfl zao (zb (za ?_))
 refine zH rfl zam fun b2 w1 hw1=>?_
 replace S:=S.new hw1
 refine zQ xn zam fun b4 w3 hw3=>?_
 replace S:=S.new hw3
 refine wd (zh rfl) (zd (zb (za (wd (zB rfl) (wd (ldT rfl (S.blk 1)) ?_)))))
 obtain ⟨r5,er5,H⟩ := zp H
 obtain ⟨_,_,T,bk⟩ := S.sub [0,1,3] [] [oB b4 zm (Term.C tmZ),oB b2 zm (tmC a1 s_1)]
 refine zA (zx j4) zam (j8 (a1:=a1) T er5) ?_
 rintro _ w6 ⟨a8,rfl,S2⟩
 replace S:=bk _ _ _ _ _ S2 rfl rfl
 refine wd (xb rfl) (wd (zo rfl rfl) (wd (zo rfl rfl) (wd (zZ rfl) (wd (zh rfl) (zd (zb (zb (za ?_))))))))
 refine wd (zk rfl) (wd (xq rfl rfl) (zd ?_))
 refine zI rfl (fun hc9=>?_) (fun hc9=>?_)
 ·replace H:=if_t hc9 H
  refine zb (za (wd (Does.to (v' := .agg (Term.C tmZ).toArray) (xa (vs:=[]) yl rfl Bld.nil) rfl) (wd (zk rfl) ?_)))
  refine wsT rfl rfl (S.blk 0) fun w10 B hw10 zw10=>?_
  replace S:=S.store 0 B hw10
  refine wd (zh rfl) (zd (zr ?_))
  replace S:=S.nilTm
  refine ⟨_,(xm (rtT rfl (S.blk 0)) (zf rfl)),?_⟩
  replace S:=S.arr [] [0]
  obtain rfl:=zaq H
  exact ⟨SlV.nil,rfl,S⟩
 replace H:=if_f hc9 H
 refine zw (zb (za (wd (zB rfl) (wd (ldT rfl (S.blk 1)) (wd (zM rfl) ?_)))))
 obtain ⟨ht12,H⟩ := zX H
 rw [ht12] at S
 obtain ⟨r11,er11,H⟩ := zp H
 obtain ⟨_,_,T,bk⟩ := S.sub [0,1,2,3,4] [] [oB b4 zm (Term.C tmZ),oB b2 zm (tmC a1 s_1)]
 refine zA (zx jj) zam (jq (a1:=a1) T er11) ?_
 rintro _ w13 ⟨s15,rfl,S2⟩
 replace S:=bk _ _ _ _ _ S2 rfl rfl
 refine wd (zo rfl rfl) (wd (zo rfl rfl) ?_)
 refine wsT rfl rfl (S.blk 0) fun w16 B hw16 zw16=>?_
 replace S:=S.store 0 B hw16
 refine wd (zh rfl) (zd (zr ?_))
 refine ⟨_,(xm (rtT rfl (S.blk 0)) (zf rfl)),?_⟩
 replace S:=S.arr [] [0]
 obtain rfl:=zaq H
 exact ⟨s15,rfl,S⟩
theorem reduce_Redexes_1_st {a0:List Int} {s_0:SlV} {a1:List (List Int)} {b_1:Nat} {s_1_1:SlV} (S:St A N w w [oB b_1 xe [s_1_1.v],zE s_1_1 a1] [fS 1 IC s_0 a0]) {r:List (List Int) × Bool} (H:zbH.f a0 a1=some r) :
  Calls PP x8 #[s_0.v,.pointer (some ⟨b_1,0,none⟩)] w <| Rt fun v w'=>(∃ so0:SlV,v = .bool r.2∧St A N w w' [oB b_1 xe [so0.v],zE so0 r.1] []):=by
 unfold zbH.f at H
 refine zu (n:=12) Tryz.func40 rfl rfl zao (zb (za (wd (zi rfl) (zd (zb ?_)))))
 obtain ⟨r10,er10,H⟩ := zp H
 refine yX 4 ⟨fun _ _=>True,fun _ _ _=>True,fun i v _=>match i with
  | 0=>v=s_1_1.v
  | 1=>v=s_0.v
  | _=>True⟩ (fun L g v=>bif L 3 then (∃ (s13:SlV) (s16:SlV),(L 2=true→g 6=s13.v)∧(L 3=true→g 7=s16.v)∧St A N w v [oS xw 1 LC s16 ([s13]),oS xy 1 IC s13 r10,oB b_1 xe [s_1_1.v],zE s_1_1 a1] [fS 1 IC s_0 a0]) else bif L 2 then (∃ (s13:SlV),(L 2=true→g 6=s13.v)∧St A N w v [oS xy 1 IC s13 r10,oB b_1 xe [s_1_1.v],zE s_1_1 a1] [fS 1 IC s_0 a0]) else (St A N w v [oB b_1 xe [s_1_1.v],zE s_1_1 a1] [fS 1 IC s_0 a0])) hmix zap (fun _ _ _ _ _ _ _ hv=>hv) (fun g=>S.ext (Ext.drawn _)) ⟨?_,?_,?_,?_,trivial⟩ ?_
 ·rintro L g v hL hcl hclo hT 
  cases hl3:L 3 with
  | true =>
   replace hT : ∃ (s13:SlV) (s16:SlV),(L 2=true→g 6=s13.v)∧(L 3=true→g 7=s16.v)∧St A N w v [oS xw 1 LC s16 ([s13]),oS xy 1 IC s13 r10,oB b_1 xe [s_1_1.v],zE s_1_1 a1] [fS 1 IC s_0 a0]:=by simp only [hl3,cd2] at hT ⊢; exact hT
   obtain ⟨s13,s16,he2,he3,S⟩ := hT
   refine wd (zl jD rfl ((S.blk 2).cell rfl)) ?_
   have hT2 : ∃ (s13':SlV) (s16':SlV),((plus L 0) 2=true→(upd g 4 (s_1_1.v)) 6=s13'.v)∧((plus L 0) 3=true→(upd g 4 (s_1_1.v)) 7=s16'.v)∧St A N w v [oS xw 1 LC s16' ([s13']),oS xy 1 IC s13' r10,oB b_1 xe [s_1_1.v],zE s_1_1 a1] [fS 1 IC s_0 a0]:=⟨s13,s16,kpU he2,kpU he3,S⟩
   exact w4 rfl (by simp only [pN L 0 2,pN L 0 3,hl3,cd2] at hT2 ⊢; exact hT2)
  | false =>
   cases hl2:L 2 with
   | true =>
    replace hT : ∃ (s13:SlV),(L 2=true→g 6=s13.v)∧St A N w v [oS xy 1 IC s13 r10,oB b_1 xe [s_1_1.v],zE s_1_1 a1] [fS 1 IC s_0 a0]:=by simp only [hl2,hl3,cd2] at hT ⊢; exact hT
    obtain ⟨s13,he2,S⟩ := hT
    refine wd (zl jD rfl ((S.blk 1).cell rfl)) ?_
    have hT2 : ∃ (s13':SlV),((plus L 0) 2=true→(upd g 4 (s_1_1.v)) 6=s13'.v)∧St A N w v [oS xy 1 IC s13' r10,oB b_1 xe [s_1_1.v],zE s_1_1 a1] [fS 1 IC s_0 a0]:=⟨s13,kpU he2,S⟩
    exact w4 rfl (by simp only [pN L 0 2,pN L 0 3,hl2,hl3,cd2] at hT2 ⊢; exact hT2)
   | false =>
    simp only [hl2,hl3,cd2] at hT
    replace S:=hT
    refine wd (zl jD rfl ((S.blk 0).cell rfl)) ?_
    exact w4 rfl (by simp only [pN L 0 2,pN L 0 3,hl2,hl3,cd2]; exact S)
 ·rintro L g v hL hcl hclo hT 
  have hl2:=clF hL (hclo 2 1 · zap)
  have hl3:=clF hL (hclo 3 1 · zap)
  simp only [hl2,hl3,cd2] at hT
  replace S:=hT
  refine wd (zM rfl) ?_
  exact w4 rfl (by simp only [pN L 1 2,pN L 1 3,hl2,hl3,cd2]; exact S)
 ·rintro L g v hL hcl hclo hT hv1
  have hl2:L 2=false:=hL
  have hl3:=clF hL (hclo 3 2 · zap)
  simp only [hl2,hl3,cd2] at hT
  replace S:=hT
  obtain ⟨_,_,T,bk⟩ := S.calln 0 ((.z 0 rfl .nil))
  refine zA (zK uQ (zN hv1 rfl)) zam (uV T er10) ?_
  rintro _ w18 ⟨s13,rfl,S2⟩
  replace S:=bk _ _ _ _ S2 rfl
  have hT2 : ∃ (s13':SlV),((plus L 2) 2=true→(upd g 6 (s13.v)) 6=s13'.v)∧St A N w w18 [oS xy 1 IC s13' r10,oB b_1 xe [s_1_1.v],zE s_1_1 a1] [fS 1 IC s_0 a0]:=⟨s13,fun _=>upd_same _ _ _,S⟩
  exact w4 trivial (by simp only [pN L 2 3,xR (L:=L) (i:=2),hl3,cd2] at hT2 ⊢; exact hT2)
 ·rintro L g v hL hcl hclo hT hv2
  have hl2:L 2=true:=hcl 2 zap
  have hl3:L 3=false:=hL
  replace hT : ∃ (s13:SlV),(L 2=true→g 6=s13.v)∧St A N w v [oS xy 1 IC s13 r10,oB b_1 xe [s_1_1.v],zE s_1_1 a1] [fS 1 IC s_0 a0]:=by simp only [hl2,hl3,cd2] at hT ⊢; exact hT
  obtain ⟨s13,he2,S⟩ := hT
  refine vi (C:=LC) (l:=[s13]) (vs:=[s13.v]) vC el_L_int.zero (xK (he2 (hcl 2 zap)) rfl) (by simp only [List.map_cons,List.map_nil,SlV.cells,LC]) (fun _ _=>rfl) zam rfl zam fun b21 w20 s16 hBw20 hw20=>?_
  replace S:=S.lit hBw20 hw20 zao
  have hT2 : ∃ (s13':SlV) (s16':SlV),((plus L 3) 2=true→(upd g 7 (s16.v)) 6=s13'.v)∧((plus L 3) 3=true→(upd g 7 (s16.v)) 7=s16'.v)∧St A N w w20 [oS xw 1 LC s16' ([s13']),oS xy 1 IC s13' r10,oB b_1 xe [s_1_1.v],zE s_1_1 a1] [fS 1 IC s_0 a0]:=⟨s13,s16,kpU he2,fun _=>upd_same _ _ _,S⟩
  exact w4 trivial (by simp only [pN L 3 2,xR (L:=L) (i:=3),cd2] at hT2 ⊢; exact hT2)
 rintro L g w23 hLm hT hv24_0 hv24_1 _ _
 have hLt : ∀ j,j < 4→L j=true:=fun j hj=>by rw [hLm]; exact decide_eq_true hj
 replace hT : ∃ (s13:SlV) (s16:SlV),(L 2=true→g 6=s13.v)∧(L 3=true→g 7=s16.v)∧St A N w w23 [oS xw 1 LC s16 ([s13]),oS xy 1 IC s13 r10,oB b_1 xe [s_1_1.v],zE s_1_1 a1] [fS 1 IC s_0 a0]:=by simp only [hLt 3 zam,cond_true] at hT ⊢; exact hT
 obtain ⟨s13,s16,he2,he3,S⟩ := hT
 have hv24_2:=he2 (hLt 2 zam)
 have hv24_3:=he3 (hLt 3 zam)
 replace S:=S
 obtain ⟨ha27,H⟩ := zX H
 have ha27:=of_decide_eq_true ha27
 obtain ⟨ms28,S⟩ := S.openD 3
 replace S:=S
 have hlms28:ms28.length=a1.length:=(S.own 1 rfl).elim fun _ hb=>big_len hb
 rw [← hlms28] at ha27
 refine wl_appends (C:=L_int.C) vC el_L_int hv24_0 hv24_3 (S.sl 0) (S.rdO 2) zao (fun a _=>L_int.one a) ha27 (by first | omega | (simp only [List.length_cons,List.length_nil]; omega)) zam fun s26 w25 O hw25 gw25=>?_
 replace S:=S.push 0 O (by first | (simp; done) | (simp; omega) | (simp only [List.length_append]; omega)) hw25 gw25
 clear O
 replace S:=((S.front 3).front 2).front 2
 replace S:St A N w w25 [zE s26 (a1 ++ [r10]),oS xw 1 LC s16 ([s13]),oB b_1 xe [s_1_1.v]] [fS 1 IC s_0 a0]:=St.pushD S
 refine yE jD rfl rfl (S.blk 2) zao (SlV.one _ _ rfl) rfl fun w29 B hw29 zw29=>?_
 replace S:=S.store 2 B hw29
 refine zd (zb (za (wd (zl jD rfl ((S.blk 0).cell rfl)) (wd (zaa vC rfl (S.onO 1)) (wd (xp rfl rfl) (wd (zi rfl) (zd (zr ?_))))))))
 refine ⟨_,(zP (zf rfl)),?_⟩
 replace S:=S.arr [0,1] []
 obtain rfl:=zaq H
 exact ⟨s26,rfl,S⟩
theorem vU {zcw:Tb→PTerm→List Int→List (List Int)→Option (List (List Int) × Bool)} (zci : ∀ {A:Nat→Prop} {N:Oth} {w:World} {a0:Tb} {a_0:Option Addr} {g_0_1:Option Addr} {a1:PTerm} {s_1:SlV} {a2:List Int} {s_2:SlV} {a3_0:List (List Int)} {b_3:Nat} {s_3_1:SlV} (S:St A N w w [oB b_3 xe [s_3_1.v],zE s_3_1 a3_0] [oMa a_0 g_0_1 true,oT g_0_1 a0,ze s_1 a1.sub,fS 1 IC s_2 a2]) {r:List (List Int) × Bool} (H:zcw a0 a1 a2 a3_0=some r),Calls PP xz #[.pointer a_0,.agg (tmC a1 s_1).toArray,s_2.v,.func (.func x8) #[] #[.pointer (some ⟨b_3,0,none⟩)]] w <| Rt fun v w'=>(∃ so0:SlV,v = .bool r.2∧St A N w w' [oB b_3 xe [so0.v],zE so0 r.1] [])) {A:Nat→Prop} {N:Oth} {w:World} {a0:Tb} {a_0:Option Addr} {g_0_1:Option Addr} {a1:PTerm} {s_1:SlV} {a2:List Int} {s_2:SlV} {a3_0:List (List Int)} {b_3:Nat} {s_3_1:SlV} (S:St A N w w [oB b_3 xe [s_3_1.v],zE s_3_1 a3_0] [oMa a_0 g_0_1 true,oT g_0_1 a0,ze s_1 a1.sub,fS 1 IC s_2 a2]) {r:List (List Int) × Bool} (H:zbI.g zcw a0 a1 a2 a3_0=some r) :
  Calls PP xz #[.pointer a_0,.agg (tmC a1 s_1).toArray,s_2.v,.func (.func x8) #[] #[.pointer (some ⟨b_3,0,none⟩)]] w <| Rt fun v w'=>(∃ so0:SlV,v = .bool r.2∧St A N w w' [oB b_3 xe [so0.v],zE so0 r.1] []):=by
 unfold zbI.g at H
 refine zu (n:=49) Tryz.func39 rfl rfl zao (zb (za ?_))
 refine zH rfl zam fun b2 w1 hw1=>?_
 replace S:=S.new hw1
 refine wd (zi rfl) (zd (zb (zb (za (wd (zB rfl) (wd (ldT rfl (S.blk 0)) ?_))))))
 obtain ⟨r3,er3,H⟩ := zp H
 obtain ⟨_,_,T,bk⟩ := S.calln 0 ((.z 0 rfl (.z 1 rfl (.z 2 rfl .nil))))
 refine zA (zx vO) zam (vR (a1:=a1) T er3) ?_
 rintro _ w4 ⟨rfl,S2⟩
 replace S:=bk _ _ _ _ S2 rfl
 refine wd (xb rfl) (wd (zo rfl rfl) (wd (zo rfl rfl) ?_))
 refine zQ vV zam fun b7 w6 hw6=>?_
 replace S:=S.new hw6
 refine z7 xc rfl rfl (S.blk 0) (RRule.len _) (by rw [RRule.len]; decide) (RRule.one _) (xx (RRule.len _)) fun w8 B hw8 zw8=>?_
 replace S:=S.store 0 B hw8
 refine wd (zi rfl) (zd (zb (za (wd (zy rfl) (wd (zy rfl) ?_)))))
 refine wg (fun hg=>uS rfl) ?_
 refine wg (fun hg=>zM rfl) ?_
 obtain ⟨r9,er9,H⟩ := zp H
 replace S:=(S.front 3).front 3
 obtain ⟨_,_,T,bk⟩ := S.calln 2 ((.z 3 rfl .nil))
 let LT1:List OA:=[oB b7 uG (RRule.C (ux r3.1)),oB b2 zm (tmC a1 s_1)]
 let LT3:List OA:=[oMa a_0 g_0_1 true,oT g_0_1 a0,ze s_1 a1.sub,fS 1 IC s_2 a2]
 refine wl_gturn (R:=fun W => ∃ s12:SlV,St A N w W (oB b_3 xe [s12.v] :: zE s12 r9.1 :: LT1) LT3) (j:=1) (pol:=true) rfl rfl rfl zam (fun hg=>does_callvg ca_reduce_Redexes_1 (zn hg) (zN (zn hg) rfl)) zam (fun hg=>calls_mono (reduce_Redexes_1_st T (if_t (by simpa using hg) er9)) fun _ _ ⟨s12,hv,S2⟩ => ⟨hv,⟨s12,bk _ _ _ _ S2 rfl⟩⟩) (fun hg=>by obtain rfl:=zaq (if_f (by simpa using hg) er9); exact ⟨s_3_1,S⟩) fun w10 S2=>?_
 obtain ⟨s12,S2⟩ := S2
 replace S:St A N w w10 (oB b_3 xe [s12.v] :: zE s12 r9.1 :: LT1) LT3:=S2
 refine wg (fun hg=>xf (zn hg)) (wd (zV rfl (fun hp=>(zn (xl hp)))) (zd ?_))
 refine zI rfl (fun hc13=>?_) (fun hc13=>?_)
 ·replace H:=if_t hc13 H
  refine zb (za (wd (zi rfl) (zd (zr ?_))))
  refine ⟨_,(zP (zf rfl)),?_⟩
  replace S:=S.arr [0,1] []
  obtain rfl:=zaq H
  exact ⟨s12,rfl,S⟩
 replace H:=if_f hc13 H
 refine zw (zb (zb (za (wd (zg zD rfl (o':=4) rfl) (wd (zl zz rfl ((S.blk 3).cell (Term.get_sub _))) (wd (does_lenF zq rfl (S.onZ 2)) (wd (zk rfl) (zd ?_))))))))
 obtain ⟨o14,e14,Ho14⟩ := zp H
 clear H
 refine xL ([8,11,12] ++ rg 29 20) (fun fr W => ∃ s14:List (List Int),o14 = .inl s14 ∧ ∃ s15:SlV,St A N w W (oB b_3 xe [s15.v] :: zE s15 s14 :: LT1) LT3) ?_ ?_
 ·refine zL ?_
  refine xI (α:=Nat × Int × (List (List Int))) ([8,11,12] ++ rg 29 20) (fun x fr W=>(x.1:Int)=(a1.sub.length:Int) - x.2.1∧0 ≤ x.2.1∧forN (fun i s=>zbI.b0 a2 zcw a0 a1 i s) x.1 x.2.1 x.2.2=some o14 ∧ ∃ s16:SlV,fr 29 = .int .i64 x.2.1∧St A N w W (oB b_3 xe [s16.v] :: zE s16 (x.2.2) :: LT1) LT3) (fun x=>x.1) (((a1.sub.length:Int) - 0).toNat,0,r9.1) ⟨(by dsimp only; have hle:=Int.natCast_nonneg (a1.sub.length); omega),(Int.le_refl _),(by dsimp only; exact e14),s12,rfl,S⟩ ?_
  rintro ⟨m14,i14,x14_0⟩ g14 u14 ⟨hm14,hl14,e14,s17,q14_i,S⟩
  try dsimp only at hm14
  try dsimp only at hl14
  try dsimp only at e14
  try dsimp only at S
  try dsimp only at q14_i
  refine zb (za (wd (xp q14_i rfl) (zd (zb ?_))))
  refine zI rfl (fun hc18=>?_) (fun hc18=>?_)
  rotate_left
  ·refine xO ?_
   have hge:(a1.sub.length:Int) ≤ i14:=Int.not_lt.1 (of_decide_eq_false hc18)
   obtain rfl:m14=0:=by omega
   replace e14:=kV e14
   exact ⟨rfl,df,x14_0,e14,s17,S⟩
  refine zw ?_
  have hlt14:i14 < (a1.sub.length:Int):=of_decide_eq_true hc18
  obtain ⟨m14,rfl⟩ : ∃ m,m14=m + 1:=⟨m14 - 1,by omega⟩
  obtain ⟨q14,H,e14⟩ := kW e14
  unfold zbI.b0 at H
  try dsimp only at H
  have hb14:=(S.lenFZ 2)
  refine zb ?_
  refine zL (zb (za (wd (zk q14_i) (wd (does_indexF zq rfl q14_i (S.onZ 2) (And.intro (show 0 ≤ i14 by omega) (show i14 < (a1.sub.length:Int) from hlt14)).1 (And.intro (show 0 ≤ i14 by omega) (show i14 < (a1.sub.length:Int) from hlt14)).2) ?_))))
  obtain ⟨s20,hc21,S⟩ := S.viewTerm 2 (And.intro (show 0 ≤ i14 by omega) (show i14 < (a1.sub.length:Int) from hlt14))
  replace S:=S
  refine wd (ldC rfl hc21) ?_
  refine zQ xn zam fun b23 w22 hw22=>?_
  replace S:=S.new hw22
  refine wd (zh rfl) ?_
  refine wsT rfl rfl (S.blk 0) fun w24 B hw24 zw24=>?_
  replace S:=S.store 0 B hw24
  refine zd (zb ?_)
  obtain ⟨hs25,H⟩ := zX H
  have hs25:=of_decide_eq_true hs25
  obtain ⟨ha31,H⟩ := zX H
  have ha31:=of_decide_eq_true ha31
  let LT2:List OA:=[fS 1 IC (⟨s_2.p,Int.toNat (a2.length:Int),Int.toNat (a2.length:Int)⟩ : SlV) (a2.take (Int.toNat (a2.length:Int)))]
  refine yX 12 ⟨fun _ _=>True,fun _ _ _=>True,fun i v _=>match i with
   | 0=>v=Value.pointer a_0
   | 1=>v=Value.agg (tmC (kd a1 i14) s20).toArray
   | 2=>v=s_2.v
   | 3=>v=s_2.v
   | 4=>v=Value.int .i64 (a2.length:Int)
   | 5=>v=s_2.v
   | 6=>v=Value.int .i64 (a2.length:Int)
   | 8=>v=Value.int .i64 i14
   | 11=>v=Value.func (.func x8) #[] #[.pointer (some ⟨b_3,0,none⟩)]
   | _=>True⟩ (fun L g v => ∃ s30:SlV,∃ O33:List OA,∃ Z32:List OA,(∀ z ∈ (ze s20 ((kd a1 i14).sub) :: LT3),z ∈ Z32)∧Made L g Z32 7 41 (fun (c:Unit)=>(⟨s_2.p,Int.toNat (a2.length:Int),Int.toNat (a2.length:Int)⟩ : SlV).v) (fun (c:Unit)=>LT2)∧Made L g Z32 9 43 (fun (c:SlV)=>c.v) (fun (c:SlV)=>[fS 1 IC c ([i14])])∧(L 10=true→g 44=s30.v)∧O33=((bif L 10 then [oS xy 1 IC s30 ((a2.take (Int.toNat (a2.length:Int))) ++ [i14])] else []) ++ (oB b23 zm (tmC (kd a1 i14) s20) :: oB b_3 xe [s17.v] :: zE s17 x14_0 :: LT1))∧St A N w v O33 Z32) hmix zap (fun _ _ _ _ _ _ _ hv=>hv) (fun g=>⟨SlV.nil,_,_,fun _ h=>h,Made.no,Made.no,(fun h=>by cases h),rfl,S.ext (Ext.drawn _)⟩) ⟨?_,?_,?_,?_,?_,?_,?_,?_,?_,?_,?_,?_,trivial⟩ ?_
  ·rintro L g v hL hcl hclo ⟨s30,O33,Z32,hZ,hm7,hm9,hk10,hO,S⟩ 
   have SR:St A N w v (oB b23 zm (tmC (kd a1 i14) s20) :: oB b_3 xe [s17.v] :: zE s17 x14_0 :: LT1) (ze s20 ((kd a1 i14).sub) :: oMa a_0 g_0_1 true :: oT g_0_1 a0 :: ze s_1 a1.sub :: fS 1 IC s_2 a2 :: Z32):=by
    have S2:=S.zneed hZ
    rw [hO] at S2
    exact S2.drops
   refine wd (zB rfl) ?_
   exact zd (ob4 trivial rfl ⟨s30,O33,Z32,hZ,hm7.keep rfl rfl tl0,hm9.keep rfl rfl tl0,(kpU hk10),by rw [hO]; simp only [pN L 0 10],S⟩)
  ·rintro L g v hL hcl hclo ⟨s30,O33,Z32,hZ,hm7,hm9,hk10,hO,S⟩ 
   have SR:St A N w v (oB b23 zm (tmC (kd a1 i14) s20) :: oB b_3 xe [s17.v] :: zE s17 x14_0 :: LT1) (ze s20 ((kd a1 i14).sub) :: oMa a_0 g_0_1 true :: oT g_0_1 a0 :: ze s_1 a1.sub :: fS 1 IC s_2 a2 :: Z32):=by
    have S2:=S.zneed hZ
    rw [hO] at S2
    exact S2.drops
   refine wd (ldT rfl (SR.blk 0)) ?_
   exact zd (ob4 trivial rfl ⟨s30,O33,Z32,hZ,hm7.keep rfl rfl tl0,hm9.keep rfl rfl tl0,(kpU hk10),by rw [hO]; simp only [pN L 1 10],S⟩)
  ·rintro L g v hL hcl hclo ⟨s30,O33,Z32,hZ,hm7,hm9,hk10,hO,S⟩ 
   have hl10:L 10=false:=clF hL fun h=>hclo 10 2 h zap
   have SR:St A N w v (oB b23 zm (tmC (kd a1 i14) s20) :: oB b_3 xe [s17.v] :: zE s17 x14_0 :: LT1) (ze s20 ((kd a1 i14).sub) :: oMa a_0 g_0_1 true :: oT g_0_1 a0 :: ze s_1 a1.sub :: fS 1 IC s_2 a2 :: Z32):=by
    have S2:=S.zneed hZ
    rw [hO] at S2
    simp only [hl10,cd2,la2] at S2
    exact S2
   refine wd (zM rfl) ?_
   exact zd (ob4 trivial rfl ⟨s30,O33,Z32,hZ,hm7.keep rfl rfl tl0,hm9.keep rfl rfl tl0,(kpU hk10),by rw [hO]; simp only [pN L 2 10],S⟩)
  ·rintro L g v hL hcl hclo ⟨s30,O33,Z32,hZ,hm7,hm9,hk10,hO,S⟩ 
   have hl10:L 10=false:=clF hL fun h=>hclo 10 3 h zap
   have SR:St A N w v (oB b23 zm (tmC (kd a1 i14) s20) :: oB b_3 xe [s17.v] :: zE s17 x14_0 :: LT1) (ze s20 ((kd a1 i14).sub) :: oMa a_0 g_0_1 true :: oT g_0_1 a0 :: ze s_1 a1.sub :: fS 1 IC s_2 a2 :: Z32):=by
    have S2:=S.zneed hZ
    rw [hO] at S2
    simp only [hl10,cd2,la2] at S2
    exact S2
   refine wd (zM rfl) ?_
   exact zd (ob4 trivial rfl ⟨s30,O33,Z32,hZ,hm7.keep rfl rfl tl0,hm9.keep rfl rfl tl0,(kpU hk10),by rw [hO]; simp only [pN L 3 10],S⟩)
  ·rintro L g v hL hcl hclo ⟨s30,O33,Z32,hZ,hm7,hm9,hk10,hO,S⟩ hv3
   have hl10:L 10=false:=clF hL fun h=>hclo 10 4 h zap
   have SR:St A N w v (oB b23 zm (tmC (kd a1 i14) s20) :: oB b_3 xe [s17.v] :: zE s17 x14_0 :: LT1) (ze s20 ((kd a1 i14).sub) :: oMa a_0 g_0_1 true :: oT g_0_1 a0 :: ze s_1 a1.sub :: fS 1 IC s_2 a2 :: Z32):=by
    have S2:=S.zneed hZ
    rw [hO] at S2
    simp only [hl10,cd2,la2] at S2
    exact S2
   refine wd (xE xZ hv3 (SR.rd 4)) ?_
   exact zd (ob4 trivial rfl ⟨s30,O33,Z32,hZ,hm7.keep rfl rfl tl0,hm9.keep rfl rfl tl0,(kpU hk10),by rw [hO]; simp only [pN L 4 10],S⟩)
  ·rintro L g v hL hcl hclo ⟨s30,O33,Z32,hZ,hm7,hm9,hk10,hO,S⟩ 
   have hl10:L 10=false:=clF hL fun h=>hclo 10 5 h zap
   have SR:St A N w v (oB b23 zm (tmC (kd a1 i14) s20) :: oB b_3 xe [s17.v] :: zE s17 x14_0 :: LT1) (ze s20 ((kd a1 i14).sub) :: oMa a_0 g_0_1 true :: oT g_0_1 a0 :: ze s_1 a1.sub :: fS 1 IC s_2 a2 :: Z32):=by
    have S2:=S.zneed hZ
    rw [hO] at S2
    simp only [hl10,cd2,la2] at S2
    exact S2
   refine wd (zM rfl) ?_
   exact zd (ob4 trivial rfl ⟨s30,O33,Z32,hZ,hm7.keep rfl rfl tl0,hm9.keep rfl rfl tl0,(kpU hk10),by rw [hO]; simp only [pN L 5 10],S⟩)
  ·rintro L g v hL hcl hclo ⟨s30,O33,Z32,hZ,hm7,hm9,hk10,hO,S⟩ hv5
   have hl10:L 10=false:=clF hL fun h=>hclo 10 6 h zap
   have SR:St A N w v (oB b23 zm (tmC (kd a1 i14) s20) :: oB b_3 xe [s17.v] :: zE s17 x14_0 :: LT1) (ze s20 ((kd a1 i14).sub) :: oMa a_0 g_0_1 true :: oT g_0_1 a0 :: ze s_1 a1.sub :: fS 1 IC s_2 a2 :: Z32):=by
    have S2:=S.zneed hZ
    rw [hO] at S2
    simp only [hl10,cd2,la2] at S2
    exact S2
   refine wd (xE xZ hv5 (SR.rd 4)) ?_
   exact zd (ob4 trivial rfl ⟨s30,O33,Z32,hZ,hm7.keep rfl rfl tl0,hm9.keep rfl rfl tl0,(kpU hk10),by rw [hO]; simp only [pN L 6 10],S⟩)
  ·rintro L g v hL hcl hclo ⟨s30,O33,Z32,hZ,hm7,hm9,hk10,hO,S⟩ hv2 hv4 hv6
   have hl10:L 10=false:=clF hL fun h=>hclo 10 7 h zap
   replace S:=(S.zneed hZ)
   have hs34:=hs25
   refine wd (does_clipZ xZ hv2 hv4 hv6 (S.rd 4) hs34) ?_
   replace S:=S.clipZ 4 hs34
   exact zd (ob4 trivial trivial ⟨s30,O33,_,(fun z h=>tl6 z (hZ z h)),Made.one (val:=(fun (c:Unit)=>(⟨s_2.p,Int.toNat (a2.length:Int),Int.toNat (a2.length:Int)⟩ : SlV).v)) (ps:=(fun (c:Unit)=>LT2)) () (xX List.mem_cons_self yw),hm9.keep rfl rfl tl6,(kpU hk10),by rw [hO]; simp only [pN L 7 10],S⟩)
  ·rintro L g v hL hcl hclo ⟨s30,O33,Z32,hZ,hm7,hm9,hk10,hO,S⟩ 
   have hl10:L 10=false:=clF hL fun h=>hclo 10 8 h zap
   have SR:St A N w v (oB b23 zm (tmC (kd a1 i14) s20) :: oB b_3 xe [s17.v] :: zE s17 x14_0 :: LT1) (ze s20 ((kd a1 i14).sub) :: oMa a_0 g_0_1 true :: oT g_0_1 a0 :: ze s_1 a1.sub :: fS 1 IC s_2 a2 :: Z32):=by
    have S2:=S.zneed hZ
    rw [hO] at S2
    simp only [hl10,cd2,la2] at S2
    exact S2
   refine wd (zk rfl) ?_
   exact zd (ob4 trivial rfl ⟨s30,O33,Z32,hZ,hm7.keep rfl rfl tl0,hm9.keep rfl rfl tl0,(kpU hk10),by rw [hO]; simp only [pN L 8 10],S⟩)
  ·rintro L g v hL hcl hclo ⟨s30,O33,Z32,hZ,hm7,hm9,hk10,hO,S⟩ hv8
   have hl10:L 10=false:=clF hL fun h=>hclo 10 9 h zap
   replace S:=(S.zneed hZ)
   refine vi (C:=IC) (l:=[i14]) (vs:=[.int .i64 i14]) xZ el_int.zero (xK hv8 rfl) rfl (fun _ _=>rfl) zam rfl zam fun b36 w35 s37 hBw35 hw35=>?_
   replace S:=(S.lit hBw35 hw35 zao).frzS 0
   exact zd (ob4 trivial trivial ⟨s30,O33,_,(fun z h=>tl6 z (hZ z h)),hm7.keep rfl rfl tl6,Made.one (val:=(fun (c:SlV)=>c.v)) (ps:=(fun (c:SlV)=>[fS 1 IC c ([i14])])) s37 (xX List.mem_cons_self yw),(kpU hk10),by rw [hO]; simp only [pN L 9 10],S⟩)
  ·rintro L g v hL hcl hclo ⟨s30,O33,Z32,hZ,hm7,hm9,hk10,hO,S⟩ _ _
   obtain ⟨_,he7,hp7⟩ := hm7 (hcl 7 zap)
   obtain ⟨s28,he9,hp9⟩ := hm9 (hcl 9 zap)
   have hl10:L 10=false:=hL
   have hOP : ∃ P Y,P=[]∧Y=(oB b23 zm (tmC (kd a1 i14) s20) :: oB b_3 xe [s17.v] :: zE s17 x14_0 :: LT1)∧O33=P ++ ([] ++ Y):=⟨_,_,rfl,rfl,by rw [hO]; simp only [hl10,cd2,la2]⟩
   obtain ⟨P,Y,hP,hY,hPY⟩ := hOP
   rw [hPY] at S
   replace S:=(S.zneed (xD (l1:=LT2) hp7 (xD (l1:=[fS 1 IC s28 ([i14])]) hp9 hZ)))
   have ha40:=ha31
   refine wl_appendZ (C:=IC) xZ el_int he7 he9 (S.rd 0) rfl (S.rd 1) zao ha40 zan zam fun s39 w38 O hw38 gw38=>?_
   replace S:=S.ownS hw38 O (by first | (simp; done) | (simp; omega) | (simp only [List.length_append]; omega)) gw38
   clear O
   refine zd (ob4 trivial trivial ⟨s39,P ++ ([oS xy 1 IC s39 ((a2.take (Int.toNat (a2.length:Int))) ++ [i14])] ++ Y),_,(fun z h=>tl7 z (hZ z h)),hm7.keep rfl rfl tl7,hm9.keep rfl rfl tl7,(fun _=>upd_same _ _ _),?_,S.ins (P:=[oS xy 1 IC s39 ((a2.take (Int.toNat (a2.length:Int))) ++ [i14])])⟩)
   rw [hP,hY]; simp only [xR (L:=L) (i:=10),cd2,la2]
  ·rintro L g v hL hcl hclo ⟨s30,O33,Z32,hZ,hm7,hm9,hk10,hO,S⟩ 
   have SR:St A N w v (oB b23 zm (tmC (kd a1 i14) s20) :: oB b_3 xe [s17.v] :: zE s17 x14_0 :: LT1) (ze s20 ((kd a1 i14).sub) :: oMa a_0 g_0_1 true :: oT g_0_1 a0 :: ze s_1 a1.sub :: fS 1 IC s_2 a2 :: Z32):=by
    have S2:=S.zneed hZ
    rw [hO] at S2
    exact S2.drops
   refine wd (uS rfl) ?_
   exact zd (ob4 trivial rfl ⟨s30,O33,Z32,hZ,hm7.keep rfl rfl tl0,hm9.keep rfl rfl tl0,(kpU hk10),by rw [hO]; simp only [pN L 11 10],S⟩)
  rintro L g w41 hLm ⟨s30,O33,Z32,hZ,hm7,hm9,hk10,hO,S⟩ hv42_0 hv42_1 hv42_2 hv42_3 hv42_4 hv42_5 hv42_6 _ hv42_8 _ _ hv42_11
  have hLt : ∀ j,j < 12→L j=true:=fun j hj=>by rw [hLm]; exact decide_eq_true hj
  obtain ⟨_,hv42_7,hp7⟩ := hm7 (hLt 7 zam)
  obtain ⟨s28,hv42_9,hp9⟩ := hm9 (hLt 9 zam)
  have hv42_10:=hk10 (hLt 10 zam)
  simp only [hLt 10 zam,cond_true,List.nil_append,List.cons_append] at hO
  rw [hO] at S
  replace S:=S.pickZ (xD (l1:=LT2) hp7 (xD (l1:=[fS 1 IC s28 ([i14])]) hp9 hZ))
  clear hp7 hp9 hZ hm7 hm9
  obtain ⟨r43,er43,H⟩ := zp H
  replace S:=(S.front 3).front 3
  obtain ⟨_,_,T,bk⟩ := S.calln 2 ((.z 3 rfl (.z 4 rfl (.z 2 rfl (.s 0 rfl .nil)))))
  refine zA (zK yZ (zN hv42_0 (zN hv42_1 (zN hv42_10 (zN hv42_11 rfl))))) zam (zci (a1:=(kd a1 i14)) T er43) ?_
  rintro _ w44 ⟨s46,rfl,S2⟩
  replace S:=bk _ _ _ _ S2 rfl
  refine wd (xf rfl) (zd ?_)
  refine zI rfl (fun hc47=>?_) (fun hc47=>?_)
  ·replace H:=if_t hc47 H
   refine zb (za (wd (zi rfl) (zd (zr ?_))))
   refine ⟨_,(zP (zf rfl)),?_⟩
   replace S:=S.arr [0,1] []
   obtain rfl:=zaq H
   obtain rfl:=e14
   obtain rfl:=uD Ho14
   exact ⟨s46,rfl,S⟩
  replace H:=if_f hc47 H
  refine zw (za (wd (xi q14_i rfl (c:=i14 + 1) rfl zan zan) (wd (zk rfl) (zd ?_))))
  replace S:=S.arr [0,1,4,5] [3,4,5,6]
  obtain rfl:=zaq H
  exact ⟨rfl,df,(m14,i14 + 1,r43.1),⟨(by dsimp only; omega),(by dsimp only; omega),e14,s46,rfl,S⟩,by dsimp only; omega⟩
 rintro g48 u49 ⟨s14,rfl,s15,S⟩
 have H:=Ho14
 dsimp only [aft] at H
 refine zb (za (wd (zi rfl) (zd (zr ?_))))
 refine ⟨_,(zP (zf rfl)),?_⟩
 replace S:=S.arr [0,1] []
 obtain rfl:=zaq H
 exact ⟨s15,rfl,S⟩
theorem v6 {a0:Tb} {a_0:Option Addr} {g_0_1:Option Addr} {a1:PTerm} {s_1:SlV} {a2:List Int} {s_2:SlV} {a3_0:List (List Int)} {b_3:Nat} {s_3_1:SlV} (S:St A N w w [oB b_3 xe [s_3_1.v],zE s_3_1 a3_0] [oMa a_0 g_0_1 true,oT g_0_1 a0,ze s_1 a1.sub,fS 1 IC s_2 a2]) {k:Nat} {r:List (List Int) × Bool} (H:zbI.f k a0 a1 a2 a3_0=some r) :
  Calls PP xz #[.pointer a_0,.agg (tmC a1 s_1).toArray,s_2.v,.func (.func x8) #[] #[.pointer (some ⟨b_3,0,none⟩)]] w <| Rt fun v w'=>(∃ so0:SlV,v = .bool r.2∧St A N w w' [oB b_3 xe [so0.v],zE so0 r.1] []):=by
 have main : ∀ (k:Nat) {A:Nat→Prop} {N:Oth} {w:World} {a0:Tb} {a_0:Option Addr} {g_0_1:Option Addr} {a1:PTerm} {s_1:SlV} {a2:List Int} {s_2:SlV} {a3_0:List (List Int)} {b_3:Nat} {s_3_1:SlV} (S:St A N w w [oB b_3 xe [s_3_1.v],zE s_3_1 a3_0] [oMa a_0 g_0_1 true,oT g_0_1 a0,ze s_1 a1.sub,fS 1 IC s_2 a2]) {r:List (List Int) × Bool} (H:zbI.f k a0 a1 a2 a3_0=some r),Calls PP xz #[.pointer a_0,.agg (tmC a1 s_1).toArray,s_2.v,.func (.func x8) #[] #[.pointer (some ⟨b_3,0,none⟩)]] w <| Rt fun v w'=>(∃ so0:SlV,v = .bool r.2∧St A N w w' [oB b_3 xe [so0.v],zE so0 r.1] []):=by
  intro k
  induction k with
  | zero=>intro A N w a0 a_0 g_0_1 a1 s_1 a2 s_2 a3_0 b_3 s_3_1 S r H; cases H
  | succ k ih=>intro A N w a0 a_0 g_0_1 a1 s_1 a2 s_2 a3_0 b_3 s_3_1 S r H; exact vU ih S H
 exact main k S H
theorem kM {a0:Tb} {a_0:Option Addr} {a1:PTerm} {s_1:SlV} (S:St A N w w [] [oT a_0 a0,ze s_1 a1.sub,oPw]) {k:Nat} {r:List (List Int) × Int} (H:zbJ.f k a0 a1=some r) :
  Calls PP k5 #[.pointer a_0,.agg (tmC a1 s_1).toArray] w <| Rt fun v w'=>(∃ so0:SlV,v = .tuple #[so0.v,.int .i64 r.2]∧St A N w w' [zE so0 r.1] []):=by
 unfold zbJ.f at H
 refine zu (n:=23) Tryz.func12 rfl rfl zao (zb (za ?_))
 refine zH rfl zam fun b2 w1 hw1=>?_
 replace S:=S.new hw1
 refine wd (xT) (wd (zh rfl) (zd (zb (za (wd (zB rfl) (wd (ldT rfl (S.blk 0)) ?_))))))
 obtain ⟨r3,er3,H⟩ := zp H
 obtain ⟨_,_,T,bk⟩ := S.sub [0,1,2] [] [oB b2 zm (tmC a1 s_1)]
 refine zA (zx j4) zam (j8 (a1:=a1) T er3) ?_
 rintro _ w4 ⟨a6,rfl,S2⟩
 replace S:=bk _ _ _ _ _ S2 rfl rfl
 refine wd (xb rfl) (wd (zo rfl rfl) (wd (zo rfl rfl) (wd (zZ rfl) (wd (zh rfl) (zd (zb (zb (za ?_))))))))
 refine wd (zk rfl) (wd (xq rfl rfl) (zd ?_))
 refine zI rfl (fun hc7=>?_) (fun hc7=>?_)
 ·replace H:=if_t hc7 H
  refine zb (za (wd (zk rfl) (wd (xT) (wd (zh rfl) (zd (zr ?_))))))
  replace S:=S.nilD xw 1 L_int.C rL_int
  refine ⟨_,(xm (zf rfl) (zf rfl)),?_⟩
  replace S:=S.arr [0] []
  obtain rfl:=zaq H
  exact ⟨SlV.nil,rfl,S⟩
 replace H:=if_f hc7 H
 refine zw (zb (za ?_))
 refine zQ zs_L_L_int zam fun b9 w8 hw8=>?_
 replace S:=S.new hw8
 refine zd (zb (za (wd (zB rfl) (wd (ldT rfl (S.blk 1)) (wd (does_funcl) ?_)))))
 replace S:=S.nilD xw 1 L_int.C rL_int
 obtain ⟨ht11,H⟩ := zX H
 rw [ht11] at S
 replace S:=S.nilZ 1 IC
 obtain ⟨r10,er10,H⟩ := zp H
 replace S:=S.front 1
 obtain ⟨_,_,T,bk⟩ := S.calln 2 ((.z 1 rfl (.z 2 rfl (.z 3 rfl (.z 0 rfl .nil)))))
 refine zA (zK yZ (zN rfl (zN rfl (zN SlV.nil_eq (zN rfl rfl))))) zam (v6 (a1:=a1) T er10) ?_
 rintro _ w12 ⟨s14,rfl,S2⟩
 replace S:=bk _ _ _ _ S2 rfl
 refine zd (zb (za (wd (zl jD rfl ((S.blk 0).cell rfl)) (wd (yM rfl) (wd (zh rfl) (zd (zr ?_)))))))
 refine ⟨_,(xm (zf rfl) (zf rfl)),?_⟩
 replace S:=S.arr [1] []
 obtain rfl:=zaq H
 exact ⟨s14,rfl,S⟩
theorem reduce_Normal_st {a0:Tb} {a_0:Option Addr} {a1:PTerm} {s_1:SlV} (S:St A N w w [] [oT a_0 a0,ze s_1 a1.sub,oPw]) {k:Nat} {r:Bool × Int} (H:zbK.f k a0 a1=some r) :
  Calls PP F_reduce_Normal #[.pointer a_0,.agg (tmC a1 s_1).toArray] w <| Rt fun v w'=>(v = .tuple #[.bool r.1,.int .i64 r.2]∧St A N w w' [] []):=by
 unfold zbK.f at H
 refine zu (n:=22) Tryz.func15 rfl rfl zao (zb (za ?_))
 refine zH rfl zam fun b2 w1 hw1=>?_
 replace S:=S.new hw1
 refine wd (zi rfl) (wd (zh rfl) (zd (zb (za (wd (zB rfl) (wd (ldT rfl (S.blk 0)) ?_))))))
 obtain ⟨r3,er3,H⟩ := zp H
 obtain ⟨_,_,T,bk⟩ := S.calln 0 ((.z 0 rfl (.z 1 rfl (.z 2 rfl .nil))))
 refine zA (zx kI) zam (kM (a1:=a1) T er3) ?_
 rintro _ w4 ⟨s6,rfl,S2⟩
 replace S:=bk _ _ _ _ S2 rfl
 refine wd (xb rfl) (wd (zo rfl rfl) (wd (zo rfl rfl) (wd (yM rfl) (wd (zh rfl) (zd (zb (za ?_)))))))
 refine wd (zk rfl) (wd (zR rfl rfl) (wd (zy rfl) ?_))
 refine wg (fun hg=>zM rfl) ?_
 refine wg (fun hg=>zaa vC (zn hg) (S.onO 0)) ?_
 refine wg (fun hg=>zR (zn hg) rfl) (wd (zV rfl (fun hp=>(zn (xl hp)))) (wd (zk rfl) (wd (zi rfl) (wd (zh rfl) (zd (zr ?_))))))
 refine ⟨_,(xm (zf rfl) (zf rfl)),?_⟩
 replace S:=S.arr [] []
 obtain rfl:=zaq H
 exact ⟨rfl,S⟩
theorem reduce_Run_1_st {a0:List Int} {s_0:SlV} {a1:List Int} {b_1:Nat} {s_1_1:SlV} (S:St A N w w [oB b_1 xw [s_1_1.v],oS xy 1 IC s_1_1 a1] [fS 1 IC s_0 a0]) {r:List Int × Bool} (H:zbL.f a0 a1=some r) :
  Calls PP vc #[s_0.v,.pointer (some ⟨b_1,0,none⟩)] w <| Rt fun v w'=>(∃ so0:SlV,v = .bool r.2∧St A N w w' [oB b_1 xw [so0.v],oS xy 1 IC so0 r.1] []):=by
 unfold zbL.f at H
 refine zu (n:=6) Tryz.func53 rfl rfl zao (zb (za (wd (zi rfl) (zd (zb (za (wd (zM rfl) ?_)))))))
 obtain ⟨r1,er1,H⟩ := zp H
 obtain ⟨_,_,T,bk⟩ := S.calln 0 ((.z 0 rfl .nil))
 refine zA (zx uQ) zam (uV T er1) ?_
 rintro _ w2 ⟨s4,rfl,S2⟩
 replace S:=bk _ _ _ _ S2 rfl
 refine yE on_L_int rfl rfl (S.blk 1) zao (SlV.one _ _ rfl) rfl fun w5 B hw5 zw5=>?_
 replace S:=S.store 1 B hw5
 refine zd (zb (za (wd (zi rfl) (zd (zr ?_)))))
 refine ⟨_,(zP (zf rfl)),?_⟩
 replace S:=S.arr [0,1] []
 obtain rfl:=zaq H
 exact ⟨s4,rfl,S⟩
theorem uw {zcx:Tb→PTerm→List Int→List Int→Option (List Int × Bool)} (zcj : ∀ {A:Nat→Prop} {N:Oth} {w:World} {a0:Tb} {a_0:Option Addr} {g_0_1:Option Addr} {a1:PTerm} {s_1:SlV} {a2:List Int} {s_2:SlV} {a3_0:List Int} {b_3:Nat} {s_3_1:SlV} (S:St A N w w [oB b_3 xw [s_3_1.v],oS xy 1 IC s_3_1 a3_0] [oMa a_0 g_0_1 true,oT g_0_1 a0,ze s_1 a1.sub,fS 1 IC s_2 a2]) {r:List Int × Bool} (H:zcx a0 a1 a2 a3_0=some r),Calls PP xz #[.pointer a_0,.agg (tmC a1 s_1).toArray,s_2.v,.func (.func vc) #[] #[.pointer (some ⟨b_3,0,none⟩)]] w <| Rt fun v w'=>(∃ so0:SlV,v = .bool r.2∧St A N w w' [oB b_3 xw [so0.v],oS xy 1 IC so0 r.1] [])) {A:Nat→Prop} {N:Oth} {w:World} {a0:Tb} {a_0:Option Addr} {g_0_1:Option Addr} {a1:PTerm} {s_1:SlV} {a2:List Int} {s_2:SlV} {a3_0:List Int} {b_3:Nat} {s_3_1:SlV} (S:St A N w w [oB b_3 xw [s_3_1.v],oS xy 1 IC s_3_1 a3_0] [oMa a_0 g_0_1 true,oT g_0_1 a0,ze s_1 a1.sub,fS 1 IC s_2 a2]) {r:List Int × Bool} (H:zbM.g zcx a0 a1 a2 a3_0=some r) :
  Calls PP xz #[.pointer a_0,.agg (tmC a1 s_1).toArray,s_2.v,.func (.func vc) #[] #[.pointer (some ⟨b_3,0,none⟩)]] w <| Rt fun v w'=>(∃ so0:SlV,v = .bool r.2∧St A N w w' [oB b_3 xw [so0.v],oS xy 1 IC so0 r.1] []):=by
 unfold zbM.g at H
 refine zu (n:=49) Tryz.func39 rfl rfl zao (zb (za ?_))
 refine zH rfl zam fun b2 w1 hw1=>?_
 replace S:=S.new hw1
 refine wd (zi rfl) (zd (zb (zb (za (wd (zB rfl) (wd (ldT rfl (S.blk 0)) ?_))))))
 obtain ⟨r3,er3,H⟩ := zp H
 obtain ⟨_,_,T,bk⟩ := S.calln 0 ((.z 0 rfl (.z 1 rfl (.z 2 rfl .nil))))
 refine zA (zx vO) zam (vR (a1:=a1) T er3) ?_
 rintro _ w4 ⟨rfl,S2⟩
 replace S:=bk _ _ _ _ S2 rfl
 refine wd (xb rfl) (wd (zo rfl rfl) (wd (zo rfl rfl) ?_))
 refine zQ vV zam fun b7 w6 hw6=>?_
 replace S:=S.new hw6
 refine z7 xc rfl rfl (S.blk 0) (RRule.len _) (by rw [RRule.len]; decide) (RRule.one _) (xx (RRule.len _)) fun w8 B hw8 zw8=>?_
 replace S:=S.store 0 B hw8
 refine wd (zi rfl) (zd (zb (za (wd (zy rfl) (wd (zy rfl) ?_)))))
 refine wg (fun hg=>uS rfl) ?_
 refine wg (fun hg=>zM rfl) ?_
 obtain ⟨r9,er9,H⟩ := zp H
 replace S:=(S.front 3).front 3
 obtain ⟨_,_,T,bk⟩ := S.calln 2 ((.z 3 rfl .nil))
 let LT3:List OA:=[oMa a_0 g_0_1 true,oT g_0_1 a0,ze s_1 a1.sub,fS 1 IC s_2 a2]
 let LT4:List OA:=[oB b7 uG (RRule.C (ux r3.1)),oB b2 zm (tmC a1 s_1)]
 refine wl_gturn (R:=fun W => ∃ s12:SlV,St A N w W (oB b_3 xw [s12.v] :: oS xy 1 IC s12 r9.1 :: LT4) LT3) (j:=1) (pol:=true) rfl rfl rfl zam (fun hg=>does_callvg ca_reduce_Run_1 (zn hg) (zN (zn hg) rfl)) zam (fun hg=>calls_mono (reduce_Run_1_st T (if_t (by simpa using hg) er9)) fun _ _ ⟨s12,hv,S2⟩ => ⟨hv,⟨s12,bk _ _ _ _ S2 rfl⟩⟩) (fun hg=>by obtain rfl:=zaq (if_f (by simpa using hg) er9); exact ⟨s_3_1,S⟩) fun w10 S2=>?_
 obtain ⟨s12,S2⟩ := S2
 replace S:St A N w w10 (oB b_3 xw [s12.v] :: oS xy 1 IC s12 r9.1 :: LT4) LT3:=S2
 refine wg (fun hg=>xf (zn hg)) (wd (zV rfl (fun hp=>(zn (xl hp)))) (zd ?_))
 refine zI rfl (fun hc13=>?_) (fun hc13=>?_)
 ·replace H:=if_t hc13 H
  refine zb (za (wd (zi rfl) (zd (zr ?_))))
  refine ⟨_,(zP (zf rfl)),?_⟩
  replace S:=S.arr [0,1] []
  obtain rfl:=zaq H
  exact ⟨s12,rfl,S⟩
 replace H:=if_f hc13 H
 refine zw (zb (zb (za (wd (zg zD rfl (o':=4) rfl) (wd (zl zz rfl ((S.blk 3).cell (Term.get_sub _))) (wd (does_lenF zq rfl (S.onZ 2)) (wd (zk rfl) (zd ?_))))))))
 obtain ⟨o14,e14,Ho14⟩ := zp H
 clear H
 refine xL ([8,11,12] ++ rg 29 20) (fun fr W => ∃ s14:List Int,o14 = .inl s14 ∧ ∃ s15:SlV,St A N w W (oB b_3 xw [s15.v] :: oS xy 1 IC s15 s14 :: LT4) LT3) ?_ ?_
 ·refine zL ?_
  refine xI (α:=Nat × Int × (List Int)) ([8,11,12] ++ rg 29 20) (fun x fr W=>(x.1:Int)=(a1.sub.length:Int) - x.2.1∧0 ≤ x.2.1∧forN (fun i s=>zbM.b0 a2 zcx a0 a1 i s) x.1 x.2.1 x.2.2=some o14 ∧ ∃ s16:SlV,fr 29 = .int .i64 x.2.1∧St A N w W (oB b_3 xw [s16.v] :: oS xy 1 IC s16 (x.2.2) :: LT4) LT3) (fun x=>x.1) (((a1.sub.length:Int) - 0).toNat,0,r9.1) ⟨(by dsimp only; have hle:=Int.natCast_nonneg (a1.sub.length); omega),(Int.le_refl _),(by dsimp only; exact e14),s12,rfl,S⟩ ?_
  rintro ⟨m14,i14,x14_0⟩ g14 u14 ⟨hm14,hl14,e14,s17,q14_i,S⟩
  try dsimp only at hm14
  try dsimp only at hl14
  try dsimp only at e14
  try dsimp only at S
  try dsimp only at q14_i
  refine zb (za (wd (xp q14_i rfl) (zd (zb ?_))))
  refine zI rfl (fun hc18=>?_) (fun hc18=>?_)
  rotate_left
  ·refine xO ?_
   have hge:(a1.sub.length:Int) ≤ i14:=Int.not_lt.1 (of_decide_eq_false hc18)
   obtain rfl:m14=0:=by omega
   replace e14:=kV e14
   exact ⟨rfl,df,x14_0,e14,s17,S⟩
  refine zw ?_
  have hlt14:i14 < (a1.sub.length:Int):=of_decide_eq_true hc18
  obtain ⟨m14,rfl⟩ : ∃ m,m14=m + 1:=⟨m14 - 1,by omega⟩
  obtain ⟨q14,H,e14⟩ := kW e14
  unfold zbM.b0 at H
  try dsimp only at H
  have hb14:=(S.lenFZ 2)
  refine zb ?_
  refine zL (zb (za (wd (zk q14_i) (wd (does_indexF zq rfl q14_i (S.onZ 2) (And.intro (show 0 ≤ i14 by omega) (show i14 < (a1.sub.length:Int) from hlt14)).1 (And.intro (show 0 ≤ i14 by omega) (show i14 < (a1.sub.length:Int) from hlt14)).2) ?_))))
  obtain ⟨s20,hc21,S⟩ := S.viewTerm 2 (And.intro (show 0 ≤ i14 by omega) (show i14 < (a1.sub.length:Int) from hlt14))
  replace S:=S
  refine wd (ldC rfl hc21) ?_
  refine zQ xn zam fun b23 w22 hw22=>?_
  replace S:=S.new hw22
  refine wd (zh rfl) ?_
  refine wsT rfl rfl (S.blk 0) fun w24 B hw24 zw24=>?_
  replace S:=S.store 0 B hw24
  refine zd (zb ?_)
  obtain ⟨hs25,H⟩ := zX H
  have hs25:=of_decide_eq_true hs25
  obtain ⟨ha31,H⟩ := zX H
  have ha31:=of_decide_eq_true ha31
  let LT1:List OA:=(oS xy 1 IC s17 x14_0 :: LT4)
  let LT2:List OA:=[fS 1 IC (⟨s_2.p,Int.toNat (a2.length:Int),Int.toNat (a2.length:Int)⟩ : SlV) (a2.take (Int.toNat (a2.length:Int)))]
  refine yX 12 ⟨fun _ _=>True,fun _ _ _=>True,fun i v _=>match i with
   | 0=>v=Value.pointer a_0
   | 1=>v=Value.agg (tmC (kd a1 i14) s20).toArray
   | 2=>v=s_2.v
   | 3=>v=s_2.v
   | 4=>v=Value.int .i64 (a2.length:Int)
   | 5=>v=s_2.v
   | 6=>v=Value.int .i64 (a2.length:Int)
   | 8=>v=Value.int .i64 i14
   | 11=>v=Value.func (.func vc) #[] #[.pointer (some ⟨b_3,0,none⟩)]
   | _=>True⟩ (fun L g v => ∃ s30:SlV,∃ O33:List OA,∃ Z32:List OA,(∀ z ∈ (ze s20 ((kd a1 i14).sub) :: LT3),z ∈ Z32)∧Made L g Z32 7 41 (fun (c:Unit)=>(⟨s_2.p,Int.toNat (a2.length:Int),Int.toNat (a2.length:Int)⟩ : SlV).v) (fun (c:Unit)=>LT2)∧Made L g Z32 9 43 (fun (c:SlV)=>c.v) (fun (c:SlV)=>[fS 1 IC c ([i14])])∧(L 10=true→g 44=s30.v)∧O33=((bif L 10 then [oS xy 1 IC s30 ((a2.take (Int.toNat (a2.length:Int))) ++ [i14])] else []) ++ (oB b23 zm (tmC (kd a1 i14) s20) :: oB b_3 xw [s17.v] :: LT1))∧St A N w v O33 Z32) hmix zap (fun _ _ _ _ _ _ _ hv=>hv) (fun g=>⟨SlV.nil,_,_,fun _ h=>h,Made.no,Made.no,(fun h=>by cases h),rfl,S.ext (Ext.drawn _)⟩) ⟨?_,?_,?_,?_,?_,?_,?_,?_,?_,?_,?_,?_,trivial⟩ ?_
  ·rintro L g v hL hcl hclo ⟨s30,O33,Z32,hZ,hm7,hm9,hk10,hO,S⟩ 
   have SR:St A N w v (oB b23 zm (tmC (kd a1 i14) s20) :: oB b_3 xw [s17.v] :: LT1) (ze s20 ((kd a1 i14).sub) :: oMa a_0 g_0_1 true :: oT g_0_1 a0 :: ze s_1 a1.sub :: fS 1 IC s_2 a2 :: Z32):=by
    have S2:=S.zneed hZ
    rw [hO] at S2
    exact S2.drops
   refine wd (zB rfl) ?_
   exact zd (ob4 trivial rfl ⟨s30,O33,Z32,hZ,hm7.keep rfl rfl tl0,hm9.keep rfl rfl tl0,(kpU hk10),by rw [hO]; simp only [pN L 0 10],S⟩)
  ·rintro L g v hL hcl hclo ⟨s30,O33,Z32,hZ,hm7,hm9,hk10,hO,S⟩ 
   have SR:St A N w v (oB b23 zm (tmC (kd a1 i14) s20) :: oB b_3 xw [s17.v] :: LT1) (ze s20 ((kd a1 i14).sub) :: oMa a_0 g_0_1 true :: oT g_0_1 a0 :: ze s_1 a1.sub :: fS 1 IC s_2 a2 :: Z32):=by
    have S2:=S.zneed hZ
    rw [hO] at S2
    exact S2.drops
   refine wd (ldT rfl (SR.blk 0)) ?_
   exact zd (ob4 trivial rfl ⟨s30,O33,Z32,hZ,hm7.keep rfl rfl tl0,hm9.keep rfl rfl tl0,(kpU hk10),by rw [hO]; simp only [pN L 1 10],S⟩)
  ·rintro L g v hL hcl hclo ⟨s30,O33,Z32,hZ,hm7,hm9,hk10,hO,S⟩ 
   have hl10:L 10=false:=clF hL fun h=>hclo 10 2 h zap
   have SR:St A N w v (oB b23 zm (tmC (kd a1 i14) s20) :: oB b_3 xw [s17.v] :: LT1) (ze s20 ((kd a1 i14).sub) :: oMa a_0 g_0_1 true :: oT g_0_1 a0 :: ze s_1 a1.sub :: fS 1 IC s_2 a2 :: Z32):=by
    have S2:=S.zneed hZ
    rw [hO] at S2
    simp only [hl10,cd2,la2] at S2
    exact S2
   refine wd (zM rfl) ?_
   exact zd (ob4 trivial rfl ⟨s30,O33,Z32,hZ,hm7.keep rfl rfl tl0,hm9.keep rfl rfl tl0,(kpU hk10),by rw [hO]; simp only [pN L 2 10],S⟩)
  ·rintro L g v hL hcl hclo ⟨s30,O33,Z32,hZ,hm7,hm9,hk10,hO,S⟩ 
   have hl10:L 10=false:=clF hL fun h=>hclo 10 3 h zap
   have SR:St A N w v (oB b23 zm (tmC (kd a1 i14) s20) :: oB b_3 xw [s17.v] :: LT1) (ze s20 ((kd a1 i14).sub) :: oMa a_0 g_0_1 true :: oT g_0_1 a0 :: ze s_1 a1.sub :: fS 1 IC s_2 a2 :: Z32):=by
    have S2:=S.zneed hZ
    rw [hO] at S2
    simp only [hl10,cd2,la2] at S2
    exact S2
   refine wd (zM rfl) ?_
   exact zd (ob4 trivial rfl ⟨s30,O33,Z32,hZ,hm7.keep rfl rfl tl0,hm9.keep rfl rfl tl0,(kpU hk10),by rw [hO]; simp only [pN L 3 10],S⟩)
  ·rintro L g v hL hcl hclo ⟨s30,O33,Z32,hZ,hm7,hm9,hk10,hO,S⟩ hv3
   have hl10:L 10=false:=clF hL fun h=>hclo 10 4 h zap
   have SR:St A N w v (oB b23 zm (tmC (kd a1 i14) s20) :: oB b_3 xw [s17.v] :: LT1) (ze s20 ((kd a1 i14).sub) :: oMa a_0 g_0_1 true :: oT g_0_1 a0 :: ze s_1 a1.sub :: fS 1 IC s_2 a2 :: Z32):=by
    have S2:=S.zneed hZ
    rw [hO] at S2
    simp only [hl10,cd2,la2] at S2
    exact S2
   refine wd (xE xZ hv3 (SR.rd 4)) ?_
   exact zd (ob4 trivial rfl ⟨s30,O33,Z32,hZ,hm7.keep rfl rfl tl0,hm9.keep rfl rfl tl0,(kpU hk10),by rw [hO]; simp only [pN L 4 10],S⟩)
  ·rintro L g v hL hcl hclo ⟨s30,O33,Z32,hZ,hm7,hm9,hk10,hO,S⟩ 
   have hl10:L 10=false:=clF hL fun h=>hclo 10 5 h zap
   have SR:St A N w v (oB b23 zm (tmC (kd a1 i14) s20) :: oB b_3 xw [s17.v] :: LT1) (ze s20 ((kd a1 i14).sub) :: oMa a_0 g_0_1 true :: oT g_0_1 a0 :: ze s_1 a1.sub :: fS 1 IC s_2 a2 :: Z32):=by
    have S2:=S.zneed hZ
    rw [hO] at S2
    simp only [hl10,cd2,la2] at S2
    exact S2
   refine wd (zM rfl) ?_
   exact zd (ob4 trivial rfl ⟨s30,O33,Z32,hZ,hm7.keep rfl rfl tl0,hm9.keep rfl rfl tl0,(kpU hk10),by rw [hO]; simp only [pN L 5 10],S⟩)
  ·rintro L g v hL hcl hclo ⟨s30,O33,Z32,hZ,hm7,hm9,hk10,hO,S⟩ hv5
   have hl10:L 10=false:=clF hL fun h=>hclo 10 6 h zap
   have SR:St A N w v (oB b23 zm (tmC (kd a1 i14) s20) :: oB b_3 xw [s17.v] :: LT1) (ze s20 ((kd a1 i14).sub) :: oMa a_0 g_0_1 true :: oT g_0_1 a0 :: ze s_1 a1.sub :: fS 1 IC s_2 a2 :: Z32):=by
    have S2:=S.zneed hZ
    rw [hO] at S2
    simp only [hl10,cd2,la2] at S2
    exact S2
   refine wd (xE xZ hv5 (SR.rd 4)) ?_
   exact zd (ob4 trivial rfl ⟨s30,O33,Z32,hZ,hm7.keep rfl rfl tl0,hm9.keep rfl rfl tl0,(kpU hk10),by rw [hO]; simp only [pN L 6 10],S⟩)
  ·rintro L g v hL hcl hclo ⟨s30,O33,Z32,hZ,hm7,hm9,hk10,hO,S⟩ hv2 hv4 hv6
   have hl10:L 10=false:=clF hL fun h=>hclo 10 7 h zap
   replace S:=(S.zneed hZ)
   have hs34:=hs25
   refine wd (does_clipZ xZ hv2 hv4 hv6 (S.rd 4) hs34) ?_
   replace S:=S.clipZ 4 hs34
   exact zd (ob4 trivial trivial ⟨s30,O33,_,(fun z h=>tl6 z (hZ z h)),Made.one (val:=(fun (c:Unit)=>(⟨s_2.p,Int.toNat (a2.length:Int),Int.toNat (a2.length:Int)⟩ : SlV).v)) (ps:=(fun (c:Unit)=>LT2)) () (xX List.mem_cons_self yw),hm9.keep rfl rfl tl6,(kpU hk10),by rw [hO]; simp only [pN L 7 10],S⟩)
  ·rintro L g v hL hcl hclo ⟨s30,O33,Z32,hZ,hm7,hm9,hk10,hO,S⟩ 
   have hl10:L 10=false:=clF hL fun h=>hclo 10 8 h zap
   have SR:St A N w v (oB b23 zm (tmC (kd a1 i14) s20) :: oB b_3 xw [s17.v] :: LT1) (ze s20 ((kd a1 i14).sub) :: oMa a_0 g_0_1 true :: oT g_0_1 a0 :: ze s_1 a1.sub :: fS 1 IC s_2 a2 :: Z32):=by
    have S2:=S.zneed hZ
    rw [hO] at S2
    simp only [hl10,cd2,la2] at S2
    exact S2
   refine wd (zk rfl) ?_
   exact zd (ob4 trivial rfl ⟨s30,O33,Z32,hZ,hm7.keep rfl rfl tl0,hm9.keep rfl rfl tl0,(kpU hk10),by rw [hO]; simp only [pN L 8 10],S⟩)
  ·rintro L g v hL hcl hclo ⟨s30,O33,Z32,hZ,hm7,hm9,hk10,hO,S⟩ hv8
   have hl10:L 10=false:=clF hL fun h=>hclo 10 9 h zap
   replace S:=(S.zneed hZ)
   refine vi (C:=IC) (l:=[i14]) (vs:=[.int .i64 i14]) xZ el_int.zero (xK hv8 rfl) rfl (fun _ _=>rfl) zam rfl zam fun b36 w35 s37 hBw35 hw35=>?_
   replace S:=(S.lit hBw35 hw35 zao).frzS 0
   exact zd (ob4 trivial trivial ⟨s30,O33,_,(fun z h=>tl6 z (hZ z h)),hm7.keep rfl rfl tl6,Made.one (val:=(fun (c:SlV)=>c.v)) (ps:=(fun (c:SlV)=>[fS 1 IC c ([i14])])) s37 (xX List.mem_cons_self yw),(kpU hk10),by rw [hO]; simp only [pN L 9 10],S⟩)
  ·rintro L g v hL hcl hclo ⟨s30,O33,Z32,hZ,hm7,hm9,hk10,hO,S⟩ _ _
   obtain ⟨_,he7,hp7⟩ := hm7 (hcl 7 zap)
   obtain ⟨s28,he9,hp9⟩ := hm9 (hcl 9 zap)
   have hl10:L 10=false:=hL
   have hOP : ∃ P Y,P=[]∧Y=(oB b23 zm (tmC (kd a1 i14) s20) :: oB b_3 xw [s17.v] :: LT1)∧O33=P ++ ([] ++ Y):=⟨_,_,rfl,rfl,by rw [hO]; simp only [hl10,cd2,la2]⟩
   obtain ⟨P,Y,hP,hY,hPY⟩ := hOP
   rw [hPY] at S
   replace S:=(S.zneed (xD (l1:=LT2) hp7 (xD (l1:=[fS 1 IC s28 ([i14])]) hp9 hZ)))
   have ha40:=ha31
   refine wl_appendZ (C:=IC) xZ el_int he7 he9 (S.rd 0) rfl (S.rd 1) zao ha40 zan zam fun s39 w38 O hw38 gw38=>?_
   replace S:=S.ownS hw38 O (by first | (simp; done) | (simp; omega) | (simp only [List.length_append]; omega)) gw38
   clear O
   refine zd (ob4 trivial trivial ⟨s39,P ++ ([oS xy 1 IC s39 ((a2.take (Int.toNat (a2.length:Int))) ++ [i14])] ++ Y),_,(fun z h=>tl7 z (hZ z h)),hm7.keep rfl rfl tl7,hm9.keep rfl rfl tl7,(fun _=>upd_same _ _ _),?_,S.ins (P:=[oS xy 1 IC s39 ((a2.take (Int.toNat (a2.length:Int))) ++ [i14])])⟩)
   rw [hP,hY]; simp only [xR (L:=L) (i:=10),cd2,la2]
  ·rintro L g v hL hcl hclo ⟨s30,O33,Z32,hZ,hm7,hm9,hk10,hO,S⟩ 
   have SR:St A N w v (oB b23 zm (tmC (kd a1 i14) s20) :: oB b_3 xw [s17.v] :: LT1) (ze s20 ((kd a1 i14).sub) :: oMa a_0 g_0_1 true :: oT g_0_1 a0 :: ze s_1 a1.sub :: fS 1 IC s_2 a2 :: Z32):=by
    have S2:=S.zneed hZ
    rw [hO] at S2
    exact S2.drops
   refine wd (uS rfl) ?_
   exact zd (ob4 trivial rfl ⟨s30,O33,Z32,hZ,hm7.keep rfl rfl tl0,hm9.keep rfl rfl tl0,(kpU hk10),by rw [hO]; simp only [pN L 11 10],S⟩)
  rintro L g w41 hLm ⟨s30,O33,Z32,hZ,hm7,hm9,hk10,hO,S⟩ hv42_0 hv42_1 hv42_2 hv42_3 hv42_4 hv42_5 hv42_6 _ hv42_8 _ _ hv42_11
  have hLt : ∀ j,j < 12→L j=true:=fun j hj=>by rw [hLm]; exact decide_eq_true hj
  obtain ⟨_,hv42_7,hp7⟩ := hm7 (hLt 7 zam)
  obtain ⟨s28,hv42_9,hp9⟩ := hm9 (hLt 9 zam)
  have hv42_10:=hk10 (hLt 10 zam)
  simp only [hLt 10 zam,cond_true,List.nil_append,List.cons_append] at hO
  rw [hO] at S
  replace S:=S.pickZ (xD (l1:=LT2) hp7 (xD (l1:=[fS 1 IC s28 ([i14])]) hp9 hZ))
  clear hp7 hp9 hZ hm7 hm9
  obtain ⟨r43,er43,H⟩ := zp H
  replace S:=(S.front 3).front 3
  obtain ⟨_,_,T,bk⟩ := S.calln 2 ((.z 3 rfl (.z 4 rfl (.z 2 rfl (.s 0 rfl .nil)))))
  refine zA (zK yZ (zN hv42_0 (zN hv42_1 (zN hv42_10 (zN hv42_11 rfl))))) zam (zcj (a1:=(kd a1 i14)) T er43) ?_
  rintro _ w44 ⟨s46,rfl,S2⟩
  replace S:=bk _ _ _ _ S2 rfl
  refine wd (xf rfl) (zd ?_)
  refine zI rfl (fun hc47=>?_) (fun hc47=>?_)
  ·replace H:=if_t hc47 H
   refine zb (za (wd (zi rfl) (zd (zr ?_))))
   refine ⟨_,(zP (zf rfl)),?_⟩
   replace S:=S.arr [0,1] []
   obtain rfl:=zaq H
   obtain rfl:=e14
   obtain rfl:=uD Ho14
   exact ⟨s46,rfl,S⟩
  replace H:=if_f hc47 H
  refine zw (za (wd (xi q14_i rfl (c:=i14 + 1) rfl zan zan) (wd (zk rfl) (zd ?_))))
  replace S:=S.arr [0,1,4,5] [3,4,5,6]
  obtain rfl:=zaq H
  exact ⟨rfl,df,(m14,i14 + 1,r43.1),⟨(by dsimp only; omega),(by dsimp only; omega),e14,s46,rfl,S⟩,by dsimp only; omega⟩
 rintro g48 u49 ⟨s14,rfl,s15,S⟩
 have H:=Ho14
 dsimp only [aft] at H
 refine zb (za (wd (zi rfl) (zd (zr ?_))))
 refine ⟨_,(zP (zf rfl)),?_⟩
 replace S:=S.arr [0,1] []
 obtain rfl:=zaq H
 exact ⟨s15,rfl,S⟩
theorem uC {a0:Tb} {a_0:Option Addr} {g_0_1:Option Addr} {a1:PTerm} {s_1:SlV} {a2:List Int} {s_2:SlV} {a3_0:List Int} {b_3:Nat} {s_3_1:SlV} (S:St A N w w [oB b_3 xw [s_3_1.v],oS xy 1 IC s_3_1 a3_0] [oMa a_0 g_0_1 true,oT g_0_1 a0,ze s_1 a1.sub,fS 1 IC s_2 a2]) {k:Nat} {r:List Int × Bool} (H:zbM.f k a0 a1 a2 a3_0=some r) :
  Calls PP xz #[.pointer a_0,.agg (tmC a1 s_1).toArray,s_2.v,.func (.func vc) #[] #[.pointer (some ⟨b_3,0,none⟩)]] w <| Rt fun v w'=>(∃ so0:SlV,v = .bool r.2∧St A N w w' [oB b_3 xw [so0.v],oS xy 1 IC so0 r.1] []):=by
 have main : ∀ (k:Nat) {A:Nat→Prop} {N:Oth} {w:World} {a0:Tb} {a_0:Option Addr} {g_0_1:Option Addr} {a1:PTerm} {s_1:SlV} {a2:List Int} {s_2:SlV} {a3_0:List Int} {b_3:Nat} {s_3_1:SlV} (S:St A N w w [oB b_3 xw [s_3_1.v],oS xy 1 IC s_3_1 a3_0] [oMa a_0 g_0_1 true,oT g_0_1 a0,ze s_1 a1.sub,fS 1 IC s_2 a2]) {r:List Int × Bool} (H:zbM.f k a0 a1 a2 a3_0=some r),Calls PP xz #[.pointer a_0,.agg (tmC a1 s_1).toArray,s_2.v,.func (.func vc) #[] #[.pointer (some ⟨b_3,0,none⟩)]] w <| Rt fun v w'=>(∃ so0:SlV,v = .bool r.2∧St A N w w' [oB b_3 xw [so0.v],oS xy 1 IC so0 r.1] []):=by
  intro k
  induction k with
  | zero=>intro A N w a0 a_0 g_0_1 a1 s_1 a2 s_2 a3_0 b_3 s_3_1 S r H; cases H
  | succ k ih=>intro A N w a0 a_0 g_0_1 a1 s_1 a2 s_2 a3_0 b_3 s_3_1 S r H; exact uw ih S H
 exact main k S H
theorem kZ {a0:Tb} {a_0:Option Addr} {a1:PTerm} {s_1:SlV} {a2:Int} (S:St A N w w [] [oT a_0 a0,ze s_1 a1.sub,oPw]) {k:Nat} {r:PTerm × Int × Bool × Int} (H:zbN.f k a0 a1 a2=some r) :
  Calls PP F_reduce_Run #[.pointer a_0,.agg (tmC a1 s_1).toArray,.int .i64 a2] w <| Rt fun v w'=>(∃ so0:SlV,v = .tuple #[.agg (tmC r.1 so0).toArray,.int .i64 r.2.1,.bool r.2.2.1,.int .i64 r.2.2.2]∧St A N w w' [] [ze so0 r.1.sub]):=by
 unfold zbN.f at H
 refine zu (n:=67) Tryz.func24 rfl rfl zao (zb (za ?_))
 refine zH rfl zam fun b2 w1 hw1=>?_
 replace S:=S.new hw1
 refine zQ xn zam fun b4 w3 hw3=>?_
 replace S:=S.new hw3
 refine wd (zh rfl) (wd (zi rfl) (wd (zh rfl) (zd ?_)))
 refine wc_scope (zb (za (wd (zB rfl) (wd (ldT rfl (S.blk 1)) ?_))))
 obtain ⟨r5,er5,H⟩ := zp H
 obtain ⟨_,_,T,bk⟩ := S.sub [0,1,2] [] [oB b4 zm (Term.C tmZ),oB b2 zm (tmC a1 s_1)]
 refine zA (zx j4) zam (j8 (a1:=a1) T er5) ?_
 rintro _ w6 ⟨a8,rfl,S2⟩
 replace S:=bk _ _ _ _ _ S2 rfl rfl
 refine wd (xb rfl) (wd (zo rfl rfl) (wd (zo rfl rfl) (wd (zZ rfl) (wd (zh rfl) (zd (zb ?_))))))
 refine zL (zb (za (wd (zk rfl) (wd (xq rfl rfl) (wd (zi rfl) (zd ?_))))))
 refine zI rfl (fun hc9=>?_) (fun hc9=>?_)
 ·replace H:=if_t hc9 H
  refine zb (za (wd (Does.to (v' := .agg (Term.C tmZ).toArray) (xa (vs:=[]) yl rfl Bld.nil) rfl) (wd (zk rfl) ?_)))
  refine wsT rfl rfl (S.blk 0) fun w10 B hw10 zw10=>?_
  replace S:=S.store 0 B hw10
  refine wd (zh rfl) (wd (zi rfl) (wd (zh rfl) (zd (zr ?_))))
  replace S:=S.nilTm
  refine ⟨_,(kN (rtT rfl (S.blk 0)) (zf rfl) (zf rfl) (zf rfl)),?_⟩
  replace S:=S.arr [] [0]
  obtain rfl:=zaq H
  exact ⟨SlV.nil,rfl,S⟩
 replace H:=if_f hc9 H
 refine zb (za (wd (zk rfl) (wd (xp rfl rfl) (wd (zy rfl) ?_))))
 refine wg (fun hg=>zk rfl) ?_
 refine wg (fun hg=>jL (zn hg) rfl) (wd (xv rfl (fun hp=>(zn (xl hp)))) (wd (zi rfl) (zd ?_)))
 refine zI rfl (fun hc11=>?_) (fun hc11=>?_)
 ·replace H:=if_t hc11 H
  refine zb (za (wd (Does.to (v' := .agg (Term.C tmZ).toArray) (xa (vs:=[]) yl rfl Bld.nil) rfl) ?_))
  refine wsT rfl rfl (S.blk 0) fun w12 B hw12 zw12=>?_
  replace S:=S.store 0 B hw12
  refine wd (zh rfl) (wd (zi rfl) (wd (zh rfl) (zd (zr ?_))))
  replace S:=S.nilTm
  refine ⟨_,(kN (rtT rfl (S.blk 0)) (zf rfl) (zf rfl) (zf rfl)),?_⟩
  replace S:=S.arr [] [0]
  obtain rfl:=zaq H
  exact ⟨SlV.nil,rfl,S⟩
 replace H:=if_f hc11 H
 refine zw (zb (za (wd (ldT rfl (S.blk 1)) ?_)))
 obtain ⟨r13,er13,H⟩ := zp H
 obtain ⟨_,_,T,bk⟩ := S.sub [2] [] [oB b4 zm (Term.C tmZ),oB b2 zm (tmC a1 s_1)]
 refine zA (zx uI) zam (j9 (a0:=a1) T er13) ?_
 rintro _ w14 ⟨s16,rfl,S2⟩
 replace S:=bk _ _ _ _ _ S2 rfl rfl
 refine wsT rfl rfl (S.blk 1) fun w17 B hw17 zw17=>?_
 replace S:=S.store 1 B hw17
 refine zd (zb (za (wd (zh rfl) (zd (zb ?_)))))
 refine wc_label (zb ?_)
 obtain ⟨ht18,H⟩ := zX H
 rw [ht18] at S
 replace S:=S.nilTm
 obtain ⟨o19,e19,Ho19⟩ := zp H
 clear H
 refine xL ([7,8,9,12,13,14,15,16] ++ rg 38 27) (fun fr W => ∃ s19:Int × PTerm × PTerm,o19 = .inl s19 ∧ ∃ s20:SlV,∃ s21:SlV,fr 12 = .int .i64 s19.1∧St A N w W [oB b2 zm (tmC s19.2.1 s20),oB b4 zm (tmC s19.2.2 s21)] [ze s21 s19.2.2.sub,ze s20 s19.2.1.sub,oMa a8 a_0 true,oT a_0 a0,ze s_1 a1.sub,oPw]) ?_ ?_
 ·refine zL ?_
  refine xI (α:=Nat × (Int × PTerm × PTerm)) ([7,8,9,12,13,14,15,16] ++ rg 38 27) (fun x fr W=>iter (fun s=>zbN.b0 k a0 a2 s.1 s.2.1 s.2.2) x.1 x.2=some o19 ∧ ∃ s22:SlV,∃ s23:SlV,fr 12 = .int .i64 (x.2.1)∧St A N w W [oB b2 zm (tmC (x.2.2.1) s22),oB b4 zm (tmC (x.2.2.2) s23)] [ze s23 ((x.2.2.2).sub),ze s22 ((x.2.2.1).sub),oMa a8 a_0 true,oT a_0 a0,ze s_1 a1.sub,oPw]) (fun x=>x.1) (k,(0,r13,(ptN 0 0 []))) ⟨(by dsimp only; exact e19),s16,SlV.nil,rfl,S⟩ ?_
  rintro ⟨m19,⟨x19_0,x19_1,x19_2⟩⟩ g19 u19 ⟨e19,s24,s25,q19_12,S⟩
  try dsimp only at e19
  try dsimp only at S
  try dsimp only at q19_12
  obtain ⟨m19,rfl⟩ : ∃ m,m19=m + 1:=⟨m19 - 1,by cases m19 with | zero=>cases e19 | succ m=>rfl⟩
  obtain ⟨q19,H,e19⟩ := iter_s e19
  unfold zbN.b0 at H
  try dsimp only at H
  refine zL (zb (za ?_))
  refine zQ zs_L_int zam fun b27 w26 hw26=>?_
  replace S:=S.new hw26
  refine zd (zb (za (wd (zB rfl) (wd (ldT rfl (S.blk 1)) (wd (does_funcl) ?_)))))
  replace S:=(S.nil xy 1 IC).nilZ 1 IC
  obtain ⟨r28,er28,H⟩ := zp H
  replace S:=S.front 1
  obtain ⟨_,_,T,bk⟩ := S.calln 2 ((.z 3 rfl (.z 4 rfl (.z 2 rfl (.z 0 rfl .nil)))))
  refine zA (zK yZ (zN rfl (zN rfl (zN SlV.nil_eq (zN rfl rfl))))) zam (uC (a1:=x19_1) T er28) ?_
  rintro _ w29 ⟨s31,rfl,S2⟩
  replace S:=bk _ _ _ _ S2 rfl
  refine wd (zi rfl) (zd (zb ?_))
  refine zL (zb (za (wd (zy rfl) (wd (zi rfl) (zd ?_)))))
  refine zI rfl (fun hc32=>?_) (fun hc32=>?_)
  ·replace H:=if_t hc32 H
   refine xO ?_
   replace S:=S.arr [2,3] [1,2,3,4,5,6]
   obtain rfl:=zaq H
   exact ⟨rfl,df,(x19_0,x19_1,x19_2),e19,s24,s25,q19_12,S⟩
  replace H:=if_f hc32 H
  refine zb (za (wd (zk q19_12) (wd (zk rfl) (wd (zR rfl rfl) (wd (zi rfl) (zd ?_))))))
  refine zI rfl (fun hc33=>?_) (fun hc33=>?_)
  ·replace H:=if_t hc33 H
   refine zb (za (wd (ldT rfl (S.blk 2)) (wd (zk q19_12) ?_)))
   refine wsT rfl rfl (S.blk 3) fun w34 B hw34 zw34=>?_
   replace S:=S.store 3 B hw34
   refine wd (zh rfl) (wd (zi rfl) (wd (zh rfl) (zd (zr ?_))))
   refine ⟨_,(kN (rtT rfl (S.blk 0)) (zf rfl) (zf rfl) (zf rfl)),?_⟩
   replace S:=S.arr [] [2]
   obtain rfl:=zaq H
   obtain rfl:=e19
   obtain rfl:=uD Ho19
   exact ⟨s24,rfl,S⟩
  replace H:=if_f hc33 H
  refine zw (zb (za (wd (zB rfl) (wd (ldT rfl (S.blk 2)) (wd (zl on_L_int rfl ((S.blk 0).cell rfl)) ?_)))))
  obtain ⟨r35,er35,H⟩ := zp H
  replace S:=S.frzS 1
  obtain ⟨_,_,T,bk⟩ := S.sub [4,5,3,0,7] [] [oB b27 xw [s31.v],oB b2 zm (tmC x19_1 s24),oB b4 zm (tmC x19_2 s25)]
  refine zA (zx jj) zam (jq (a1:=x19_1) T er35) ?_
  rintro _ w36 ⟨s38,rfl,S2⟩
  replace S:=bk _ _ _ _ _ S2 rfl rfl
  refine wd (xb rfl) (wd (zo rfl rfl) (wd (zo rfl rfl) ?_))
  refine zQ xn zam fun b40 w39 hw39=>?_
  replace S:=S.new hw39
  refine wsT rfl rfl (S.blk 0) fun w41 B hw41 zw41=>?_
  replace S:=S.store 0 B hw41
  refine wd (zh rfl) (zd (zb (zb (za (wd (zk rfl) (wd (xq rfl rfl) (zd ?_)))))))
  refine zI rfl (fun hc42=>?_) (fun hc42=>?_)
  ·replace H:=if_t hc42 H
   refine zb (za (wd (ldT rfl (S.blk 2)) (wd (zk q19_12) (wd (zk rfl) ?_))))
   refine wsT rfl rfl (S.blk 3) fun w43 B hw43 zw43=>?_
   replace S:=S.store 3 B hw43
   refine wd (zh rfl) (wd (zi rfl) (wd (zh rfl) (zd (zr ?_))))
   refine ⟨_,(kN (rtT rfl (S.blk 0)) (zf rfl) (zf rfl) (zf rfl)),?_⟩
   replace S:=S.arr [] [4]
   obtain rfl:=zaq H
   obtain rfl:=e19
   obtain rfl:=uD Ho19
   exact ⟨s24,rfl,S⟩
  replace H:=if_f hc42 H
  refine zw (zb (za (wd (ldT rfl (S.blk 0)) ?_)))
  refine wsT rfl rfl (S.blk 2) fun w44 B hw44 zw44=>?_
  replace S:=S.store 2 B hw44
  refine zd (za (wd (zk q19_12) (wd (vT rfl rfl) (wd (zh rfl) (zd ?_)))))
  replace S:=S.arr [0,3] [3,0,5,6,7,8]
  obtain rfl:=zaq H
  exact ⟨rfl,df,(m19,(IntKind.i64.wrap (x19_0 + 1),r35.1,x19_2)),⟨e19,s38,s25,rfl,S⟩,by dsimp only; omega⟩
 rintro g45 u46 ⟨s19,rfl,s20,s21,p19_12,S⟩
 have H:=Ho19
 dsimp only [aft] at H
 refine zb (za (wd (ldT rfl (S.blk 0)) (wd (zk p19_12) ?_)))
 refine wsT rfl rfl (S.blk 1) fun w47 B hw47 zw47=>?_
 replace S:=S.store 1 B hw47
 refine wd (zh rfl) (wd (zi rfl) (wd (zh rfl) (zd (zr ?_))))
 refine ⟨_,(kN (rtT rfl (S.blk 0)) (zf rfl) (zf rfl) (zf rfl)),?_⟩
 replace S:=S.arr [] [1]
 obtain rfl:=zaq H
 exact ⟨s20,rfl,S⟩
end
end Go.Proofs.YtmggdbbmmkkplaaGreatDoor
