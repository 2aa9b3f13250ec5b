/- Texts put together. -/
import Derived.Test.YtmggdbbmmkkplaaGreatDoorMRFrees3
import Derived.Laws.BytesArg
import Derived.Laws.IdiomRangeMap
set_option linter.unusedVariables false
set_option linter.unusedSimpArgs false
namespace Go.Proofs.YtmggdbbmmkkplaaGreatDoor
section
open Gw Go.RowKit
set_option maxHeartbeats 4000000
set_option maxRecDepth 20000
variable {A:Nat→Prop} {N:Oth} {w:World}
theorem formula_From_st {a0:List Nd} {s_0:SlV} (S:St A N w w [] [fS 4 Nd.C s_0 a0]) {r:Tb × Int} (H:zbO.f a0=some r) :
  Calls PP F_formula_From #[s_0.v] w <| Rt fun v w'=>(∃ ao0:Option Addr,v = .tuple #[.pointer ao0,.int .i64 r.2]∧St A N w w' [oT ao0 r.1] []):=by
 unfold zbO.f at H
 refine zu (n:=35) Tryz.func64 rfl rfl zao (zb (za ?_))
 replace S:=S.add (Ext.refl _) (oT.nil _) (fun _ x=>x.elim)
 refine wd (zZ rfl) (wd (zh rfl) (zd (zb (za ?_))))
 obtain ⟨r1,er1,H⟩ := zp H
 obtain ⟨_,_,T,bk⟩ := S.calln 0 ((.nil))
 refine zA (zx jh) zam (jm T er1) ?_
 rintro _ w2 ⟨a4,rfl,S2⟩
 replace S:=bk _ _ _ _ S2 rfl
 refine wd (zZ rfl) (zd (zb (zb (za (wd (zM rfl) (wd (xE xd rfl (S.rd 0)) (wd (zk rfl) (zd ?_))))))))
 obtain ⟨o5,e5,Ho5⟩ := zp H
 clear H
 refine xL ([2,3,5,6,7,8] ++ rg 12 22) (fun fr W => ∃ s5:Tb,o5 = .inl s5∧St A N w W [oT a4 s5,oT none none] [fS 4 Nd.C s_0 a0]) ?_ ?_
 ·refine zL ?_
  refine xI (α:=Nat × Int × Tb) ([2,3,5,6,7,8] ++ rg 12 22) (fun x fr W=>(x.1:Int)=(a0.length:Int) - x.2.1∧0 ≤ x.2.1∧forN (fun i s=>zbO.b0 a0 i s) x.1 x.2.1 x.2.2=some o5∧fr 12 = .int .i64 x.2.1∧St A N w W [oT a4 (x.2.2),oT none none] [fS 4 Nd.C s_0 a0]) (fun x=>x.1) (((a0.length:Int) - 0).toNat,0,r1) ⟨(by dsimp only; have hle:=Int.natCast_nonneg (a0.length); omega),(Int.le_refl _),(by dsimp only; exact e5),rfl,S⟩ ?_
  rintro ⟨m5,i5,x5_0⟩ g5 u5 ⟨hm5,hl5,e5,q5_i,S⟩
  try dsimp only at hm5
  try dsimp only at hl5
  try dsimp only at e5
  try dsimp only at S
  try dsimp only at q5_i
  refine zb (za (wd (xp q5_i rfl) (zd (zb ?_))))
  refine zI rfl (fun hc6=>?_) (fun hc6=>?_)
  rotate_left
  ·refine xO ?_
   have hge:(a0.length:Int) ≤ i5:=Int.not_lt.1 (of_decide_eq_false hc6)
   obtain rfl:m5=0:=by omega
   replace e5:=kV e5
   exact ⟨rfl,df,x5_0,e5,S⟩
  refine zw ?_
  have hlt5:i5 < (a0.length:Int):=of_decide_eq_true hc6
  obtain ⟨m5,rfl⟩ : ∃ m,m5=m + 1:=⟨m5 - 1,by omega⟩
  obtain ⟨q5,H,e5⟩ := kW e5
  unfold zbO.b0 at H
  try dsimp only at H
  have hb5:=(S.len 0)
  refine zb ?_
  refine zL (zb (za (wd (zk q5_i) (wd (xg xd rfl q5_i (S.rd 0) (And.intro (show 0 ≤ i5 by omega) (show i5 < (a0.length:Int) from hlt5)).1 (And.intro (show 0 ≤ i5 by omega) (show i5 < (a0.length:Int) from hlt5)).2) (wd (zt v7 rfl ((S.rd 0).at (vf Nd.z (And.intro (show 0 ≤ i5 by omega) (show i5 < (a0.length:Int) from hlt5)))) (Nd.len _)) ?_)))))
  refine zQ ze_Nd zam fun b9 w8 hw8=>?_
  replace S:=S.new hw8
  refine wd (zh rfl) ?_
  refine z7 v7 rfl rfl (S.blk 0) (Nd.len _) (by rw [Nd.len]; decide) (Nd.one _) (xx (Nd.len _)) fun w10 B hw10 zw10=>?_
  replace S:=S.store 0 B hw10
  refine zd (zb (za (wd (zB rfl) (wd (zt v7 rfl ((S.blk 0).all _ (Nd.len _)) (Nd.len _)) ?_))))
  obtain ⟨r11,er11,H⟩ := zp H
  replace S:=S.front 1
  obtain ⟨_,_,T,bk⟩ := S.calln 1 ((.nil))
  refine zA (zx uk) zam (jX T er11) ?_
  rintro _ w12 ⟨rfl,S2⟩
  replace S:=bk _ _ _ _ S2 rfl
  refine wd (xb rfl) (wd (zo rfl rfl) (wd (zo rfl rfl) (wd (zh rfl) (wd (zh rfl) (zd (zb (zb (za ?_))))))))
  refine wd (zk rfl) (wd (zR rfl rfl) (wd (zy rfl) ?_))
  refine wg (fun hg=>zk rfl) ?_
  refine wg (fun hg=>zk rfl) ?_
  refine wg (fun hg=>xq (zn hg) (zn hg)) (wd (zV rfl (fun hp=>(zn (xl hp)))) (zd ?_))
  refine zI rfl (fun hc14=>?_) (fun hc14=>?_)
  ·replace H:=if_t hc14 H
   refine za (wd (zh rfl) (zd (zb (za (wd (zk rfl) (wd (xq rfl rfl) (zd ?_)))))))
   refine zI rfl (fun hc15=>?_) (fun hc15=>?_)
   ·replace H:=if_t hc15 H
    refine zb (za (wd (zk rfl) ?_))
    replace S:=S.add (Ext.refl _) (oT.nil _) (fun _ x=>x.elim)
    refine wd (zZ rfl) (wd (zh rfl) (zd (zr ?_)))
    refine ⟨_,(xm (zf rfl) (zf rfl)),?_⟩
    replace S:=S.arr [0] []
    obtain rfl:=zaq H
    obtain rfl:=e5
    obtain rfl:=uD Ho5
    exact ⟨none,rfl,S⟩
   replace H:=if_f hc15 H
   refine zw (za (wd (xi q5_i rfl (c:=i5 + 1) rfl zan zan) (wd (zk rfl) (zd ?_))))
   replace S:=S.arr [0,2] [0]
   obtain rfl:=zaq H
   exact ⟨rfl,df,(m5,i5 + 1,r11.1),⟨(by dsimp only; omega),(by dsimp only; omega),e5,rfl,S⟩,by dsimp only; omega⟩
  ·replace H:=if_f hc14 H
   refine zw (zb (za (wd (zk rfl) (wd (xq rfl rfl) (zd ?_)))))
   refine zI rfl (fun hc16=>?_) (fun hc16=>?_)
   ·replace H:=if_t hc16 H
    refine zb (za (wd (zk rfl) ?_))
    replace S:=S.add (Ext.refl _) (oT.nil _) (fun _ x=>x.elim)
    refine wd (zZ rfl) (wd (zh rfl) (zd (zr ?_)))
    refine ⟨_,(xm (zf rfl) (zf rfl)),?_⟩
    replace S:=S.arr [0] []
    obtain rfl:=zaq H
    obtain rfl:=e5
    obtain rfl:=uD Ho5
    exact ⟨none,rfl,S⟩
   replace H:=if_f hc16 H
   refine zw (za (wd (xi q5_i rfl (c:=i5 + 1) rfl zan zan) (wd (zk rfl) (zd ?_))))
   replace S:=S.arr [0,2] [0]
   obtain rfl:=zaq H
   exact ⟨rfl,df,(m5,i5 + 1,r11.1),⟨(by dsimp only; omega),(by dsimp only; omega),e5,rfl,S⟩,by dsimp only; omega⟩
 rintro g17 u18 ⟨s5,rfl,S⟩
 have H:=Ho5
 dsimp only [aft] at H
 refine zb (za (wd (zB rfl) (wd (zZ rfl) (wd (zh rfl) (zd (zr ?_))))))
 refine ⟨_,(xm (zf rfl) (zf rfl)),?_⟩
 replace S:=S.arr [0] []
 obtain rfl:=zaq H
 exact ⟨a4,rfl,S⟩
theorem ref03_Ints_st {a0:List Int} {s_0:SlV} {a1:List Int} {s_1:SlV} (S:St A N w w [] [fS 1 IC s_0 a0,fS 1 IC s_1 a1]) {r:Bool} (H:zbP.f a0 a1=some r) :
  Calls PP F_ref03_Ints #[s_0.v,s_1.v] w <| Rt fun v w'=>(v = .bool r∧St A N w w' [] []):=by
 unfold zbP.f at H
 refine zu (n:=26) Tryz.func21 rfl rfl zao (zb (za (wd (zi rfl) (zd (zb (zb (za (wd (zM rfl) ?_))))))))
 refine wd (xE xZ rfl (S.rd 0)) (wd (zM rfl) (wd (xE xZ rfl (S.rd 1)) (wd (xq rfl rfl) (zd ?_))))
 refine zI rfl (fun hc1=>?_) (fun hc1=>?_)
 ·replace H:=if_t hc1 H
  refine zb (za (wd (zi rfl) (zd (zr ?_))))
  refine ⟨_,(zP (zf rfl)),?_⟩
  replace S:=S.arr [] []
  obtain rfl:=zaq H
  exact ⟨rfl,S⟩
 replace H:=if_f hc1 H
 refine zw (zb (zb (za (wd (zh rfl) (zd ?_)))))
 obtain ⟨o2,e2,Ho2⟩ := zp H
 clear H
 refine xL ([4,5] ++ rg 11 15) (fun fr W => ∃ s2:Unit,o2 = .inl s2∧St A N w W [] [fS 1 IC s_0 a0,fS 1 IC s_1 a1]) ?_ ?_
 ·refine zL ?_
  refine xI (α:=Nat × Int × Unit) ([4,5] ++ rg 11 15) (fun x fr W=>(x.1:Int)=(a0.length:Int) - x.2.1∧0 ≤ x.2.1∧forN (fun i s=>zbP.b0 a1 a0 i) x.1 x.2.1 x.2.2=some o2∧fr 5 = .int .i64 x.2.1∧St A N w W [] [fS 1 IC s_0 a0,fS 1 IC s_1 a1]) (fun x=>x.1) (((a0.length:Int) - 0).toNat,0,()) ⟨(by dsimp only; have hle:=Int.natCast_nonneg (a0.length); omega),(Int.le_refl _),(by dsimp only; exact e2),rfl,S⟩ ?_
  rintro ⟨m2,i2,_⟩ g2 u2 ⟨hm2,hl2,e2,q2_i,S⟩
  try dsimp only at hm2
  try dsimp only at hl2
  try dsimp only at e2
  try dsimp only at S
  try dsimp only at q2_i
  refine zb (zb (za (wd (zk q2_i) (wd (zM rfl) (wd (xE xZ rfl (S.rd 0)) (wd (xp rfl rfl) (zd ?_)))))))
  refine zI rfl (fun hc3=>?_) (fun hc3=>?_)
  rotate_left
  ·refine xO ?_
   have hge:(a0.length:Int) ≤ i2:=Int.not_lt.1 (of_decide_eq_false hc3)
   obtain rfl:m2=0:=by omega
   replace e2:=kV e2
   exact ⟨rfl,df,(),e2,S⟩
  refine zw ?_
  have hlt2:i2 < (a0.length:Int):=of_decide_eq_true hc3
  obtain ⟨m2,rfl⟩ : ∃ m,m2=m + 1:=⟨m2 - 1,by omega⟩
  obtain ⟨q2,H,e2⟩ := kW e2
  unfold zbP.b0 at H
  try dsimp only at H
  have hb2:=(S.len 0)
  refine zb ?_
  refine zL (zb ?_)
  refine x0 8 (Ext u2) hmix zap zap (Ext.drawn _) (zC (fun v K=>zM rfl) (zC (fun v K=>zk q2_i) (zC (fun v K=>xg xZ rfl rfl ((S.ext K).rd 0) (And.intro (show 0 ≤ i2 by omega) (show i2 < (a0.length:Int) from hlt2)).1 (And.intro (show 0 ≤ i2 by omega) (show i2 < (a0.length:Int) from hlt2)).2) (zC (fun v K=>zl xQ rfl (((S.ext K).rd 0).one (vf (0:Int) (And.intro (show 0 ≤ i2 by omega) (show i2 < (a0.length:Int) from hlt2))) rfl)) (zC (fun v K=>zM rfl) ?_)))))
  refine zC (fun v K=>zk q2_i) ?_
  obtain ⟨hi5,H⟩ := zX H
  refine zC (fun v K=>xg xZ rfl rfl ((S.ext K).rd 1) (zG hi5).1 (zG hi5).2) (zC (fun v K=>zl xQ rfl (((S.ext K).rd 1).one (vf (0:Int) (zG hi5)) rfl)) ?_)
  refine vj fun w6 K=>?_
  replace S:=S.ext K
  clear K
  refine wd (xq rfl rfl) (zd ?_)
  refine zI rfl (fun hc7=>?_) (fun hc7=>?_)
  ·replace H:=if_t hc7 H
   refine zb (za (wd (zi rfl) (zd (zr ?_))))
   refine ⟨_,(zP (zf rfl)),?_⟩
   replace S:=S.arr [] []
   obtain rfl:=zaq H
   obtain rfl:=e2
   obtain rfl:=uD Ho2
   exact ⟨rfl,S⟩
  replace H:=if_f hc7 H
  refine zw (za (wd (zk q2_i) (wd (xi rfl rfl (c:=i2 + 1) rfl zan zan) (wd (zh rfl) (zd ?_)))))
  obtain rfl:=zaq H
  exact ⟨rfl,df,(m2,i2 + 1,()),⟨(by dsimp only; omega),(by dsimp only; omega),e2,rfl,S⟩,by dsimp only; omega⟩
 rintro g8 u9 ⟨s2,rfl,S⟩
 have H:=Ho2
 dsimp only [aft] at H
 refine zb (za (wd (zi rfl) (zd (zr ?_))))
 refine ⟨_,(zP (zf rfl)),?_⟩
 replace S:=S.arr [] []
 obtain rfl:=zaq H
 exact ⟨rfl,S⟩
theorem ref03_T_Has_st {a0:Tb} {a_0:Option Addr} {a1:Int} (S:St A N w w [] [oR a_0 a0]) {r:Bool} (H:zbQ.f a0 a1=some r) :
  Calls PP F_ref03_T_Has #[.pointer a_0,.int .i64 a1] w <| Rt fun v w'=>(v = .bool r∧St A N w w' [] []):=by
 unfold zbQ.f at H
 refine zu (n:=16) Tryz.func31 rfl rfl zao (zb (za (wd (zi rfl) (zd (zb (za (wd (zk rfl) ?_)))))))
 refine wd (ut rfl rfl) (wd (zy rfl) ?_)
 refine wg (fun hg=>zk rfl) ?_
 refine wg (fun hg=>zB rfl) ?_
 obtain ⟨ht1,H⟩ := zX H
 obtain ⟨p2,s3,hp4,S⟩ := S.seeR 0 ht1
 replace S:=S
 refine wg (fun hg=>zS (((zn hg):_=Value.pointer a_0).trans (congrArg Value.pointer hp4))) ?_
 refine wg (fun hg=>zg jA (zn hg) (o':=0) rfl) ?_
 refine wg (fun hg=>zl xA (zn hg) ((S.blkZ 0).cell (RTab.get_n _))) ?_
 refine wg (fun hg=>xE xd (zn hg) (S.rd 1)) ?_
 refine wg (fun hg=>xp (zn hg) (zn hg)) (wd (zV rfl (fun hp=>(zn (xl hp)))) (wd (zi rfl) ?_))
 replace S:=S.zs [2]
 refine zd (zr ?_)
 refine ⟨_,(zP (zf rfl)),?_⟩
 replace S:=S.arr [] []
 obtain rfl:=zaq H
 exact ⟨rfl,S⟩
theorem ref03_T_Find_st {a0:Tb} {a_0:Option Addr} {a1:Nd} (S:St A N w w [] [oR a_0 a0]) {r:Int × Bool} (H:zbR.f a0 a1=some r) :
  Calls PP F_ref03_T_Find #[.pointer a_0,.agg (Nd.C a1).toArray] w <| Rt fun v w'=>(v = .tuple #[.int .i64 r.1,.bool r.2]∧St A N w w' [] []):=by
 unfold zbR.f at H
 refine zu (n:=26) Tryz.func161 rfl rfl zao (zb (za ?_))
 refine zH rfl zam fun b2 w1 hw1=>?_
 replace S:=S.new hw1
 refine wd (zh rfl) (wd (zi rfl) (zd (zb (zb (za (wd (zh rfl) (zd ?_)))))))
 obtain ⟨ht3,H⟩ := zX H
 obtain ⟨o4,e4,Ho4⟩ := zp H
 clear H
 refine xL (rg 4 22) (fun fr W => ∃ s4:Unit,o4 = .inl s4∧St A N w W [oB b2 T_Nd (Nd.C a1)] [oR a_0 a0]) ?_ ?_
 ·refine zL ?_
  refine xI (α:=Nat × Int × Unit) (rg 4 22) (fun x fr W=>(x.1:Int)=((a0.getD []).length:Int) - x.2.1∧0 ≤ x.2.1∧forN (fun i s=>zbR.b0 a0 a1 i) x.1 x.2.1 x.2.2=some o4∧fr 6 = .int .i64 x.2.1∧St A N w W [oB b2 T_Nd (Nd.C a1)] [oR a_0 a0]) (fun x=>x.1) ((((a0.getD []).length:Int) - 0).toNat,0,()) ⟨(by dsimp only; have hle:=Int.natCast_nonneg ((a0.getD []).length); omega),(Int.le_refl _),(by dsimp only; exact e4),rfl,S⟩ ?_
  rintro ⟨m4,i4,_⟩ g4 u4 ⟨hm4,hl4,e4,q4_i,S⟩
  try dsimp only at hm4
  try dsimp only at hl4
  try dsimp only at e4
  try dsimp only at S
  try dsimp only at q4_i
  refine zb (zb (za (wd (zk q4_i) (wd (zB rfl) ?_))))
  obtain ⟨p5,s6,hp7,S⟩ := S.seeR 0 ht3
  replace S:=S
  refine wd (zS (congrArg Value.pointer hp7)) (wd (zg jA rfl (o':=0) rfl) (wd (zl xA rfl ((S.blkZ 0).cell (RTab.get_n _))) (wd (xE xd rfl (S.rd 1)) (wd (xp rfl rfl) ?_))))
  replace S:=S.zs [2]
  refine zd ?_
  refine zI rfl (fun hc8=>?_) (fun hc8=>?_)
  rotate_left
  ·refine xO ?_
   have hge:((a0.getD []).length:Int) ≤ i4:=Int.not_lt.1 (of_decide_eq_false hc8)
   obtain rfl:m4=0:=by omega
   replace e4:=kV e4
   exact ⟨rfl,df,(),e4,S⟩
  refine zw ?_
  have hlt4:i4 < ((a0.getD []).length:Int):=of_decide_eq_true hc8
  obtain ⟨m4,rfl⟩ : ∃ m,m4=m + 1:=⟨m4 - 1,by omega⟩
  obtain ⟨q4,H,e4⟩ := kW e4
  unfold zbR.b0 at H
  try dsimp only at H
  have hb4:=(S.lenRZ 0)
  refine zb ?_
  refine zL (zb ?_)
  refine x0 8 (Ext u4) hmix zap zap (Ext.drawn _) (zC (fun v K=>zB rfl) ?_)
  obtain ⟨p9,s10,hp11,S⟩ := S.seeR 0 ht3
  replace S:=S
  refine zC (fun v K=>zS (congrArg Value.pointer hp11)) (zC (fun v K=>zg jA rfl (o':=0) rfl) (zC (fun v K=>zl xA rfl (((S.ext K).blkZ 0).cell (RTab.get_n _))) (zC (fun v K=>zk q4_i) (zC (fun v K=>xg xd rfl rfl ((S.ext K).rd 1) (And.intro (show 0 ≤ i4 by omega) (show i4 < ((a0.getD []).length:Int) from hlt4)).1 (And.intro (show 0 ≤ i4 by omega) (show i4 < ((a0.getD []).length:Int) from hlt4)).2) (zC (fun v K=>zt v7 rfl (((S.ext K).rd 1).at (vf Nd.z (And.intro (show 0 ≤ i4 by omega) (show i4 < ((a0.getD []).length:Int) from hlt4)))) (Nd.len _)) ?_)))))
  refine zC (fun v K=>zt v7 rfl (((S.ext K).blk 0).all _ (Nd.len _)) (Nd.len _)) ?_
  refine vj fun w13 K=>?_
  replace S:=S.ext K
  clear K
  refine wd (does_eqv eg_Nd (eq_Nd _ _) zam rfl rfl) ?_
  replace S:=S.zs [2]
  refine zd ?_
  refine zI rfl (fun hc14=>?_) (fun hc14=>?_)
  ·replace H:=if_t hc14 H
   refine zb (za (wd (zk q4_i) (wd (zh rfl) (wd (zi rfl) (zd (zr ?_))))))
   refine ⟨_,(xm (zf rfl) (zf rfl)),?_⟩
   replace S:=S.arr [] []
   obtain rfl:=zaq H
   obtain rfl:=e4
   obtain rfl:=uD Ho4
   exact ⟨rfl,S⟩
  replace H:=if_f hc14 H
  refine zw (za (wd (zk q4_i) (wd (xi rfl rfl (c:=i4 + 1) rfl zan zan) (wd (zh rfl) (zd ?_)))))
  obtain rfl:=zaq H
  exact ⟨rfl,df,(m4,i4 + 1,()),⟨(by dsimp only; omega),(by dsimp only; omega),e4,rfl,S⟩,by dsimp only; omega⟩
 rintro g15 u16 ⟨s4,rfl,S⟩
 have H:=Ho4
 dsimp only [aft] at H
 refine zb (za (wd (zh rfl) (wd (zi rfl) (zd (zr ?_)))))
 refine ⟨_,(xm (zf rfl) (zf rfl)),?_⟩
 replace S:=S.arr [] []
 obtain rfl:=zaq H
 exact ⟨rfl,S⟩
theorem ref03_T_Put_st {a0:Tb} {a_0:Option Addr} {a1:Nd} (S:St A N w w [oR a_0 a0] []) {r:Tb × Int × Int} (H:zbS.f a0 a1=some r) :
  Calls PP F_ref03_T_Put #[.pointer a_0,.agg (Nd.C a1).toArray] w <| Rt fun v w'=>(v = .tuple #[.int .i64 r.2.1,.int .i64 r.2.2]∧St A N w w' [oR a_0 r.1] []):=by
 unfold zbS.f at H
 refine zu (n:=90) Tryz.func99 rfl rfl zao (zb (za ?_))
 refine zH rfl zam fun b2 w1 hw1=>?_
 replace S:=S.new hw1
 refine wd (zh rfl) (wd (zh rfl) (zd (zb (zb (za (wd (zg fl_Nd_kind rfl (o':=0) rfl) (wd (zl j0 rfl ((S.blk 0).cell (Nd.get_kind _))) (zd ?_))))))))
 obtain ⟨o3,e3,Ho3⟩ := zp H
 replace H:=e3; clear e3
 refine xL ([4,5] ++ rg 10 50) (fun fr W => ∃ s3:Tb,o3 = .inl s3∧St A N w W [oB b2 T_Nd (Nd.C a1),oR a_0 s3] []) ?_ ?_
 ·refine zL (zb (za (wd (zR rfl rfl) (wd (zi rfl) (zd ?_)))))
  refine zI rfl (fun hc4=>?_) (fun hc4=>?_)
  ·replace H:=if_t hc4 H
   refine zb (zb (za (wd (zg kJ rfl (o':=2) rfl) (wd (zl xQ rfl ((S.blk 0).cell (Nd.get_l _))) (wd (xq rfl rfl) (wd (zy rfl) ?_))))))
   refine wg (fun hg=>zg kK rfl (o':=3) rfl) ?_
   refine wg (fun hg=>zl xQ (zn hg) ((S.blk 0).cell (Nd.get_r _))) ?_
   refine wg (fun hg=>xq (zn hg) rfl) (wd (xv rfl (fun hp=>(zn (xl hp)))) (zd ?_))
   refine zI rfl (fun hc5=>?_) (fun hc5=>?_)
   ·replace H:=if_t hc5 H
    refine zb (za (wd (zh rfl) (wd (zh rfl) (zd (zr ?_)))))
    refine ⟨_,(xm (zf rfl) (zf rfl)),?_⟩
    replace S:=S.arr [1] []
    obtain rfl:=zaq H
    obtain rfl:=uD Ho3
    exact ⟨rfl,S⟩
   replace H:=if_f hc5 H
   refine zw (zb (za (wd (zg uM rfl (o':=1) rfl) (wd (zl xt rfl ((S.blk 0).cell (Nd.get_name _))) ?_))))
   obtain ⟨r6,er6,H⟩ := zp H
   obtain ⟨_,_,T,bk⟩ := S.calln 0 ((.nil))
   refine zA (zx ca_ref03_Word) zam (ref03_Word_st T er6) ?_
   rintro _ w7 ⟨rfl,S2⟩
   replace S:=bk _ _ _ _ S2 rfl
   refine wd (xf rfl) (zd ?_)
   refine zI rfl (fun hc9=>?_) (fun hc9=>?_)
   ·replace H:=if_t hc9 H
    refine zb (za (wd (zh rfl) (wd (zh rfl) (zd (zr ?_)))))
    refine ⟨_,(xm (zf rfl) (zf rfl)),?_⟩
    replace S:=S.arr [1] []
    obtain rfl:=zaq H
    obtain rfl:=uD Ho3
    exact ⟨rfl,S⟩
   replace H:=if_f hc9 H
   refine zw ?_
   obtain rfl:=zaq H
   exact ⟨rfl,df,a0,rfl,S⟩
  ·replace H:=if_f hc4 H
   refine zb (za (wd (zR rfl rfl) (wd (zi rfl) (zd ?_))))
   refine zI rfl (fun hc10=>?_) (fun hc10=>?_)
   ·replace H:=if_t hc10 H
    refine zb (za (wd (zg uM rfl (o':=1) rfl) (wd (zl xt rfl ((S.blk 0).cell (Nd.get_name _))) (wd (um rfl rfl) (wd (zy rfl) ?_)))))
    refine wg (fun hg=>zg kJ rfl (o':=2) rfl) ?_
    refine wg (fun hg=>zl xQ (zn hg) ((S.blk 0).cell (Nd.get_l _))) ?_
    refine wg (fun hg=>xq (zn hg) rfl) (wd (xv rfl (fun hp=>(zn (xl hp)))) (wd (zy rfl) ?_))
    refine wg (fun hg=>zg kK rfl (o':=3) rfl) ?_
    refine wg (fun hg=>zl xQ (zn hg) ((S.blk 0).cell (Nd.get_r _))) ?_
    refine wg (fun hg=>xq (zn hg) rfl) (wd (xv rfl (fun hp=>(zn (xl hp)))) (zd ?_))
    refine zI rfl (fun hc11=>?_) (fun hc11=>?_)
    ·replace H:=if_t hc11 H
     refine zb (za (wd (zh rfl) (wd (zh rfl) (zd (zr ?_)))))
     refine ⟨_,(xm (zf rfl) (zf rfl)),?_⟩
     replace S:=S.arr [1] []
     obtain rfl:=zaq H
     obtain rfl:=uD Ho3
     exact ⟨rfl,S⟩
    replace H:=if_f hc11 H
    refine zw ?_
    obtain rfl:=zaq H
    exact ⟨rfl,df,a0,rfl,S⟩
   ·replace H:=if_f hc10 H
    refine zb (zb (za (wd (zR rfl rfl) (wd (zi rfl) (zd ?_)))))
    obtain ⟨o12,e12,Ho12⟩ := zp H
    replace H:=e12; clear e12
    refine xL [39,41,42] (fun fr W=>fr 39 = .bool o12∧St A N w W [oB b2 T_Nd (Nd.C a1),oR a_0 a0] []) ?_ ?_
    ·refine zI rfl (fun hc13=>?_) (fun hc13=>?_)
     ·replace H:=if_t hc13 H
      refine zw ?_
      obtain rfl:=zaq H
      exact ⟨rfl,df,rfl,S⟩
     ·replace H:=if_f hc13 H
      refine zb (za (wd (zR rfl rfl) (wd (zi rfl) (zd ?_))))
      refine zI rfl (fun hc14=>?_) (fun hc14=>?_)
      ·replace H:=if_t hc14 H
       refine zw ?_
       obtain rfl:=zaq H
       exact ⟨rfl,df,rfl,S⟩
      ·replace H:=if_f hc14 H
       refine za (wd (zR rfl rfl) (wd (zi rfl) (zd ?_)))
       obtain rfl:=zaq H
       exact ⟨rfl,df,rfl,S⟩
    rintro g15 u16 ⟨p12_39,S⟩
    have H:=Ho12
    refine zI p12_39 (fun hc17=>?_) (fun hc17=>?_)
    rotate_left
    ·replace H:=if_f hc17 H
     refine zb (za (wd (zh rfl) (wd (zh rfl) (zd (zr ?_)))))
     refine ⟨_,(xm (zf rfl) (zf rfl)),?_⟩
     replace S:=S.arr [1] []
     obtain rfl:=zaq H
     obtain rfl:=uD Ho3
     exact ⟨rfl,S⟩
    replace H:=if_t hc17 H
    refine zb (za (wd (zg uM rfl (o':=1) rfl) (wd (zl xt rfl ((S.blk 0).cell (Nd.get_name _))) (wd (um rfl rfl) (wd (zy rfl) ?_)))))
    refine wg (fun hg=>zB rfl) ?_
    refine wg (fun hg=>zg kJ rfl (o':=2) rfl) ?_
    refine wg (fun hg=>zl xQ (zn hg) ((S.blk 0).cell (Nd.get_l _))) ?_
    obtain ⟨r18,er18,H⟩ := zp H
    refine xJ (j:=3) (pol:=false) rfl rfl rfl zam (fun hg=>zK ca_ref03_T_Has (zN (zn hg) (zN (zn hg) rfl))) zam (fun hg=>(have ⟨M,SS⟩ := S.lend ((.o 1 rfl .nil)); quiet (ref03_T_Has_st SS (if_t (by simpa using hg) er18)) (fun v w' h=>⟨h.1,_,_,h.2⟩))) fun w19 hw19=>?_
    replace S:=S.ext hw19
    refine wg (fun hg=>xf (zn hg)) (wd (xv rfl (fun hp=>(zn (xl hp)))) (wd (zy rfl) ?_))
    refine wg (fun hg=>zB rfl) ?_
    refine wg (fun hg=>zg kK rfl (o':=3) rfl) ?_
    refine wg (fun hg=>zl xQ (zn hg) ((S.blk 0).cell (Nd.get_r _))) ?_
    obtain ⟨r20,er20,H⟩ := zp H
    refine xJ (j:=10) (pol:=false) rfl rfl rfl zam (fun hg=>zK ca_ref03_T_Has (zN (zn hg) (zN (zn hg) rfl))) zam (fun hg=>(have ⟨M,SS⟩ := S.lend ((.o 1 rfl .nil)); quiet (ref03_T_Has_st SS (if_t (by simpa using hg) er20)) (fun v w' h=>⟨h.1,_,_,h.2⟩))) fun w21 hw21=>?_
    replace S:=S.ext hw21
    refine wg (fun hg=>xf (zn hg)) (wd (xv rfl (fun hp=>(zn (xl hp)))) (zd ?_))
    refine zI rfl (fun hc22=>?_) (fun hc22=>?_)
    ·replace H:=if_t hc22 H
     refine zb (za (wd (zh rfl) (wd (zh rfl) (zd (zr ?_)))))
     refine ⟨_,(xm (zf rfl) (zf rfl)),?_⟩
     replace S:=S.arr [1] []
     obtain rfl:=zaq H
     obtain rfl:=uD Ho3
     exact ⟨rfl,S⟩
    replace H:=if_f hc22 H
    refine zw ?_
    obtain rfl:=zaq H
    exact ⟨rfl,df,a0,rfl,S⟩
 rintro g23 u24 ⟨s3,rfl,S⟩
 have H:=Ho3
 dsimp only [aft] at H
 refine zb (za (wd (zB rfl) (wd (zt v7 rfl ((S.blk 0).all _ (Nd.len _)) (Nd.len _)) ?_)))
 obtain ⟨r25,er25,H⟩ := zp H
 obtain ⟨_,_,T,bk⟩ := S.calln 0 ((.o 1 rfl .nil))
 refine zA (zx ca_ref03_T_Find) zam (ref03_T_Find_st T er25) ?_
 rintro _ w26 ⟨rfl,S2⟩
 replace S:=bk _ _ _ _ S2 rfl
 refine wd (xb rfl) (wd (zo rfl rfl) (wd (zo rfl rfl) (wd (zh rfl) (wd (zi rfl) (zd (zb (zb (za ?_))))))))
 refine wd (zy rfl) (zd ?_)
 refine zI rfl (fun hc28=>?_) (fun hc28=>?_)
 ·replace H:=if_t hc28 H
  refine zb (za (wd (zk rfl) (wd (zh rfl) (wd (zh rfl) (zd (zr ?_))))))
  refine ⟨_,(xm (zf rfl) (zf rfl)),?_⟩
  replace S:=S.arr [1] []
  obtain rfl:=zaq H
  exact ⟨rfl,S⟩
 replace H:=if_f hc28 H
 refine zw (zb (zb (za (wd (zB rfl) ?_))))
 obtain ⟨ht29,H⟩ := zX H
 obtain ⟨p30,s31,hp32,S⟩ := S.openR 1 ht29
 replace S:=S
 refine wd (zS (congrArg Value.pointer hp32)) (wd (zg jA rfl (o':=0) rfl) (wd (zl xA rfl ((S.blk 0).cell (RTab.get_n _))) (wd (xE xd rfl (S.rdO 1)) (wd (ut rfl rfl) ?_))))
 replace S:=((S.front 1).front 1).shutR hp32
 refine zd ?_
 refine zI rfl (fun hc33=>?_) (fun hc33=>?_)
 ·replace H:=if_t hc33 H
  refine zb (za (wd (zh rfl) (wd (zh rfl) (zd (zr ?_)))))
  refine ⟨_,(xm (zf rfl) (zf rfl)),?_⟩
  replace S:St A N w w26 [oR a_0 (some (s3.getD []))] []:=S.arr [0] []
  obtain rfl:=zaq H
  exact ⟨rfl,S⟩
 replace H:=if_f hc33 H
 refine zw (zb ?_)
 obtain ⟨p34,s35,hp36,S⟩ := S.openR 0 rfl
 replace S:St A N w w26 [oB p34 T_RTab (RTab.C ⟨s35⟩),oS T_Nd 4 Nd.C s35 (s3.getD []),oB b2 T_Nd (Nd.C a1)] []:=S
 obtain ⟨ha37,H⟩ := zX H
 have ha37:=of_decide_eq_true ha37
 have hSO:=S.sl 1
 have hSlt:=hSO.lt
 have SH : ∀ v,Chg s35.fp w26 v→St A (N.or s35.fp) w v [oB p34 T_RTab (RTab.C ⟨s35⟩),oB b2 T_Nd (Nd.C a1)] []:=fun v hc=>S.away 1 (hc:=hc)
 refine wc_draw 8 ⟨fun L v=>Chg s35.fp w26 v∧(L 7=false→Ext w26 v),fun L a b=>Chg s35.fp a b∧(L 7=true→Ext a b),fun i v u=>match i with
  | 0=>v=Value.pointer a_0
  | 1=>v=Value.pointer a_0
  | 2=>v=Value.pointer (some ⟨p34,0,none⟩)
  | 3=>v=Value.pointer (some ⟨p34,0,none⟩)
  | 4=>v=s35.v
  | 5=>v=Value.agg (Nd.C a1).toArray
  | 6 => ∃ b sl,v=SlV.v sl∧sl=⟨some ⟨b,0,none⟩,1,1⟩ ∧ Blk u b T_Nd (Nd.C a1)∧¬ s35.fp b
  | 7 => ∃ s',v=SlV.v s'∧Own u 0 T_Nd 4 s' (((s3.getD []) ++ [a1]).map Nd.C) ∧ ∀ i,s'.fp i→s35.fp i∨w26.heap.size ≤ i
  | _=>True⟩ hmix zap ?_ ⟨(Ext.drawn _).mono (fun _ _ x=>x.elim),fun _=>Ext.drawn _⟩ ⟨?_,?_,?_,?_,?_,?_,?_,?_,trivial⟩ ?_
 ·intro L i v a b hLi hle hv
  match i,hLi,hv with
  | 0,_,hv=>exact hv
  | 1,_,hv=>exact hv
  | 2,_,hv=>exact hv
  | 3,_,hv=>exact hv
  | 4,_,hv=>exact hv
  | 5,_,hv=>exact hv
  | 6,_,⟨b,sl,e1,e2,hb,hn⟩ => exact ⟨b,sl,e1,e2,hb.chg hle.1 hn,hn⟩
  | 7,hLi,⟨s',e1,ho,hg⟩ => exact ⟨s',e1,ho.ext (hle.2 hLi),hg⟩
  | _ + 8,_,_=>exact trivial
 ·rintro L g v hL hT 
  refine wd (zB rfl) (zd (ob ⟨hT.1,fun h=>hT.2 h⟩ ⟨Chg.refl _ _,fun _=>Ext.refl _⟩ rfl))
 ·rintro L g v hL hT 
  refine wd (zB rfl) (zd (ob ⟨hT.1,fun h=>hT.2 h⟩ ⟨Chg.refl _ _,fun _=>Ext.refl _⟩ rfl))
 ·rintro L g v hL hT hv1
  refine wd (zS ((hv1:_=Value.pointer a_0).trans (congrArg Value.pointer hp36))) (zd (ob ⟨hT.1,fun h=>hT.2 h⟩ ⟨Chg.refl _ _,fun _=>Ext.refl _⟩ rfl))
 ·rintro L g v hL hT hv2
  refine wd (zg jA hv2 (o':=0) rfl) (zd (ob ⟨hT.1,fun h=>hT.2 h⟩ ⟨Chg.refl _ _,fun _=>Ext.refl _⟩ rfl))
 ·rintro L g v hL hT hv3
  refine wd (zl xA hv3 (((SH v hT.1).blk 0).cell (RTab.get_n _))) (zd (ob ⟨hT.1,fun h=>hT.2 h⟩ ⟨Chg.refl _ _,fun _=>Ext.refl _⟩ rfl))
 ·rintro L g v hL hT 
  refine wd (zt v7 rfl (((SH v hT.1).blk 1).all _ (Nd.len _)) (Nd.len _)) (zd (ob ⟨hT.1,fun h=>hT.2 h⟩ ⟨Chg.refl _ _,fun _=>Ext.refl _⟩ rfl))
 ·rintro L g v hL hT hv5
  refine wl_lit1 xd el_Nd.zero hv5 rfl (Nd.len _) zam zam fun b v' sl hn hq=>zd (ob ⟨hT.1.thenExt hn.ext,fun h=>(hT.2 h).trans hn.ext⟩ ⟨hn.ext.mono (fun _ _ x=>x.elim),fun _=>hn.ext⟩ ⟨b,sl,rfl,hq,hn.blk,fun e=>by have:=hSlt _ e; have:=hn.at_; have:=hT.1.size; omega⟩)
 ·rintro L g v hL hT hv4 ⟨b,sl,hv6,hq,hb,hnb⟩
  refine wl_push (C:=Nd.C) xd el_Nd hv4 hv6 (hSO.ext (hT.2 hL)) hb hq (Nd.len _) (Nd.one _) ha37 zan zam fun s' v' ho hc hg=>zd (ob ⟨hT.1.trans hc,fun h=>(by cases h)⟩ ⟨hc,fun h=>(by rw [hL] at h; cases h)⟩ ⟨s',rfl,ho,fun i e=>(hg i e).imp id (fun h=>Nat.le_trans hT.1.size h)⟩)
 rintro L g w38 hLm hT hv40_0 hv40_1 hv40_2 hv40_3 hv40_4 hv40_5 ⟨b,sl,hv40_6,hq,hb,hnb⟩ ⟨s39,hv40_7,O,gO⟩
 replace S:=S.push 1 O (by rw [List.length_append,List.length_singleton]; omega) hT.1 gO
 clear O gO SH hSO hSlt
 refine wd (zS ((hv40_0:_=Value.pointer a_0).trans (congrArg Value.pointer hp36))) (wd (zg jA rfl (o':=0) rfl) ?_)
 refine yE xA rfl hv40_7 (S.blk 1) (by rw [RTab.len]; decide) (SlV.one _ _ rfl) (RTab.set_n _ _) fun w41 B hw41 zw41=>?_
 replace S:=S.store 1 B hw41
 replace S:=((S.front 1).front 1).shutR hp36
 refine zd (zb (za (wd (zB rfl) ?_)))
 obtain ⟨p42,s43,hp44,S⟩ := S.openR 0 rfl
 replace S:=S
 refine wd (zS (congrArg Value.pointer hp44)) (wd (zg jA rfl (o':=0) rfl) (wd (zl xA rfl ((S.blk 0).cell (RTab.get_n _))) (wd (xE xd rfl (S.rdO 1)) (wd (does_sub rfl rfl) (wd (zh rfl) ?_)))))
 refine wd (zh rfl) ?_
 replace S:=((S.front 1).front 1).shutR hp44
 refine zd (zr ?_)
 refine ⟨_,(xm (zf rfl) (zf rfl)),?_⟩
 replace S:=S.arr [0] []
 obtain rfl:=zaq H
 exact ⟨rfl,S⟩
theorem ref03_From_st {a0:List Nd} {s_0:SlV} (S:St A N w w [] [fS 4 Nd.C s_0 a0]) {r:Tb × Int} (H:zbT.f a0=some r) :
  Calls PP F_ref03_From #[s_0.v] w <| Rt fun v w'=>(∃ ao0:Option Addr,v = .tuple #[.pointer ao0,.int .i64 r.2]∧St A N w w' [oR ao0 r.1] []):=by
 unfold zbT.f at H
 refine zu (n:=32) Tryz.func63 rfl rfl zao (zb (za ?_))
 replace S:=S.add (Ext.refl _) (oR.nil _) (fun _ x=>x.elim)
 refine wd (zZ rfl) (wd (zh rfl) (zd (zb (za (wd (vP bu_RTab Bld.nil) ?_)))))
 refine zH rfl zam fun b2 w1 hw1=>?_
 replace S:St A N w w1 [oR (some ⟨b2,0,none⟩) (some []),oR none none] [fS 4 Nd.C s_0 a0]:=((S.nil T_Nd 4 Nd.C).new hw1).shutR rfl
 refine wd (zZ rfl) (zd (zb (zb (za (wd (zh rfl) (zd ?_))))))
 obtain ⟨o3,e3,Ho3⟩ := zp H
 clear H
 refine xL ([2,3,5,6,7] ++ rg 10 21) (fun fr W => ∃ s3:Tb,o3 = .inl s3∧St A N w W [oR (some ⟨b2,0,none⟩) s3,oR none none] [fS 4 Nd.C s_0 a0]) ?_ ?_
 ·refine zL ?_
  refine xI (α:=Nat × Int × Tb) ([2,3,5,6,7] ++ rg 10 21) (fun x fr W=>(x.1:Int)=(a0.length:Int) - x.2.1∧0 ≤ x.2.1∧forN (fun i s=>zbT.b0 a0 i s) x.1 x.2.1 x.2.2=some o3∧fr 5 = .int .i64 x.2.1∧St A N w W [oR (some ⟨b2,0,none⟩) (x.2.2),oR none none] [fS 4 Nd.C s_0 a0]) (fun x=>x.1) (((a0.length:Int) - 0).toNat,0,(some [])) ⟨(by dsimp only; have hle:=Int.natCast_nonneg (a0.length); omega),(Int.le_refl _),(by dsimp only; exact e3),rfl,S⟩ ?_
  rintro ⟨m3,i3,x3_0⟩ g3 u3 ⟨hm3,hl3,e3,q3_i,S⟩
  try dsimp only at hm3
  try dsimp only at hl3
  try dsimp only at e3
  try dsimp only at S
  try dsimp only at q3_i
  refine zb (zb (za (wd (zk q3_i) (wd (zM rfl) (wd (xE xd rfl (S.rd 0)) (wd (xp rfl rfl) (zd ?_)))))))
  refine zI rfl (fun hc4=>?_) (fun hc4=>?_)
  rotate_left
  ·refine xO ?_
   have hge:(a0.length:Int) ≤ i3:=Int.not_lt.1 (of_decide_eq_false hc4)
   obtain rfl:m3=0:=by omega
   replace e3:=kV e3
   exact ⟨rfl,df,x3_0,e3,S⟩
  refine zw ?_
  have hlt3:i3 < (a0.length:Int):=of_decide_eq_true hc4
  obtain ⟨m3,rfl⟩ : ∃ m,m3=m + 1:=⟨m3 - 1,by omega⟩
  obtain ⟨q3,H,e3⟩ := kW e3
  unfold zbT.b0 at H
  try dsimp only at H
  have hb3:=(S.len 0)
  refine zb ?_
  refine zL (zb (za (wd (zB rfl) (wd (zM rfl) (wd (zk q3_i) (wd (xg xd rfl rfl (S.rd 0) (And.intro (show 0 ≤ i3 by omega) (show i3 < (a0.length:Int) from hlt3)).1 (And.intro (show 0 ≤ i3 by omega) (show i3 < (a0.length:Int) from hlt3)).2) ?_))))))
  refine wd (zt v7 rfl ((S.rd 0).at (vf Nd.z (And.intro (show 0 ≤ i3 by omega) (show i3 < (a0.length:Int) from hlt3)))) (Nd.len _)) ?_
  obtain ⟨r6,er6,H⟩ := zp H
  obtain ⟨_,_,T,bk⟩ := S.calln 1 ((.nil))
  refine zA (zx ca_ref03_T_Put) zam (ref03_T_Put_st T er6) ?_
  rintro _ w7 ⟨rfl,S2⟩
  replace S:=bk _ _ _ _ S2 rfl
  refine wd (xb rfl) (wd (zo rfl rfl) (wd (zo rfl rfl) (wd (zh rfl) (wd (zh rfl) (zd (zb (zb (za ?_))))))))
  refine wd (zk rfl) (wd (xq rfl rfl) (zd ?_))
  refine zI rfl (fun hc9=>?_) (fun hc9=>?_)
  ·replace H:=if_t hc9 H
   refine zb (za (wd (zk rfl) ?_))
   replace S:=S.add (Ext.refl _) (oR.nil _) (fun _ x=>x.elim)
   refine wd (zZ rfl) (wd (zh rfl) (zd (zr ?_)))
   refine ⟨_,(xm (zf rfl) (zf rfl)),?_⟩
   replace S:=S.arr [0] []
   obtain rfl:=zaq H
   obtain rfl:=e3
   obtain rfl:=uD Ho3
   exact ⟨none,rfl,S⟩
  replace H:=if_f hc9 H
  refine zw (zb (za (wd (zk rfl) (wd (zk q3_i) (wd (xq rfl rfl) (zd ?_))))))
  refine zI rfl (fun hc10=>?_) (fun hc10=>?_)
  ·replace H:=if_t hc10 H
   refine zb (za ?_)
   replace S:=S.add (Ext.refl _) (oR.nil _) (fun _ x=>x.elim)
   refine wd (zZ rfl) (wd (zh rfl) (zd (zr ?_)))
   refine ⟨_,(xm (zf rfl) (zf rfl)),?_⟩
   replace S:=S.arr [0] []
   obtain rfl:=zaq H
   obtain rfl:=e3
   obtain rfl:=uD Ho3
   exact ⟨none,rfl,S⟩
  replace H:=if_f hc10 H
  refine zw (za (wd (zk q3_i) (wd (xi rfl rfl (c:=i3 + 1) rfl zan zan) (wd (zh rfl) (zd ?_)))))
  obtain rfl:=zaq H
  exact ⟨rfl,df,(m3,i3 + 1,r6.1),⟨(by dsimp only; omega),(by dsimp only; omega),e3,rfl,S⟩,by dsimp only; omega⟩
 rintro g11 u12 ⟨s3,rfl,S⟩
 have H:=Ho3
 dsimp only [aft] at H
 refine zb (za (wd (zB rfl) (wd (zZ rfl) (wd (zh rfl) (zd (zr ?_))))))
 refine ⟨_,(xm (zf rfl) (zf rfl)),?_⟩
 replace S:=S.arr [0] []
 obtain rfl:=zaq H
 exact ⟨(some ⟨b2,0,none⟩),rfl,S⟩
theorem law03_Both_st {a0:List Nd} {s_0:SlV} (S:St A N w w [] [fS 4 Nd.C s_0 a0]) {r:Tb × Tb × Bool} (H:zbU.f a0=some r) :
  Calls PP F_law03_Both #[s_0.v] w <| Rt fun v w'=>(∃ ao0:Option Addr,∃ ao1:Option Addr,v = .tuple #[.pointer ao0,.pointer ao1,.bool r.2.2]∧St A N w w' [oT ao0 r.1,oR ao1 r.2.1] []):=by
 unfold zbU.f at H
 refine zu (n:=27) Tryz.func34 rfl rfl zao (zb (za ?_))
 replace S:=S.add (Ext.refl _) (oT.nil _) (fun _ x=>x.elim)
 refine wd (zZ rfl) ?_
 replace S:=S.add (Ext.refl _) (oR.nil _) (fun _ x=>x.elim)
 refine wd (zZ rfl) (wd (zi rfl) (zd (zb (za ?_))))
 refine vi (C:=Nd.C) (l:=([]:List Nd)) (vs:=[]) xd el_Nd.zero rfl rfl (fun a _=>Nd.len a) zam rfl zam fun b2 w1 s3 hBw1 hw1=>?_
 replace S:=S.lit hBw1 hw1 zao
 refine wd (zM rfl) ?_
 obtain ⟨ha6,H⟩ := zX H
 have ha6:=of_decide_eq_true ha6
 refine wl_appendm (C:=Nd.C) xd el_Nd rfl rfl (S.sl 0) (S.rd 0) Nd.one ha6 zan zam fun s5 w4 O hw4 gw4=>?_
 replace S:=S.push 0 O (by first | (simp; done) | (simp; omega)) hw4 gw4
 clear O
 refine wd (yM rfl) (zd (zb (za (wd (zM rfl) ?_))))
 obtain ⟨r7,er7,H⟩ := zp H
 obtain ⟨_,_,T,bk⟩ := S.calln 0 ((.z 0 rfl .nil))
 refine zA (zx ca_ref03_From) zam (ref03_From_st T er7) ?_
 rintro _ w8 ⟨a10,rfl,S2⟩
 replace S:=bk _ _ _ _ S2 rfl
 refine wd (xb rfl) (wd (zo rfl rfl) (wd (zo rfl rfl) (wd (zZ rfl) (wd (zh rfl) (zd (zb (zb (za ?_))))))))
 refine wd (zk rfl) (wd (xq rfl rfl) (zd ?_))
 refine zI rfl (fun hc11=>?_) (fun hc11=>?_)
 ·replace H:=if_t hc11 H
  refine zb (za ?_)
  replace S:=S.add (Ext.refl _) (oT.nil _) (fun _ x=>x.elim)
  refine wd (zZ rfl) ?_
  replace S:=S.add (Ext.refl _) (oR.nil _) (fun _ x=>x.elim)
  refine wd (zZ rfl) (wd (zi rfl) (zd (zr ?_)))
  refine ⟨_,(rets3 (zf rfl) (zf rfl) (zf rfl)),?_⟩
  replace S:=S.arr [1,0] []
  obtain rfl:=zaq H
  exact ⟨none,none,rfl,S⟩
 replace H:=if_f hc11 H
 refine zw (zb (za (wd (zM rfl) ?_)))
 obtain ⟨r12,er12,H⟩ := zp H
 obtain ⟨_,_,T,bk⟩ := S.calln 0 ((.s 1 rfl .nil))
 refine zA (zx ca_formula_From) zam (formula_From_st T er12) ?_
 rintro _ w13 ⟨a15,rfl,S2⟩
 replace S:=bk _ _ _ _ S2 rfl
 refine wd (xb rfl) (wd (zo rfl rfl) (wd (zo rfl rfl) (wd (zZ rfl) (wd (zh rfl) (zd (zb (za ?_)))))))
 refine wd (zB rfl) (wd (zB rfl) (wd (zZ rfl) (wd (zZ rfl) (wd (zi rfl) (zd (zr ?_))))))
 refine ⟨_,(rets3 (zf rfl) (zf rfl) (zf rfl)),?_⟩
 replace S:=S.arr [0,1] []
 obtain rfl:=zaq H
 exact ⟨a15,a10,rfl,S⟩
end
section
open Gw Go.RowKit
set_option maxHeartbeats 4000000
set_option maxRecDepth 20000
variable {A:Nat→Prop} {N:Oth} {w:World}
theorem formula_Table_Atom_st {a0:Tb} {a_0:Option Addr} {a1:ByteArray} (S:St A N w w [oT a_0 a0] []) {r:Tb × Int × Int} (H:zbV.f a0 a1=some r) :
  Calls PP jP #[.pointer a_0,.string a1] w <| Rt fun v w'=>(v = .tuple #[.int .i64 r.2.1,.int .i64 r.2.2]∧St A N w w' [oT a_0 r.1] []):=by
 unfold zbV.f at H
 refine zu (n:=12) Tryz.func49 rfl rfl zao (zb (za (wd (zh rfl) (wd (zh rfl) (zd (zb (za ?_)))))))
 refine wd (zB rfl) (wd (zW rfl) (wd (vP bu_Nd (Bld.one rfl rfl (by rw [Nd.len]; decide) (Nd.set_kind _ _) (Bld.one rfl rfl (by rw [Nd.len]; decide) (Nd.set_name _ _) Bld.nil))) ?_))
 obtain ⟨r1,er1,H⟩ := zp H
 obtain ⟨_,_,T,bk⟩ := S.calln 1 ((.nil))
 refine zA (zx uk) zam (jX T er1) ?_
 rintro _ w2 ⟨rfl,S2⟩
 replace S:=bk _ _ _ _ S2 rfl
 refine wd (zo rfl rfl) (wd (zo rfl rfl) (wd (zh rfl) (wd (zh rfl) (zd (zr ?_)))))
 refine ⟨_,(xm (zf rfl) (zf rfl)),?_⟩
 obtain rfl:=zaq H
 exact ⟨rfl,S⟩
theorem yh {a0:Int} (S:St A N w w [] []) {r:Int} (H:zbW.f a0=some r) :
  Calls PP F_law14_num #[.int .i64 a0] w <| Rt fun v w'=>(v = .int .i64 r∧St A N w w' [] []):=by
 unfold zbW.f at H
 refine zu (n:=4) Tryz.func14 rfl rfl zao (zb (za (wd (zh rfl) (zd (zb (za (wd (zk rfl) ?_)))))))
 refine wd (zh rfl) (zd (zr ?_))
 refine ⟨_,(zP (zf rfl)),?_⟩
 obtain rfl:=zaq H
 exact ⟨rfl,S⟩
theorem vB {a0:ByteArray} (S:St A N w w [] []) {r:PTerm} (H:zbX.f a0=some r) :
  Calls PP F_law14_name #[.string a0] w <| Rt fun v w'=>(∃ so0:SlV,v = .agg (tmC r so0).toArray∧St A N w w' [] [ze so0 r.sub]):=by
 unfold zbX.f at H
 refine zu (n:=5) Tryz.func51 rfl rfl zao (zb (za ?_))
 refine zQ xn zam fun b2 w1 hw1=>?_
 replace S:=S.new hw1
 refine zd (zb (za (wd (zW rfl) (wd (Does.to (v' := .agg (Term.C (tmM 1 a0 SlV.nil)).toArray) (xa (vs:=[(0,.int .i64 1),(1,.string a0)]) yl (xK rfl (xK rfl rfl)) (Bld.one rfl rfl (by rw [Term.len]; decide) (Term.set_kind _ _) (Bld.one rfl rfl (by rw [Term.len]; decide) (Term.set_name _ _) Bld.nil))) rfl) ?_))))
 refine wsT rfl rfl (S.blk 0) fun w3 B hw3 zw3=>?_
 replace S:=S.store 0 B hw3
 refine zd (zr ?_)
 replace S:=S.nilTm
 refine ⟨_,(zP (rtT rfl (S.blk 0))),?_⟩
 replace S:=S.arr [] [0]
 obtain rfl:=zaq H
 exact ⟨SlV.nil,rfl,S⟩
theorem ref12_Same_gst {zcA:PTerm→PTerm→Option Bool} (zcm : ∀ {A:Nat→Prop} {N:Oth} {w:World} {a0:PTerm} {s_0:SlV} {a1:PTerm} {s_1:SlV} (S:St A N w w [] [ze s_0 a0.sub,ze s_1 a1.sub]) {r:Bool} (H:zcA a0 a1=some r),Calls PP uZ #[.agg (tmC a0 s_0).toArray,.agg (tmC a1 s_1).toArray] w <| Rt fun v w'=>(v = .bool r∧St A N w w' [] [])) {A:Nat→Prop} {N:Oth} {w:World} {a0:PTerm} {s_0:SlV} {a1:PTerm} {s_1:SlV} (S:St A N w w [] [ze s_0 a0.sub,ze s_1 a1.sub]) {k:Nat} {r:Bool} (H:zbY.g zcA k a0 a1=some r) :
  Calls PP uZ #[.agg (tmC a0 s_0).toArray,.agg (tmC a1 s_1).toArray] w <| Rt fun v w'=>(v = .bool r∧St A N w w' [] []):=by
 unfold zbY.g at H
 refine zu (n:=60) Tryz.func20 rfl rfl zao (zb (za ?_))
 refine zH rfl zam fun b2 w1 hw1=>?_
 replace S:=S.new hw1
 refine zH rfl zam fun b4 w3 hw3=>?_
 replace S:=S.new hw3
 refine wd (zi rfl) (zd (zb (zb (za (wd (zg xh rfl (o':=0) rfl) (wd (zl zU rfl ((S.blk 1).cell (Term.get_kind _))) (wd (zg xh rfl (o':=0) rfl) ?_)))))))
 refine wd (zl zU rfl ((S.blk 0).cell (Term.get_kind _))) (wd (xq rfl rfl) (wd (zy rfl) ?_))
 refine wg (fun hg=>zg xW rfl (o':=1) rfl) ?_
 refine wg (fun hg=>zl xt (zn hg) ((S.blk 1).cell (Term.get_name _))) ?_
 refine wg (fun hg=>zg xW rfl (o':=1) rfl) ?_
 refine wg (fun hg=>zl xt (zn hg) ((S.blk 0).cell (Term.get_name _))) ?_
 refine wg (fun hg=>um (zn hg) (zn hg)) (wd (xv rfl (fun hp=>(zn (xl hp)))) (wd (zy rfl) ?_))
 refine wg (fun hg=>zg vX rfl (o':=2) rfl) ?_
 refine wg (fun hg=>zl xt (zn hg) ((S.blk 1).cell (Term.get_other _))) ?_
 refine wg (fun hg=>zg vX rfl (o':=2) rfl) ?_
 refine wg (fun hg=>zl xt (zn hg) ((S.blk 0).cell (Term.get_other _))) ?_
 refine wg (fun hg=>um (zn hg) (zn hg)) (wd (xv rfl (fun hp=>(zn (xl hp)))) (wd (zy rfl) ?_))
 refine wg (fun hg=>zg vt rfl (o':=3) rfl) ?_
 refine wg (fun hg=>zl xQ (zn hg) ((S.blk 1).cell (Term.get_form _))) ?_
 refine wg (fun hg=>zg vt rfl (o':=3) rfl) ?_
 refine wg (fun hg=>zl xQ (zn hg) ((S.blk 0).cell (Term.get_form _))) ?_
 refine wg (fun hg=>xq (zn hg) (zn hg)) (wd (xv rfl (fun hp=>(zn (xl hp)))) (wd (zy rfl) ?_))
 refine wg (fun hg=>zg zD rfl (o':=4) rfl) ?_
 refine wg (fun hg=>zl zz (zn hg) ((S.blk 1).cell (Term.get_sub _))) ?_
 refine wg (fun hg=>does_lenF zq (zn hg) (S.onZ 0)) ?_
 refine wg (fun hg=>zg zD rfl (o':=4) rfl) ?_
 refine wg (fun hg=>zl zz (zn hg) ((S.blk 0).cell (Term.get_sub _))) ?_
 refine wg (fun hg=>does_lenF zq (zn hg) (S.onZ 1)) ?_
 refine wg (fun hg=>xq (zn hg) (zn hg)) (wd (xv rfl (fun hp=>(zn (xl hp)))) (zd ?_))
 refine zI rfl (fun hc5=>?_) (fun hc5=>?_)
 ·replace H:=if_t hc5 H
  refine zb (za (wd (zi rfl) (zd (zr ?_))))
  refine ⟨_,(zP (zf rfl)),?_⟩
  replace S:=S.arr [] []
  obtain rfl:=zaq H
  exact ⟨rfl,S⟩
 replace H:=if_f hc5 H
 refine zw (zb (zb (za (wd (zh rfl) (zd ?_)))))
 obtain ⟨o6,e6,Ho6⟩ := zp H
 clear H
 refine xL ([4,5] ++ rg 41 19) (fun fr W => ∃ s6:Int,o6 = .inl s6∧fr 5 = .int .i64 s6∧St A N w W [oB b4 zm (tmC a1 s_1),oB b2 zm (tmC a0 s_0)] [ze s_0 a0.sub,ze s_1 a1.sub]) ?_ ?_
 ·refine zL ?_
  refine xI (α:=Nat × Int) ([4,5] ++ rg 41 19) (fun x fr W=>iter (fun s=>zbY.b0 a0 a1 zcA s) x.1 x.2=some o6∧fr 5 = .int .i64 (x.2)∧St A N w W [oB b4 zm (tmC a1 s_1),oB b2 zm (tmC a0 s_0)] [ze s_0 a0.sub,ze s_1 a1.sub]) (fun x=>x.1) (k,0) ⟨(by dsimp only; exact e6),rfl,S⟩ ?_
  rintro ⟨m6,x6_0⟩ g6 u6 ⟨e6,q6_5,S⟩
  try dsimp only at e6
  try dsimp only at S
  try dsimp only at q6_5
  obtain ⟨m6,rfl⟩ : ∃ m,m6=m + 1:=⟨m6 - 1,by cases m6 with | zero=>cases e6 | succ m=>rfl⟩
  obtain ⟨q6,H,e6⟩ := iter_s e6
  unfold zbY.b0 at H
  try dsimp only at H
  refine zb (zb (za (wd (zk q6_5) (wd (zg zD rfl (o':=4) rfl) (wd (zl zz rfl ((S.blk 1).cell (Term.get_sub _))) (wd (does_lenF zq rfl (S.onZ 0)) (wd (xp rfl rfl) (zd ?_))))))))
  refine zI rfl (fun hc7=>?_) (fun hc7=>?_)
  rotate_left
  ·replace H:=if_f hc7 H
   refine xO ?_
   obtain rfl:=zaq H
   exact ⟨rfl,df,x6_0,e6,q6_5,S⟩
  replace H:=if_t hc7 H
  refine zw (zb ?_)
  refine zL (zb ?_)
  refine x0 10 (Ext u6) hmix zap zap (Ext.drawn _) (zC (fun v K=>zg zD rfl (o':=4) rfl) (zC (fun v K=>zl zz rfl (((S.ext K).blk 1).cell (Term.get_sub _))) (zC (fun v K=>zk q6_5) ?_)))
  obtain ⟨hi8,H⟩ := zX H
  refine zC (fun v K=>does_indexF zq rfl rfl ((S.ext K).onZ 0) (zG hi8).1 (zG hi8).2) ?_
  obtain ⟨s9,hc10,S⟩ := S.viewTerm 0 (zG hi8)
  replace S:=S
  refine zC (fun v K=>zt z1 rfl (hc10.chg K (fun x=>x)) (Term.len _)) (zC (fun v K=>zg zD rfl (o':=4) rfl) (zC (fun v K=>zl zz rfl (((S.ext K).blk 0).cell (Term.get_sub _))) (zC (fun v K=>zk q6_5) ?_)))
  obtain ⟨hi11,H⟩ := zX H
  refine zC (fun v K=>does_indexF zq rfl rfl ((S.ext K).onZ 2) (zG hi11).1 (zG hi11).2) ?_
  obtain ⟨s12,hc13,S⟩ := S.viewTerm 2 (zG hi11)
  replace S:=S
  refine zC (fun v K=>zt z1 rfl (hc13.chg K (fun x=>x)) (Term.len _)) ?_
  refine vj fun w14 K=>?_
  replace S:=S.ext K
  clear K
  obtain ⟨r15,er15,H⟩ := zp H
  obtain ⟨_,_,T,bk⟩ := S.calln 0 ((.z 1 rfl (.z 0 rfl .nil)))
  refine zA (zx uE) zam (zcm (a0:=(kd a0 x6_0)) (a1:=(kd a1 x6_0)) T er15) ?_
  rintro _ w16 ⟨rfl,S2⟩
  replace S:=bk _ _ _ _ S2 rfl
  refine wd (xf rfl) (zd ?_)
  refine zI rfl (fun hc18=>?_) (fun hc18=>?_)
  ·replace H:=if_t hc18 H
   refine zb (za (wd (zi rfl) (zd (zr ?_))))
   refine ⟨_,(zP (zf rfl)),?_⟩
   replace S:=S.arr [] []
   obtain rfl:=zaq H
   obtain rfl:=e6
   obtain rfl:=uD Ho6
   exact ⟨rfl,S⟩
  replace H:=if_f hc18 H
  refine zw (za (wd (zk q6_5) (wd (vT rfl rfl) (wd (zh rfl) (zd ?_)))))
  replace S:=S.arr [0,1] [2,3]
  obtain rfl:=zaq H
  exact ⟨rfl,df,(m6,IntKind.i64.wrap (x6_0 + 1)),⟨e6,rfl,S⟩,by dsimp only; omega⟩
 rintro g19 u20 ⟨s6,rfl,p6_5,S⟩
 have H:=Ho6
 dsimp only [aft] at H
 refine zb (za (wd (zi rfl) (zd (zr ?_))))
 refine ⟨_,(zP (zf rfl)),?_⟩
 replace S:=S.arr [] []
 obtain rfl:=zaq H
 exact ⟨rfl,S⟩
theorem jN {a0:PTerm} {s_0:SlV} {a1:PTerm} {s_1:SlV} (S:St A N w w [] [ze s_0 a0.sub,ze s_1 a1.sub]) {k:Nat} {r:Bool} (H:zbY.f k a0 a1=some r) :
  Calls PP uZ #[.agg (tmC a0 s_0).toArray,.agg (tmC a1 s_1).toArray] w <| Rt fun v w'=>(v = .bool r∧St A N w w' [] []):=by
 have main : ∀ (k:Nat) {A:Nat→Prop} {N:Oth} {w:World} {a0:PTerm} {s_0:SlV} {a1:PTerm} {s_1:SlV} (S:St A N w w [] [ze s_0 a0.sub,ze s_1 a1.sub]) {r:Bool} (H:zbY.f k a0 a1=some r),Calls PP uZ #[.agg (tmC a0 s_0).toArray,.agg (tmC a1 s_1).toArray] w <| Rt fun v w'=>(v = .bool r∧St A N w w' [] []):=by
  intro k
  induction k with
  | zero=>intro A N w a0 s_0 a1 s_1 S r H; cases H
  | succ k ih=>intro A N w a0 s_0 a1 s_1 S r H; exact ref12_Same_gst ih S H
 exact main k S H
theorem ref14_Ways_st {a0:List (List Int)} {s_0:SlV} {a1:List (List Int)} {s_1:SlV} (S:St A N w w [] [zE s_0 a0,zE s_1 a1]) {r:Bool} (H:zbZ.f a0 a1=some r) :
  Calls PP F_ref14_Ways #[s_0.v,s_1.v] w <| Rt fun v w'=>(v = .bool r∧St A N w w' [] []):=by
 unfold zbZ.f at H
 refine zu (n:=27) Tryz.func13 rfl rfl zao (zb (za (wd (zi rfl) (zd (zb (zb (za (wd (zM rfl) ?_))))))))
 refine wd (zaa vC rfl (S.onZ 0)) (wd (zM rfl) (wd (zaa vC rfl (S.onZ 1)) (wd (xq rfl rfl) (zd ?_))))
 refine zI rfl (fun hc1=>?_) (fun hc1=>?_)
 ·replace H:=if_t hc1 H
  refine zb (za (wd (zi rfl) (zd (zr ?_))))
  refine ⟨_,(zP (zf rfl)),?_⟩
  replace S:=S.arr [] []
  obtain rfl:=zaq H
  exact ⟨rfl,S⟩
 replace H:=if_f hc1 H
 refine zw (zb (zb (za (wd (zh rfl) (zd ?_)))))
 obtain ⟨o2,e2,Ho2⟩ := zp H
 clear H
 refine xL ([4,5] ++ rg 11 16) (fun fr W => ∃ s2:Unit,o2 = .inl s2∧St A N w W [] [zE s_0 a0,zE s_1 a1]) ?_ ?_
 ·refine zL ?_
  refine xI (α:=Nat × Int × Unit) ([4,5] ++ rg 11 16) (fun x fr W=>(x.1:Int)=(a0.length:Int) - x.2.1∧0 ≤ x.2.1∧forN (fun i s=>zbZ.b0 a1 a0 i) x.1 x.2.1 x.2.2=some o2∧fr 5 = .int .i64 x.2.1∧St A N w W [] [zE s_0 a0,zE s_1 a1]) (fun x=>x.1) (((a0.length:Int) - 0).toNat,0,()) ⟨(by dsimp only; have hle:=Int.natCast_nonneg (a0.length); omega),(Int.le_refl _),(by dsimp only; exact e2),rfl,S⟩ ?_
  rintro ⟨m2,i2,_⟩ g2 u2 ⟨hm2,hl2,e2,q2_i,S⟩
  try dsimp only at hm2
  try dsimp only at hl2
  try dsimp only at e2
  try dsimp only at S
  try dsimp only at q2_i
  refine zb (zb (za (wd (zk q2_i) (wd (zM rfl) (wd (zaa vC rfl (S.onZ 0)) (wd (xp rfl rfl) (zd ?_)))))))
  refine zI rfl (fun hc3=>?_) (fun hc3=>?_)
  rotate_left
  ·refine xO ?_
   have hge:(a0.length:Int) ≤ i2:=Int.not_lt.1 (of_decide_eq_false hc3)
   obtain rfl:m2=0:=by omega
   replace e2:=kV e2
   exact ⟨rfl,df,(),e2,S⟩
  refine zw ?_
  have hlt2:i2 < (a0.length:Int):=of_decide_eq_true hc3
  obtain ⟨m2,rfl⟩ : ∃ m,m2=m + 1:=⟨m2 - 1,by omega⟩
  obtain ⟨q2,H,e2⟩ := kW e2
  unfold zbZ.b0 at H
  try dsimp only at H
  have hb2:=(S.lenDZ 0)
  refine zb ?_
  refine zL (zb ?_)
  refine x0 8 (Ext u2) hmix zap zap (Ext.drawn _) (zC (fun v K=>zM rfl) (zC (fun v K=>zk q2_i) (zC (fun v K=>does_indexD vC rfl rfl ((S.ext K).onZ 0) (And.intro (show 0 ≤ i2 by omega) (show i2 < (a0.length:Int) from hlt2)).1 (And.intro (show 0 ≤ i2 by omega) (show i2 < (a0.length:Int) from hlt2)).2) ?_)))
  obtain ⟨s5,hc6,S⟩ := S.viewL_int 0 (And.intro (show 0 ≤ i2 by omega) (show i2 < (a0.length:Int) from hlt2))
  replace S:=S
  refine zC (fun v K=>zl on_L_int rfl ((hc6.chg K (fun x=>x)).get (i:=0) rfl)) (zC (fun v K=>zM rfl) (zC (fun v K=>zk q2_i) ?_))
  obtain ⟨hi7,H⟩ := zX H
  refine zC (fun v K=>does_indexD vC rfl rfl ((S.ext K).onZ 2) (zG hi7).1 (zG hi7).2) ?_
  obtain ⟨s8,hc9,S⟩ := S.viewL_int 2 (zG hi7)
  replace S:=S
  refine zC (fun v K=>zl on_L_int rfl ((hc9.chg K (fun x=>x)).get (i:=0) rfl)) ?_
  refine vj fun w10 K=>?_
  replace S:=S.ext K
  clear K
  obtain ⟨r11,er11,H⟩ := zp H
  obtain ⟨_,_,T,bk⟩ := S.calln 0 ((.z 1 rfl (.z 0 rfl .nil)))
  refine zA (zx ca_ref03_Ints) zam (ref03_Ints_st T er11) ?_
  rintro _ w12 ⟨rfl,S2⟩
  replace S:=bk _ _ _ _ S2 rfl
  refine wd (xf rfl) (zd ?_)
  refine zI rfl (fun hc14=>?_) (fun hc14=>?_)
  ·replace H:=if_t hc14 H
   refine zb (za (wd (zi rfl) (zd (zr ?_))))
   refine ⟨_,(zP (zf rfl)),?_⟩
   replace S:=S.arr [] []
   obtain rfl:=zaq H
   obtain rfl:=e2
   obtain rfl:=uD Ho2
   exact ⟨rfl,S⟩
  replace H:=if_f hc14 H
  refine zw (za (wd (zk q2_i) (wd (xi rfl rfl (c:=i2 + 1) rfl zan zan) (wd (zh rfl) (zd ?_)))))
  replace S:=S.arr [] [2,3]
  obtain rfl:=zaq H
  exact ⟨rfl,df,(m2,i2 + 1,()),⟨(by dsimp only; omega),(by dsimp only; omega),e2,rfl,S⟩,by dsimp only; omega⟩
 rintro g15 u16 ⟨s2,rfl,S⟩
 have H:=Ho2
 dsimp only [aft] at H
 refine zb (za (wd (zi rfl) (zd (zr ?_))))
 refine ⟨_,(zP (zf rfl)),?_⟩
 replace S:=S.arr [] []
 obtain rfl:=zaq H
 exact ⟨rfl,S⟩
end
section
open Gw Go.RowKit
set_option maxHeartbeats 4000000
set_option maxRecDepth 20000
theorem law14_heads_st {A:Nat→Prop} {N:Oth} {w:World}  (S:St A N w w [] [oPw]) {k:Nat} {r:Bool} (H:zca.f k  = some r) :
  Calls PP F_law14_heads #[] w <| Rt fun v w'=>(v = .bool r∧St A N w w' [] []):=by
 unfold zca.f at H
 refine zu (n:=152) Tryz.func23 rfl rfl zao (zb (za (wd (zi rfl) (zd (zb (za ?_))))))
 obtain ⟨r1,er1,H⟩ := zp H
 obtain ⟨_,_,T,bk⟩ := S.calln 0 ((.nil))
 refine zA (zx jh) zam (jm T er1) ?_
 rintro _ w2 ⟨a4,rfl,S2⟩
 replace S:=bk _ _ _ _ S2 rfl
 refine wd (zZ rfl) (zd (zb (za (wd (zB rfl) ?_))))
 obtain ⟨r5,er5,H⟩ := zp H
 obtain ⟨_,_,T,bk⟩ := S.calln 1 ((.nil))
 refine zA (zx ca_formula_Table_Atom) zam (formula_Table_Atom_st T er5) ?_
 rintro _ w6 ⟨rfl,S2⟩
 replace S:=bk _ _ _ _ S2 rfl
 refine wd (xb rfl) (wd (zo rfl rfl) (wd (zo rfl rfl) (wd (zh rfl) (wd (zh rfl) (zd (zb (za ?_)))))))
 refine wd (zB rfl) (wd (zk rfl) (wd (zk rfl) ?_))
 obtain ⟨r8,er8,H⟩ := zp H
 obtain ⟨_,_,T,bk⟩ := S.calln 1 ((.nil))
 refine zA (zx ca_formula_Table_Imp) zam (formula_Table_Imp_st T er8) ?_
 rintro _ w9 ⟨rfl,S2⟩
 replace S:=bk _ _ _ _ S2 rfl
 refine wd (xb rfl) (wd (zo rfl rfl) (wd (zo rfl rfl) (wd (zh rfl) (wd (zh rfl) (zd (zb (za ?_)))))))
 obtain ⟨r11,er11,H⟩ := zp H
 obtain ⟨_,_,T,bk⟩ := S.sub [] [] [oT a4 r8.1]
 refine zA (zx vz) zam (vB T er11) ?_
 rintro _ w12 ⟨s14,rfl,S2⟩
 replace S:=bk _ _ _ _ _ S2 rfl rfl
 refine vi (C:=Term.C) (l:=[(tmT r11 s14)]) (vs:=[.agg (tmC r11 s14).toArray]) zq uu.zero rfl rfl (fun a _=>Term.len a) zam rfl zam fun b16 w15 s17 hBw15 hw15=>?_
 replace S:=((S.lit hBw15 hw15 zao).bigTm).consTm (x:=r11) 0
 replace S:=(S.frzTm 0 0).zs [0,2,3]
 refine wd (Does.to (v' := .agg (Term.C (tmM 2 (bA #[120]) s17)).toArray) (xa (vs:=[(0,.int .i64 2),(1,.string (bA #[120])),(4,s17.v)]) yl (xK rfl (xK rfl (xK rfl rfl))) (Bld.one rfl rfl (by rw [Term.len]; decide) (Term.set_kind _ _) (Bld.one rfl rfl (by rw [Term.len]; decide) (Term.set_name _ _) (Bld.one rfl (SlV.one _ _ rfl) (by rw [Term.len]; decide) (Term.set_sub _ _) Bld.nil)))) rfl) ?_
 refine zQ xn zam fun b19 w18 hw18=>?_
 replace S:=S.new hw18
 refine wsT rfl rfl (S.blk 0) fun w20 B hw20 zw20=>?_
 replace S:=S.store 0 B hw20
 refine zd (zb ?_)
 obtain ⟨r24,er24,H⟩ := zp H
 refine yX 8 ⟨fun _ _=>True,fun _ _ _=>True,fun i v _=>match i with
  | 0=>v=Value.int .i64 r8.2.1
  | 1=>v=Value.agg (Term.C (tmM 2 (bA #[120]) s17)).toArray
  | _=>True⟩ (fun L g v => ∃ b32:Nat,∃ O34:List OA,∃ Z33:List OA,(∀ z ∈ [ze s17 ([r11]),ze s14 r11.sub,oPw],z ∈ Z33)∧Made L g Z33 2 41 (fun (c:SlV)=>c.v) (fun (c:SlV)=>[ze c ([(ptM 2 (bA #[120]) [r11])])])∧Made L g Z33 3 42 (fun (c:SlV)=>Value.agg (Term.C (tmN 11 r8.2.1 c)).toArray) (fun (c:SlV)=>[ze c ([(ptM 2 (bA #[120]) [r11])])])∧Made L g Z33 4 43 (fun (c:SlV)=>Value.agg (tmC r24 c).toArray) (fun (c:SlV)=>[ze c r24.sub])∧Made L g Z33 5 44 (fun (c:SlV)=>c.v) (fun (c:SlV)=>[ze c ([(ptN 11 r8.2.1 [(ptM 2 (bA #[120]) [r11])]),r24])])∧Made L g Z33 6 45 (fun (c:SlV)=>Value.agg (Term.C (tmN 3 0 c)).toArray) (fun (c:SlV)=>[ze c ([(ptN 11 r8.2.1 [(ptM 2 (bA #[120]) [r11])]),r24])])∧(L 7=true→g 7=Value.pointer (some ⟨b32,0,none⟩))∧O34=((bif L 7 then [oB b32 zm (Term.C tmZ)] else []) ++ [oB b19 zm (Term.C (tmM 2 (bA #[120]) s17)),oT a4 r8.1])∧St A N w v O34 Z33) hmix zap (fun _ _ _ _ _ _ _ hv=>hv) (fun g=>⟨0,_,_,fun _ h=>h,Made.no,Made.no,Made.no,Made.no,Made.no,(fun h=>by cases h),rfl,S.ext (Ext.drawn _)⟩) ⟨?_,?_,?_,?_,?_,?_,?_,?_,trivial⟩ ?_
 ·rintro L g v hL hcl hclo ⟨b32,O34,Z33,hZ,hm2,hm3,hm4,hm5,hm6,hk7,hO,S⟩ 
  have SR:St A N w v [oB b19 zm (Term.C (tmM 2 (bA #[120]) s17)),oT a4 r8.1] (ze s17 ([r11]) :: ze s14 r11.sub :: oPw :: Z33):=by
   have S2:=S.zneed hZ
   rw [hO] at S2
   exact S2.drops
  refine wd (zk rfl) ?_
  exact w4 rfl ⟨b32,O34,Z33,hZ,hm2.keep rfl rfl tl0,hm3.keep rfl rfl tl0,hm4.keep rfl rfl tl0,hm5.keep rfl rfl tl0,hm6.keep rfl rfl tl0,(kpU hk7),by rw [hO]; simp only [pN L 0 7],S⟩
 ·rintro L g v hL hcl hclo ⟨b32,O34,Z33,hZ,hm2,hm3,hm4,hm5,hm6,hk7,hO,S⟩ 
  have SR:St A N w v [oB b19 zm (Term.C (tmM 2 (bA #[120]) s17)),oT a4 r8.1] (ze s17 ([r11]) :: ze s14 r11.sub :: oPw :: Z33):=by
   have S2:=S.zneed hZ
   rw [hO] at S2
   exact S2.drops
  refine wd (ldT rfl (SR.blk 0)) ?_
  exact w4 rfl ⟨b32,O34,Z33,hZ,hm2.keep rfl rfl tl0,hm3.keep rfl rfl tl0,hm4.keep rfl rfl tl0,hm5.keep rfl rfl tl0,hm6.keep rfl rfl tl0,(kpU hk7),by rw [hO]; simp only [pN L 1 7],S⟩
 ·rintro L g v hL hcl hclo ⟨b32,O34,Z33,hZ,hm2,hm3,hm4,hm5,hm6,hk7,hO,S⟩ hv1
  replace S:=(S.zneed hZ)
  refine vi (C:=Term.C) (l:=[(tmM 2 (bA #[120]) s17)]) (vs:=[.agg (Term.C (tmM 2 (bA #[120]) s17)).toArray]) zq uu.zero (xK hv1 rfl) rfl (fun a _=>Term.len a) zam rfl zam fun b36 w35 s37 hBw35 hw35=>?_
  replace S:=((S.lit hBw35 hw35 zao).bigTm).consTm (x:=(ptM 2 (bA #[120]) [r11])) 0
  replace S:=S.frzTm 0 0
  exact w4 trivial ⟨b32,O34,_,(fun z h=>tl5 z (hZ z h)),Made.one (val:=(fun (c:SlV)=>c.v)) (ps:=(fun (c:SlV)=>[ze c ([(ptM 2 (bA #[120]) [r11])])])) s37 (xX List.mem_cons_self yw),hm3.keep rfl rfl tl5,hm4.keep rfl rfl tl5,hm5.keep rfl rfl tl5,hm6.keep rfl rfl tl5,(kpU hk7),by rw [hO]; simp only [pN L 2 7],S⟩
 ·rintro L g v hL hcl hclo ⟨b32,O34,Z33,hZ,hm2,hm3,hm4,hm5,hm6,hk7,hO,S⟩ hv0 _
  obtain ⟨s23,he2,hp2⟩ := hm2 (hcl 2 zap)
  replace S:=(S.zneed (xD (l1:=[ze s23 ([(ptM 2 (bA #[120]) [r11])])]) hp2 hZ))
  refine wd (Does.to (v' := .agg (Term.C (tmN 11 r8.2.1 s23)).toArray) (xa (vs:=[(0,.int .i64 11),(3,.int .i64 r8.2.1),(4,s23.v)]) yl (xK rfl (xK hv0 (xK he2 rfl))) (Bld.one rfl rfl (by rw [Term.len]; decide) (Term.set_kind _ _) (Bld.one rfl rfl (by rw [Term.len]; decide) (Term.set_form _ _) (Bld.one rfl (SlV.one _ _ rfl) (by rw [Term.len]; decide) (Term.set_sub _ _) Bld.nil)))) rfl) ?_
  exact w4 trivial ⟨b32,O34,_,(fun z h=>tl4 z (hZ z h)),hm2.keep rfl rfl tl4,Made.one (val:=(fun (c:SlV)=>Value.agg (Term.C (tmN 11 r8.2.1 c)).toArray)) (ps:=(fun (c:SlV)=>[ze c ([(ptM 2 (bA #[120]) [r11])])])) s23 (xX List.mem_cons_self yw),hm4.keep rfl rfl tl4,hm5.keep rfl rfl tl4,hm6.keep rfl rfl tl4,(kpU hk7),by rw [hO]; simp only [pN L 3 7],S⟩
 ·rintro L g v hL hcl hclo ⟨b32,O34,Z33,hZ,hm2,hm3,hm4,hm5,hm6,hk7,hO,S⟩ 
  replace S:=(S.zneed hZ)
  obtain ⟨_,_,T,bk⟩ := S.sub [] [] (O34)
  refine zA (zx vz) zam (vB T er24) ?_
  rintro _ w39 ⟨s41,rfl,S2⟩
  replace S:=bk _ _ _ _ _ S2 rfl rfl
  exact w4 trivial ⟨b32,O34,_,(fun z h=>tl4 z (hZ z h)),hm2.keep rfl rfl tl4,hm3.keep rfl rfl tl4,Made.one (val:=(fun (c:SlV)=>Value.agg (tmC r24 c).toArray)) (ps:=(fun (c:SlV)=>[ze c r24.sub])) s41 (xX List.mem_cons_self yw),hm5.keep rfl rfl tl4,hm6.keep rfl rfl tl4,(kpU hk7),by rw [hO]; simp only [pN L 4 7],S⟩
 ·rintro L g v hL hcl hclo ⟨b32,O34,Z33,hZ,hm2,hm3,hm4,hm5,hm6,hk7,hO,S⟩ _ _
  obtain ⟨s23,he3,hp3⟩ := hm3 (hcl 3 zap)
  obtain ⟨s27,he4,hp4⟩ := hm4 (hcl 4 zap)
  replace S:=(S.zneed (xD (l1:=[ze s23 ([(ptM 2 (bA #[120]) [r11])])]) hp3 (xD (l1:=[ze s27 r24.sub]) hp4 hZ)))
  refine vi (C:=Term.C) (l:=[(tmN 11 r8.2.1 s23),(tmT r24 s27)]) (vs:=[.agg (Term.C (tmN 11 r8.2.1 s23)).toArray,.agg (tmC r24 s27).toArray]) zq uu.zero (xK he3 (xK he4 rfl)) rfl (fun a _=>Term.len a) zam rfl zam fun b43 w42 s44 hBw42 hw42=>?_
  replace S:=((S.lit hBw42 hw42 zao).bigTm).consTm (x:=r24) 1
  replace S:=(S.consTm (x:=(ptN 11 r8.2.1 [(ptM 2 (bA #[120]) [r11])])) 0).frzTm 0 0
  exact w4 trivial ⟨b32,O34,_,(fun z h=>tl7 z (hZ z h)),hm2.keep rfl rfl tl7,hm3.keep rfl rfl tl7,hm4.keep rfl rfl tl7,Made.one (val:=(fun (c:SlV)=>c.v)) (ps:=(fun (c:SlV)=>[ze c ([(ptN 11 r8.2.1 [(ptM 2 (bA #[120]) [r11])]),r24])])) s44 (xX List.mem_cons_self yw),hm6.keep rfl rfl tl7,(kpU hk7),by rw [hO]; simp only [pN L 5 7],S⟩
 ·rintro L g v hL hcl hclo ⟨b32,O34,Z33,hZ,hm2,hm3,hm4,hm5,hm6,hk7,hO,S⟩ _
  obtain ⟨s30,he5,hp5⟩ := hm5 (hcl 5 zap)
  replace S:=(S.zneed (xD (l1:=[ze s30 ([(ptN 11 r8.2.1 [(ptM 2 (bA #[120]) [r11])]),r24])]) hp5 hZ))
  refine wd (Does.to (v' := .agg (Term.C (tmN 3 0 s30)).toArray) (xa (vs:=[(0,.int .i64 3),(4,s30.v)]) yl (xK rfl (xK he5 rfl)) (Bld.one rfl rfl (by rw [Term.len]; decide) (Term.set_kind _ _) (Bld.one rfl (SlV.one _ _ rfl) (by rw [Term.len]; decide) (Term.set_sub _ _) Bld.nil))) rfl) ?_
  exact w4 trivial ⟨b32,O34,_,(fun z h=>tl4 z (hZ z h)),hm2.keep rfl rfl tl4,hm3.keep rfl rfl tl4,hm4.keep rfl rfl tl4,hm5.keep rfl rfl tl4,Made.one (val:=(fun (c:SlV)=>Value.agg (Term.C (tmN 3 0 c)).toArray)) (ps:=(fun (c:SlV)=>[ze c ([(ptN 11 r8.2.1 [(ptM 2 (bA #[120]) [r11])]),r24])])) s30 (xX List.mem_cons_self yw),(kpU hk7),by rw [hO]; simp only [pN L 6 7],S⟩
 ·rintro L g v hL hcl hclo ⟨b32,O34,Z33,hZ,hm2,hm3,hm4,hm5,hm6,hk7,hO,S⟩ 
  have hl7:L 7=false:=hL
  have hOP : ∃ P Y,P=[]∧Y=[oB b19 zm (Term.C (tmM 2 (bA #[120]) s17)),oT a4 r8.1]∧O34=P ++ ([] ++ Y):=⟨_,_,rfl,rfl,by rw [hO]; simp only [hl7,cd2,la2]⟩
  obtain ⟨P,Y,hP,hY,hPY⟩ := hOP
  rw [hPY] at S
  replace S:=S
  refine zQ xn zam fun b46 w45 hw45=>?_
  replace S:=S.new hw45
  refine w4 trivial ⟨b46,P ++ ([oB b46 zm (Term.C tmZ)] ++ Y),_,hZ,hm2.keep rfl rfl tl0,hm3.keep rfl rfl tl0,hm4.keep rfl rfl tl0,hm5.keep rfl rfl tl0,hm6.keep rfl rfl tl0,(fun _=>upd_same _ _ _),?_,S.ins (P:=[oB b46 zm (Term.C tmZ)])⟩
  rw [hP,hY]; simp only [xR (L:=L) (i:=7),cd2,la2]
 rintro L g w47 hLm ⟨b32,O34,Z33,hZ,hm2,hm3,hm4,hm5,hm6,hk7,hO,S⟩ hv48_0 hv48_1 _ _ _ _ _ _
 have hLt : ∀ j,j < 8→L j=true:=fun j hj=>by rw [hLm]; exact decide_eq_true hj
 obtain ⟨s23,hv48_3,hp3⟩ := hm3 (hLt 3 zam)
 obtain ⟨s27,hv48_4,hp4⟩ := hm4 (hLt 4 zam)
 obtain ⟨s30,hv48_6,hp6⟩ := hm6 (hLt 6 zam)
 have hv48_7:=hk7 (hLt 7 zam)
 simp only [hLt 7 zam,cond_true,List.nil_append,List.cons_append] at hO
 rw [hO] at S
 replace S:=S.pickZ (xD (l1:=[ze s23 ([(ptM 2 (bA #[120]) [r11])])]) hp3 (xD (l1:=[ze s27 r24.sub]) hp4 (xD (l1:=[ze s30 ([(ptN 11 r8.2.1 [(ptM 2 (bA #[120]) [r11])]),r24])]) hp6 hZ)))
 clear hp3 hp4 hp6 hZ hm2 hm3 hm4 hm5 hm6
 refine wsT hv48_7 hv48_6 (S.blk 0) fun w49 B hw49 zw49=>?_
 replace S:=S.store 0 B hw49
 refine zd (zb (za (wd (zB rfl) (wd (zt z1 hv48_7 ((S.blk 0).all _ (Term.len _)) (Term.len _)) ?_))))
 replace S:=S.nilZ 1 IC
 obtain ⟨r50,er50,H⟩ := zp H
 replace S:=S.frzO 2
 let LT4:List OA:=[oB b32 zm (Term.C (tmN 3 0 s30)),oB b19 zm (Term.C (tmM 2 (bA #[120]) s17))]
 obtain ⟨_,_,T,bk⟩ := S.sub [0,4,1,7] [] LT4
 refine zA (zK ca_reduce_Do (zN rfl (zN rfl (zN SlV.nil_eq rfl)))) zam (reduce_Do_st (a1:=(ptN 3 0 [(ptN 11 r8.2.1 [(ptM 2 (bA #[120]) [r11])]),r24])) T er50) ?_
 rintro _ w51 ⟨s53,rfl,S2⟩
 replace S:=bk _ _ _ _ _ S2 rfl rfl
 refine wd (xb rfl) (wd (zo rfl rfl) (wd (zo rfl rfl) ?_))
 refine zQ xn zam fun b55 w54 hw54=>?_
 replace S:=S.new hw54
 refine wsT rfl rfl (S.blk 0) fun w56 B hw56 zw56=>?_
 replace S:=S.store 0 B hw56
 refine wd (zh rfl) (zd (zb (za (wd (zB rfl) (wd (ldT rfl (S.blk 0)) ?_)))))
 obtain ⟨r57,er57,H⟩ := zp H
 obtain ⟨_,_,T,bk⟩ := S.calln 0 ((.z 1 rfl (.z 0 rfl (.z 8 rfl .nil))))
 refine zA (zx kI) zam (kM (a1:=r50.1) T er57) ?_
 rintro _ w58 ⟨s60,rfl,S2⟩
 replace S:=bk _ _ _ _ S2 rfl
 refine wd (xb rfl) (wd (zo rfl rfl) (wd (zo rfl rfl) (wd (yM rfl) (wd (zh rfl) (zd (zb (za ?_)))))))
 refine wd (zB rfl) (wd (zt z1 hv48_7 ((S.blk 2).all _ (Term.len _)) (Term.len _)) ?_)
 obtain ⟨r61,er61,H⟩ := zp H
 obtain ⟨_,_,T,bk⟩ := S.sub [1,5,8] [] (zE s60 r57.1 :: oB b55 zm (tmC r50.1 s53) :: LT4)
 refine zA (zx kR) zam (kZ (a1:=(ptN 3 0 [(ptN 11 r8.2.1 [(ptM 2 (bA #[120]) [r11])]),r24])) T er61) ?_
 rintro _ w62 ⟨s64,rfl,S2⟩
 replace S:=bk _ _ _ _ _ S2 rfl rfl
 refine wd (xb rfl) (wd (zo rfl rfl) (wd (zo rfl rfl) (wd (zo rfl rfl) (wd (zo rfl rfl) ?_))))
 refine zQ xn zam fun b66 w65 hw65=>?_
 replace S:=S.new hw65
 refine wsT rfl rfl (S.blk 0) fun w67 B hw67 zw67=>?_
 replace S:=S.store 0 B hw67
 refine wd (zh rfl) (wd (zi rfl) (wd (zh rfl) (zd (zb (za (wd (zt z1 hv48_7 ((S.blk 3).all _ (Term.len _)) (Term.len _)) ?_))))))
 obtain ⟨r68,er68,H⟩ := zp H
 let LT3:List OA:=(oB b66 zm (tmC r61.1 s64) :: zE s60 r57.1 :: oB b55 zm (tmC r50.1 s53) :: LT4)
 obtain ⟨_,_,T,bk⟩ := S.sub [6] [] LT3
 refine zA (zx ca_reduce_Strip) zam (reduce_Strip_st (a0:=(ptN 3 0 [(ptN 11 r8.2.1 [(ptM 2 (bA #[120]) [r11])]),r24])) T er68) ?_
 rintro _ w69 ⟨s71,rfl,S2⟩
 replace S:=bk _ _ _ _ _ S2 rfl rfl
 refine wd (xb rfl) (wd (zo rfl rfl) (wd (zo rfl rfl) ?_))
 refine zQ xn zam fun b73 w72 hw72=>?_
 replace S:=S.new hw72
 refine wsT rfl rfl (S.blk 0) fun w74 B hw74 zw74=>?_
 replace S:=S.store 0 B hw74
 refine wd (zh rfl) (zd (zb (za (wd (zB rfl) ?_))))
 obtain ⟨r75,er75,H⟩ := zp H
 obtain ⟨_,_,T,bk⟩ := S.sub [] [] (oB b73 zm (tmC r68.1 s71) :: LT3)
 refine zA (zx vz) zam (vB T er75) ?_
 rintro _ w76 ⟨s78,rfl,S2⟩
 replace S:=bk _ _ _ _ _ S2 rfl rfl
 obtain ⟨r79,er79,H⟩ := zp H
 obtain ⟨_,_,T,bk⟩ := S.calln 0 ((.z 4 rfl (.z 0 rfl (.z 11 rfl .nil))))
 refine zA (zx ca_reduce_Normal) zam (reduce_Normal_st (a1:=r75) T er79) ?_
 rintro _ w80 ⟨rfl,S2⟩
 replace S:=bk _ _ _ _ S2 rfl
 refine wd (xb rfl) (wd (zo rfl rfl) (wd (zo rfl rfl) (wd (zi rfl) (wd (zh rfl) (zd (zb (za ?_)))))))
 refine wd (zB rfl) ?_
 obtain ⟨r82,er82,H⟩ := zp H
 obtain ⟨_,_,T,bk⟩ := S.sub [] [] (oB b73 zm (tmC r68.1 s71) :: LT3)
 refine zA (zx vz) zam (vB T er82) ?_
 rintro _ w83 ⟨s85,rfl,S2⟩
 replace S:=bk _ _ _ _ _ S2 rfl rfl
 replace S:=S.nilZ 1 IC
 obtain ⟨r86,er86,H⟩ := zp H
 obtain ⟨_,_,T,bk⟩ := S.sub [6,1,0,13] [] (oB b73 zm (tmC r68.1 s71) :: LT3)
 refine zA (zK ca_reduce_Do (zN rfl (zN rfl (zN SlV.nil_eq rfl)))) zam (reduce_Do_st (a1:=r82) T er86) ?_
 rintro _ w87 ⟨s89,rfl,S2⟩
 replace S:=bk _ _ _ _ _ S2 rfl rfl
 refine wd (xb rfl) (wd (zo rfl rfl) (wd (zo rfl rfl) ?_))
 refine zQ xn zam fun b91 w90 hw90=>?_
 replace S:=S.new hw90
 refine wsT rfl rfl (S.blk 0) fun w92 B hw92 zw92=>?_
 replace S:=S.store 0 B hw92
 refine wd (zh rfl) (zd (zb (za (wd (zk rfl) (wd (zk rfl) ?_)))))
 obtain ⟨r93,er93,H⟩ := zp H
 obtain ⟨_,_,T,bk⟩ := S.sub [] [] (oB b91 zm (tmC r86.1 s89) :: oB b73 zm (tmC r68.1 s71) :: LT3)
 refine zA (zx vz) zam (vB T er93) ?_
 rintro _ w94 ⟨s96,rfl,S2⟩
 replace S:=bk _ _ _ _ _ S2 rfl rfl
 refine vi (C:=Term.C) (l:=[(tmT r93 s96)]) (vs:=[.agg (tmC r93 s96).toArray]) zq uu.zero rfl rfl (fun a _=>Term.len a) zam rfl zam fun b98 w97 s99 hBw97 hw97=>?_
 replace S:=((S.lit hBw97 hw97 zao).bigTm).consTm (x:=r93) 0
 replace S:=(S.frzTm 0 0).zs ([0] ++ rg 2 16)
 refine wd (Does.to (v' := .agg (Term.C (tmN 11 r5.2.1 s99)).toArray) (xa (vs:=[(0,.int .i64 11),(3,.int .i64 r5.2.1),(4,s99.v)]) yl (xK rfl (xK rfl (xK rfl rfl))) (Bld.one rfl rfl (by rw [Term.len]; decide) (Term.set_kind _ _) (Bld.one rfl rfl (by rw [Term.len]; decide) (Term.set_form _ _) (Bld.one rfl (SlV.one _ _ rfl) (by rw [Term.len]; decide) (Term.set_sub _ _) Bld.nil)))) rfl) ?_
 refine vi (C:=Term.C) (l:=[(tmN 11 r5.2.1 s99)]) (vs:=[.agg (Term.C (tmN 11 r5.2.1 s99)).toArray]) zq uu.zero rfl rfl (fun a _=>Term.len a) zam rfl zam fun b101 w100 s102 hBw100 hw100=>?_
 replace S:=((S.lit hBw100 hw100 zao).bigTm).consTm (x:=(ptN 11 r5.2.1 [r93])) 0
 replace S:=(S.frzTm 0 0).zs ([0] ++ rg 2 17)
 refine wd (Does.to (v' := .agg (Term.C (tmN 11 r5.2.1 s102)).toArray) (xa (vs:=[(0,.int .i64 11),(3,.int .i64 r5.2.1),(4,s102.v)]) yl (xK rfl (xK rfl (xK rfl rfl))) (Bld.one rfl rfl (by rw [Term.len]; decide) (Term.set_kind _ _) (Bld.one rfl rfl (by rw [Term.len]; decide) (Term.set_form _ _) (Bld.one rfl (SlV.one _ _ rfl) (by rw [Term.len]; decide) (Term.set_sub _ _) Bld.nil)))) rfl) ?_
 refine zQ xn zam fun b104 w103 hw103=>?_
 replace S:=S.new hw103
 refine wsT rfl rfl (S.blk 0) fun w105 B hw105 zw105=>?_
 replace S:=S.store 0 B hw105
 refine zd (zb ?_)
 obtain ⟨r130,er130,H⟩ := zp H
 obtain ⟨hg133,H⟩ := zX H
 obtain ⟨r134,er134,H⟩ := zp H
 obtain ⟨hg137,H⟩ := zX H
 obtain ⟨r138,er138,H⟩ := zp H
 obtain ⟨hg141,H⟩ := zX H
 obtain ⟨r148,er148,H⟩ := zp H
 obtain ⟨hg151,H⟩ := zX H
 obtain ⟨r152,er152,H⟩ := zp H
 obtain ⟨hg155,H⟩ := zX H
 obtain ⟨hg156,H⟩ := zX H
 obtain ⟨hg157,H⟩ := zX H
 obtain ⟨r158,er158,H⟩ := zp H
 obtain ⟨r162,er162,H⟩ := zp H
 obtain ⟨hg165,H⟩ := zX H
 obtain ⟨r166,er166,H⟩ := zp H
 obtain ⟨hg169,H⟩ := zX H
 let LT1:List OA:=[ze s102 ([(ptN 11 r5.2.1 [r93])]),ze s99 ([r93]),ze s96 r93.sub,ze s89 r86.1.sub,fS 1 IC SlV.nil ([]),ze s85 r82.sub,ze s78 r75.sub,ze s71 r68.1.sub,ze s64 r61.1.sub,ze s53 r50.1.sub,oT a4 r8.1,fS 1 IC SlV.nil ([]),ze s23 ([(ptM 2 (bA #[120]) [r11])]),ze s27 r24.sub,ze s30 ([(ptN 11 r8.2.1 [(ptM 2 (bA #[120]) [r11])]),r24]),ze s17 ([r11]),ze s14 r11.sub,oPw]
 let LT2:List OA:=(oB b104 zm (Term.C (tmN 11 r5.2.1 s102)) :: oB b91 zm (tmC r86.1 s89) :: oB b73 zm (tmC r68.1 s71) :: LT3)
 refine yX 47 ⟨fun _ _=>True,fun _ _ _=>True,fun i v _=>match i with
  | 0=>v=Value.int .i64 r50.2
  | 1=>v=Value.int .i64 r130
  | 2=>v=Value.bool (decide (r130=0))
  | 3=>v=Value.bool (decide (r130=0))
  | 4=>v=Value.agg (tmC r50.1 s53).toArray
  | 5=>v=Value.agg (Term.C (tmN 11 r5.2.1 s102)).toArray
  | 6=>v=Value.bool r134
  | 7=>v=Value.bool ((decide (r130=0)) && r134)
  | 8=>v=Value.bool ((decide (r130=0)) && r134)
  | 9=>v=Value.int .i64 r57.2
  | 10=>v=Value.int .i64 r138
  | 11=>v=Value.bool (decide (r138=0))
  | 12=>v=Value.bool (((decide (r130=0)) && r134) && (decide (r138=0)))
  | 13=>v=Value.bool (((decide (r130=0)) && r134) && (decide (r138=0)))
  | 14=>v=s60.v
  | 17=>v=Value.bool r148
  | 18=>v=Value.bool ((((decide (r130=0)) && r134) && (decide (r138=0))) && r148)
  | 19=>v=Value.bool ((((decide (r130=0)) && r134) && (decide (r138=0))) && r148)
  | 20=>v=Value.int .i64 r61.2.2.2
  | 21=>v=Value.int .i64 r152
  | 22=>v=Value.bool (decide (r152=0))
  | 23=>v=Value.bool (((((decide (r130=0)) && r134) && (decide (r138=0))) && r148) && (decide (r152=0)))
  | 24=>v=Value.bool (((((decide (r130=0)) && r134) && (decide (r138=0))) && r148) && (decide (r152=0)))
  | 25=>v=Value.int .i64 r61.2.1
  | 26=>v=Value.bool (decide (r61.2.1=3))
  | 27=>v=Value.bool ((((((decide (r130=0)) && r134) && (decide (r138=0))) && r148) && (decide (r152=0))) && (decide (r61.2.1=3)))
  | 28=>v=Value.bool ((((((decide (r130=0)) && r134) && (decide (r138=0))) && r148) && (decide (r152=0))) && (decide (r61.2.1=3)))
  | 29=>v=Value.bool r61.2.2.1
  | 30=>v=Value.bool (((((((decide (r130=0)) && r134) && (decide (r138=0))) && r148) && (decide (r152=0))) && (decide (r61.2.1=3))) && r61.2.2.1)
  | 31=>v=Value.bool (((((((decide (r130=0)) && r134) && (decide (r138=0))) && r148) && (decide (r152=0))) && (decide (r61.2.1=3))) && r61.2.2.1)
  | 32=>v=Value.agg (tmC r61.1 s64).toArray
  | 34=>v=Value.bool r162
  | 35=>v=Value.bool ((((((((decide (r130=0)) && r134) && (decide (r138=0))) && r148) && (decide (r152=0))) && (decide (r61.2.1=3))) && r61.2.2.1) && r162)
  | 36=>v=Value.bool ((((((((decide (r130=0)) && r134) && (decide (r138=0))) && r148) && (decide (r152=0))) && (decide (r61.2.1=3))) && r61.2.2.1) && r162)
  | 37=>v=Value.int .i64 r68.2
  | 38=>v=Value.int .i64 r166
  | 39=>v=Value.bool (decide (r166=0))
  | 40=>v=Value.bool (((((((((decide (r130=0)) && r134) && (decide (r138=0))) && r148) && (decide (r152=0))) && (decide (r61.2.1=3))) && r61.2.2.1) && r162) && (decide (r166=0)))
  | 41=>v=Value.bool (((((((((decide (r130=0)) && r134) && (decide (r138=0))) && r148) && (decide (r152=0))) && (decide (r61.2.1=3))) && r61.2.2.1) && r162) && (decide (r166=0)))
  | 42=>v=Value.agg (tmC r68.1 s71).toArray
  | 43=>v=Value.agg (Term.C (tmM 2 (bA #[120]) s17)).toArray
  | _=>True⟩ (fun L g v=>bif L 45 then (∃ (s144:SlV) (s147:SlV) (s161:SlV) (s173:SlV) (s176:SlV),(L 15=true→g 105=s144.v)∧(L 16=true→g 106=s147.v)∧(L 33=true→g 123=Value.agg (tmC r158 s161).toArray)∧(L 44=true→g 134=Value.agg (tmC r158 s173).toArray)∧(L 45=true→g 135=s176.v)∧(L 46=true→g 136=Value.agg (Term.C (tmN 3 0 s176)).toArray)∧St A N w v (zE s147 ([([]:List Int),[0]]) :: LT2) (ze s176 ([(ptM 2 (bA #[120]) [r11]),r158]) :: ze s173 r158.sub :: ze s161 r158.sub :: LT1)) else bif L 44 then (∃ (s144:SlV) (s147:SlV) (s161:SlV) (s173:SlV),(L 15=true→g 105=s144.v)∧(L 16=true→g 106=s147.v)∧(L 33=true→g 123=Value.agg (tmC r158 s161).toArray)∧(L 44=true→g 134=Value.agg (tmC r158 s173).toArray)∧St A N w v (zE s147 ([([]:List Int),[0]]) :: LT2) (ze s173 r158.sub :: ze s161 r158.sub :: LT1)) else bif L 33 then (∃ (s144:SlV) (s147:SlV) (s161:SlV),(L 15=true→g 105=s144.v)∧(L 16=true→g 106=s147.v)∧(L 33=true→g 123=Value.agg (tmC r158 s161).toArray)∧St A N w v (zE s147 ([([]:List Int),[0]]) :: LT2) (ze s161 r158.sub :: LT1)) else bif L 17 then (∃ (s144:SlV) (s147:SlV),(L 15=true→g 105=s144.v)∧(L 16=true→g 106=s147.v)∧St A N w v (zE s147 ([([]:List Int),[0]]) :: LT2) LT1) else bif L 16 then (∃ (s144:SlV) (s147:SlV),(L 15=true→g 105=s144.v)∧(L 16=true→g 106=s147.v)∧St A N w v (oS xw 1 LC s147 ([SlV.nil,s144]) :: oS xy 1 IC s144 ([0]) :: LT2) LT1) else bif L 15 then (∃ (s144:SlV),(L 15=true→g 105=s144.v)∧St A N w v (oS xy 1 IC s144 ([0]) :: LT2) LT1) else (St A N w v LT2 LT1)) hmix zap (fun _ _ _ _ _ _ _ hv=>hv) (fun g=>S.ext (Ext.drawn _)) ⟨?_,?_,?_,?_,?_,?_,?_,?_,?_,?_,?_,?_,?_,?_,?_,?_,?_,?_,?_,?_,?_,?_,?_,?_,?_,?_,?_,?_,?_,?_,?_,?_,?_,?_,?_,?_,?_,?_,?_,?_,?_,?_,?_,?_,?_,?_,?_,trivial⟩ ?_
 ·rintro L g v hL hcl hclo hT 
  have hl15:=clF hL (hclo 15 0 · zap)
  have hl16:=clF hL (hclo 16 0 · zap)
  have hl17:=clF hL (hclo 17 0 · zap)
  have hl33:=clF hL (hclo 33 0 · zap)
  have hl44:=clF hL (hclo 44 0 · zap)
  have hl45:=clF hL (hclo 45 0 · zap)
  simp only [hl15,hl16,hl17,hl33,hl44,hl45,cd2] at hT
  replace S:=hT
  refine wd (zk rfl) ?_
  exact w4 rfl (by simp only [pN L 0 15,pN L 0 16,pN L 0 17,pN L 0 33,pN L 0 44,pN L 0 45,hl15,hl16,hl17,hl33,hl44,hl45,cd2]; exact S)
 ·rintro L g v hL hcl hclo hT hv0
  have hl15:=clF hL (hclo 15 1 · zap)
  have hl16:=clF hL (hclo 16 1 · zap)
  have hl17:=clF hL (hclo 17 1 · zap)
  have hl33:=clF hL (hclo 33 1 · zap)
  have hl44:=clF hL (hclo 44 1 · zap)
  have hl45:=clF hL (hclo 45 1 · zap)
  simp only [hl15,hl16,hl17,hl33,hl44,hl45,cd2] at hT
  replace S:=hT
  obtain ⟨_,_,T,bk⟩ := S.calln 0 ((.nil))
  refine zA (zK yg (zN hv0 rfl)) zam (yh T er130) ?_
  rintro _ w178 ⟨rfl,S2⟩
  replace S:=bk _ _ _ _ S2 rfl
  exact w4 rfl (by simp only [pN L 1 15,pN L 1 16,pN L 1 17,pN L 1 33,pN L 1 44,pN L 1 45,hl15,hl16,hl17,hl33,hl44,hl45,cd2]; exact S)
 ·rintro L g v hL hcl hclo hT hv1
  have hl15:=clF hL (hclo 15 2 · zap)
  have hl16:=clF hL (hclo 16 2 · zap)
  have hl17:=clF hL (hclo 17 2 · zap)
  have hl33:=clF hL (hclo 33 2 · zap)
  have hl44:=clF hL (hclo 44 2 · zap)
  have hl45:=clF hL (hclo 45 2 · zap)
  simp only [hl15,hl16,hl17,hl33,hl44,hl45,cd2] at hT
  replace S:=hT
  refine wd (zR hv1 rfl) ?_
  exact w4 rfl (by simp only [pN L 2 15,pN L 2 16,pN L 2 17,pN L 2 33,pN L 2 44,pN L 2 45,hl15,hl16,hl17,hl33,hl44,hl45,cd2]; exact S)
 ·rintro L g v hL hcl hclo hT hv2
  have hl15:=clF hL (hclo 15 3 · zap)
  have hl16:=clF hL (hclo 16 3 · zap)
  have hl17:=clF hL (hclo 17 3 · zap)
  have hl33:=clF hL (hclo 33 3 · zap)
  have hl44:=clF hL (hclo 44 3 · zap)
  have hl45:=clF hL (hclo 45 3 · zap)
  simp only [hl15,hl16,hl17,hl33,hl44,hl45,cd2] at hT
  replace S:=hT
  refine wd (zy hv2) ?_
  exact w4 rfl (by simp only [pN L 3 15,pN L 3 16,pN L 3 17,pN L 3 33,pN L 3 44,pN L 3 45,hl15,hl16,hl17,hl33,hl44,hl45,cd2]; exact S)
 ·rintro L g v hL hcl hclo hT hv3
  refine yv (j:=3) (pol:=true) rfl rfl hv3 zam (by simpa using hg133) ?_
  have hl15:=clF hL (hclo 15 4 · zap)
  have hl16:=clF hL (hclo 16 4 · zap)
  have hl17:=clF hL (hclo 17 4 · zap)
  have hl33:=clF hL (hclo 33 4 · zap)
  have hl44:=clF hL (hclo 44 4 · zap)
  have hl45:=clF hL (hclo 45 4 · zap)
  simp only [hl15,hl16,hl17,hl33,hl44,hl45,cd2] at hT
  replace S:=hT
  refine wd (ldT rfl (S.blk 5)) ?_
  exact w4 rfl (by simp only [pN L 4 15,pN L 4 16,pN L 4 17,pN L 4 33,pN L 4 44,pN L 4 45,hl15,hl16,hl17,hl33,hl44,hl45,cd2]; exact S)
 ·rintro L g v hL hcl hclo hT hv3
  refine yv (j:=3) (pol:=true) rfl rfl hv3 zam (by simpa using hg133) ?_
  have hl15:=clF hL (hclo 15 5 · zap)
  have hl16:=clF hL (hclo 16 5 · zap)
  have hl17:=clF hL (hclo 17 5 · zap)
  have hl33:=clF hL (hclo 33 5 · zap)
  have hl44:=clF hL (hclo 44 5 · zap)
  have hl45:=clF hL (hclo 45 5 · zap)
  simp only [hl15,hl16,hl17,hl33,hl44,hl45,cd2] at hT
  replace S:=hT
  refine wd (ldT rfl (S.blk 0)) ?_
  exact w4 rfl (by simp only [pN L 5 15,pN L 5 16,pN L 5 17,pN L 5 33,pN L 5 44,pN L 5 45,hl15,hl16,hl17,hl33,hl44,hl45,cd2]; exact S)
 ·rintro L g v hL hcl hclo hT hv4 hv5 hv3
  refine yv (j:=3) (pol:=true) rfl rfl hv3 zam (by simpa using hg133) ?_
  have hl15:=clF hL (hclo 15 6 · zap)
  have hl16:=clF hL (hclo 16 6 · zap)
  have hl17:=clF hL (hclo 17 6 · zap)
  have hl33:=clF hL (hclo 33 6 · zap)
  have hl44:=clF hL (hclo 44 6 · zap)
  have hl45:=clF hL (hclo 45 6 · zap)
  simp only [hl15,hl16,hl17,hl33,hl44,hl45,cd2] at hT
  replace S:=hT
  obtain ⟨_,_,T,bk⟩ := S.calln 0 ((.z 9 rfl (.z 0 rfl .nil)))
  refine zA (zK uE (zN hv4 (zN hv5 rfl))) zam (jN (a0:=r50.1) (a1:=(ptN 11 r5.2.1 [(ptN 11 r5.2.1 [r93])])) T er134) ?_
  rintro _ w181 ⟨rfl,S2⟩
  replace S:=bk _ _ _ _ S2 rfl
  exact w4 rfl (by simp only [pN L 6 15,pN L 6 16,pN L 6 17,pN L 6 33,pN L 6 44,pN L 6 45,hl15,hl16,hl17,hl33,hl44,hl45,cd2]; exact S)
 ·rintro L g v hL hcl hclo hT hv3 hv6
  have hl15:=clF hL (hclo 15 7 · zap)
  have hl16:=clF hL (hclo 16 7 · zap)
  have hl17:=clF hL (hclo 17 7 · zap)
  have hl33:=clF hL (hclo 33 7 · zap)
  have hl44:=clF hL (hclo 44 7 · zap)
  have hl45:=clF hL (hclo 45 7 · zap)
  simp only [hl15,hl16,hl17,hl33,hl44,hl45,cd2] at hT
  replace S:=hT
  refine wd (zV hv3 (fun hp=>hv6)) ?_
  exact w4 rfl (by simp only [pN L 7 15,pN L 7 16,pN L 7 17,pN L 7 33,pN L 7 44,pN L 7 45,hl15,hl16,hl17,hl33,hl44,hl45,cd2]; exact S)
 ·rintro L g v hL hcl hclo hT hv7
  have hl15:=clF hL (hclo 15 8 · zap)
  have hl16:=clF hL (hclo 16 8 · zap)
  have hl17:=clF hL (hclo 17 8 · zap)
  have hl33:=clF hL (hclo 33 8 · zap)
  have hl44:=clF hL (hclo 44 8 · zap)
  have hl45:=clF hL (hclo 45 8 · zap)
  simp only [hl15,hl16,hl17,hl33,hl44,hl45,cd2] at hT
  replace S:=hT
  refine wd (zy hv7) ?_
  exact w4 rfl (by simp only [pN L 8 15,pN L 8 16,pN L 8 17,pN L 8 33,pN L 8 44,pN L 8 45,hl15,hl16,hl17,hl33,hl44,hl45,cd2]; exact S)
 ·rintro L g v hL hcl hclo hT hv8
  refine yv (j:=8) (pol:=true) rfl rfl hv8 zam (by simpa using hg137) ?_
  have hl15:=clF hL (hclo 15 9 · zap)
  have hl16:=clF hL (hclo 16 9 · zap)
  have hl17:=clF hL (hclo 17 9 · zap)
  have hl33:=clF hL (hclo 33 9 · zap)
  have hl44:=clF hL (hclo 44 9 · zap)
  have hl45:=clF hL (hclo 45 9 · zap)
  simp only [hl15,hl16,hl17,hl33,hl44,hl45,cd2] at hT
  replace S:=hT
  refine wd (zk rfl) ?_
  exact w4 rfl (by simp only [pN L 9 15,pN L 9 16,pN L 9 17,pN L 9 33,pN L 9 44,pN L 9 45,hl15,hl16,hl17,hl33,hl44,hl45,cd2]; exact S)
 ·rintro L g v hL hcl hclo hT hv9 hv8
  refine yv (j:=8) (pol:=true) rfl rfl hv8 zam (by simpa using hg137) ?_
  have hl15:=clF hL (hclo 15 10 · zap)
  have hl16:=clF hL (hclo 16 10 · zap)
  have hl17:=clF hL (hclo 17 10 · zap)
  have hl33:=clF hL (hclo 33 10 · zap)
  have hl44:=clF hL (hclo 44 10 · zap)
  have hl45:=clF hL (hclo 45 10 · zap)
  simp only [hl15,hl16,hl17,hl33,hl44,hl45,cd2] at hT
  replace S:=hT
  obtain ⟨_,_,T,bk⟩ := S.calln 0 ((.nil))
  refine zA (zK yg (zN hv9 rfl)) zam (yh T er138) ?_
  rintro _ w184 ⟨rfl,S2⟩
  replace S:=bk _ _ _ _ S2 rfl
  exact w4 rfl (by simp only [pN L 10 15,pN L 10 16,pN L 10 17,pN L 10 33,pN L 10 44,pN L 10 45,hl15,hl16,hl17,hl33,hl44,hl45,cd2]; exact S)
 ·rintro L g v hL hcl hclo hT hv10 hv8
  refine yv (j:=8) (pol:=true) rfl rfl hv8 zam (by simpa using hg137) ?_
  have hl15:=clF hL (hclo 15 11 · zap)
  have hl16:=clF hL (hclo 16 11 · zap)
  have hl17:=clF hL (hclo 17 11 · zap)
  have hl33:=clF hL (hclo 33 11 · zap)
  have hl44:=clF hL (hclo 44 11 · zap)
  have hl45:=clF hL (hclo 45 11 · zap)
  simp only [hl15,hl16,hl17,hl33,hl44,hl45,cd2] at hT
  replace S:=hT
  refine wd (zR hv10 rfl) ?_
  exact w4 rfl (by simp only [pN L 11 15,pN L 11 16,pN L 11 17,pN L 11 33,pN L 11 44,pN L 11 45,hl15,hl16,hl17,hl33,hl44,hl45,cd2]; exact S)
 ·rintro L g v hL hcl hclo hT hv8 hv11
  have hl15:=clF hL (hclo 15 12 · zap)
  have hl16:=clF hL (hclo 16 12 · zap)
  have hl17:=clF hL (hclo 17 12 · zap)
  have hl33:=clF hL (hclo 33 12 · zap)
  have hl44:=clF hL (hclo 44 12 · zap)
  have hl45:=clF hL (hclo 45 12 · zap)
  simp only [hl15,hl16,hl17,hl33,hl44,hl45,cd2] at hT
  replace S:=hT
  refine wd (zV hv8 (fun hp=>hv11)) ?_
  exact w4 rfl (by simp only [pN L 12 15,pN L 12 16,pN L 12 17,pN L 12 33,pN L 12 44,pN L 12 45,hl15,hl16,hl17,hl33,hl44,hl45,cd2]; exact S)
 ·rintro L g v hL hcl hclo hT hv12
  have hl15:=clF hL (hclo 15 13 · zap)
  have hl16:=clF hL (hclo 16 13 · zap)
  have hl17:=clF hL (hclo 17 13 · zap)
  have hl33:=clF hL (hclo 33 13 · zap)
  have hl44:=clF hL (hclo 44 13 · zap)
  have hl45:=clF hL (hclo 45 13 · zap)
  simp only [hl15,hl16,hl17,hl33,hl44,hl45,cd2] at hT
  replace S:=hT
  refine wd (zy hv12) ?_
  exact w4 rfl (by simp only [pN L 13 15,pN L 13 16,pN L 13 17,pN L 13 33,pN L 13 44,pN L 13 45,hl15,hl16,hl17,hl33,hl44,hl45,cd2]; exact S)
 ·rintro L g v hL hcl hclo hT hv13
  refine yv (j:=13) (pol:=true) rfl rfl hv13 zam (by simpa using hg141) ?_
  have hl17:=clF hL (hclo 17 14 · zap)
  have hl33:=clF hL (hclo 33 14 · zap)
  have hl44:=clF hL (hclo 44 14 · zap)
  have hl45:=clF hL (hclo 45 14 · zap)
  cases hl16:L 16 with
  | true =>
   replace hT : ∃ (s144:SlV) (s147:SlV),(L 15=true→g 105=s144.v)∧(L 16=true→g 106=s147.v)∧St A N w v (oS xw 1 LC s147 ([SlV.nil,s144]) :: oS xy 1 IC s144 ([0]) :: LT2) LT1:=by simp only [hl16,hl17,hl33,hl44,hl45,cd2] at hT ⊢; exact hT
   obtain ⟨s144,s147,he15,he16,S⟩ := hT
   refine wd (zM rfl) ?_
   have hT2 : ∃ (s144':SlV) (s147':SlV),((plus L 14) 15=true→(upd g 104 (s60.v)) 105=s144'.v)∧((plus L 14) 16=true→(upd g 104 (s60.v)) 106=s147'.v)∧St A N w v (oS xw 1 LC s147' ([SlV.nil,s144']) :: oS xy 1 IC s144' ([0]) :: LT2) LT1:=⟨s144,s147,kpU he15,kpU he16,S⟩
   exact w4 rfl (by simp only [pN L 14 15,pN L 14 16,pN L 14 17,pN L 14 33,pN L 14 44,pN L 14 45,hl16,hl17,hl33,hl44,hl45,cd2] at hT2 ⊢; exact hT2)
  | false =>
   cases hl15:L 15 with
   | true =>
    replace hT : ∃ (s144:SlV),(L 15=true→g 105=s144.v)∧St A N w v (oS xy 1 IC s144 ([0]) :: LT2) LT1:=by simp only [hl15,hl16,hl17,hl33,hl44,hl45,cd2] at hT ⊢; exact hT
    obtain ⟨s144,he15,S⟩ := hT
    refine wd (zM rfl) ?_
    have hT2 : ∃ (s144':SlV),((plus L 14) 15=true→(upd g 104 (s60.v)) 105=s144'.v)∧St A N w v (oS xy 1 IC s144' ([0]) :: LT2) LT1:=⟨s144,kpU he15,S⟩
    exact w4 rfl (by simp only [pN L 14 15,pN L 14 16,pN L 14 17,pN L 14 33,pN L 14 44,pN L 14 45,hl15,hl16,hl17,hl33,hl44,hl45,cd2] at hT2 ⊢; exact hT2)
   | false =>
    simp only [hl15,hl16,hl17,hl33,hl44,hl45,cd2] at hT
    replace S:=hT
    refine wd (zM rfl) ?_
    exact w4 rfl (by simp only [pN L 14 15,pN L 14 16,pN L 14 17,pN L 14 33,pN L 14 44,pN L 14 45,hl15,hl16,hl17,hl33,hl44,hl45,cd2]; exact S)
 ·rintro L g v hL hcl hclo hT hv13
  refine yv (j:=13) (pol:=true) rfl rfl hv13 zam (by simpa using hg141) ?_
  have hl15:L 15=false:=hL
  have hl16:=clF hL (hclo 16 15 · zap)
  have hl17:=clF hL (hclo 17 15 · zap)
  have hl33:=clF hL (hclo 33 15 · zap)
  have hl44:=clF hL (hclo 44 15 · zap)
  have hl45:=clF hL (hclo 45 15 · zap)
  simp only [hl15,hl16,hl17,hl33,hl44,hl45,cd2] at hT
  replace S:=hT
  refine vi (C:=IC) (l:=[0]) (vs:=[.int .i64 0]) xZ el_int.zero rfl rfl (fun _ _=>rfl) zam rfl zam fun b187 w186 s144 hBw186 hw186=>?_
  replace S:=S.lit hBw186 hw186 zao
  have hT2 : ∃ (s144':SlV),((plus L 15) 15=true→(upd g 105 (s144.v)) 105=s144'.v)∧St A N w w186 (oS xy 1 IC s144' ([0]) :: LT2) LT1:=⟨s144,fun _=>upd_same _ _ _,S⟩
  exact w4 trivial (by simp only [pN L 15 16,pN L 15 17,pN L 15 33,pN L 15 44,pN L 15 45,xR (L:=L) (i:=15),hl16,hl17,hl33,hl44,hl45,cd2] at hT2 ⊢; exact hT2)
 ·rintro L g v hL hcl hclo hT hv15 hv13
  refine yv (j:=13) (pol:=true) rfl rfl hv13 zam (by simpa using hg141) ?_
  have hl15:L 15=true:=hcl 15 zap
  have hl16:L 16=false:=hL
  have hl17:=clF hL (hclo 17 16 · zap)
  have hl33:=clF hL (hclo 33 16 · zap)
  have hl44:=clF hL (hclo 44 16 · zap)
  have hl45:=clF hL (hclo 45 16 · zap)
  replace hT : ∃ (s144:SlV),(L 15=true→g 105=s144.v)∧St A N w v (oS xy 1 IC s144 ([0]) :: LT2) LT1:=by simp only [hl15,hl16,hl17,hl33,hl44,hl45,cd2] at hT ⊢; exact hT
  obtain ⟨s144,he15,S⟩ := hT
  refine vi (C:=LC) (l:=[SlV.nil,s144]) (vs:=[SlV.nil.v,s144.v]) vC el_L_int.zero (xK SlV.nil_eq (xK (he15 (hcl 15 zap)) rfl)) (by simp only [List.map_cons,List.map_nil,SlV.cells,LC]) (fun _ _=>rfl) zam rfl zam fun b190 w189 s147 hBw189 hw189=>?_
  replace S:=S.lit hBw189 hw189 zao
  have hT2 : ∃ (s144':SlV) (s147':SlV),((plus L 16) 15=true→(upd g 106 (s147.v)) 105=s144'.v)∧((plus L 16) 16=true→(upd g 106 (s147.v)) 106=s147'.v)∧St A N w w189 (oS xw 1 LC s147' ([SlV.nil,s144']) :: oS xy 1 IC s144' ([0]) :: LT2) LT1:=⟨s144,s147,kpU he15,fun _=>upd_same _ _ _,S⟩
  exact w4 trivial (by simp only [pN L 16 15,pN L 16 17,pN L 16 33,pN L 16 44,pN L 16 45,xR (L:=L) (i:=16),hl17,hl33,hl44,hl45,cd2] at hT2 ⊢; exact hT2)
 ·rintro L g v hL hcl hclo hT hv14 hv16 hv13
  refine yv (j:=13) (pol:=true) rfl rfl hv13 zam (by simpa using hg141) ?_
  have hl16:L 16=true:=hcl 16 zap
  have hl17:L 17=false:=hL
  have hl33:=clF hL (hclo 33 17 · zap)
  have hl44:=clF hL (hclo 44 17 · zap)
  have hl45:=clF hL (hclo 45 17 · zap)
  replace hT : ∃ (s144:SlV) (s147:SlV),(L 15=true→g 105=s144.v)∧(L 16=true→g 106=s147.v)∧St A N w v (oS xw 1 LC s147 ([SlV.nil,s144]) :: oS xy 1 IC s144 ([0]) :: LT2) LT1:=by simp only [hl16,hl17,hl33,hl44,hl45,cd2] at hT ⊢; exact hT
  obtain ⟨s144,s147,he15,he16,S⟩ := hT
  replace S:=((S.nil xy 1 IC).putp trivial).front 3
  replace S:=((S.star.front 1).star).front 1
  replace S:St A N w v (zE s147 ([([]:List Int),[0]]) :: LT2) LT1:=St.shutD (ms:=[SlV.nil,s144]) S
  obtain ⟨_,_,T,bk⟩ := S.calln 0 ((.o 5 rfl (.o 0 rfl .nil)))
  refine zA (zK ca_ref14_Ways (zN hv14 (zN (he16 (hcl 16 zap)) rfl))) zam (ref14_Ways_st T er148) ?_
  rintro _ w193 ⟨rfl,S2⟩
  replace S:=bk _ _ _ _ S2 rfl
  have hT2 : ∃ (s144':SlV) (s147':SlV),((plus L 17) 15=true→(upd g 107 (Value.bool r148)) 105=s144'.v)∧((plus L 17) 16=true→(upd g 107 (Value.bool r148)) 106=s147'.v)∧St A N w w193 (zE s147' ([([]:List Int),[0]]) :: LT2) LT1:=⟨s144,s147,kpU he15,kpU he16,S⟩
  exact w4 rfl (by simp only [pN L 17 15,pN L 17 16,pN L 17 33,pN L 17 44,pN L 17 45,xR (L:=L) (i:=17),hl33,hl44,hl45,cd2] at hT2 ⊢; exact hT2)
 ·rintro L g v hL hcl hclo hT hv13 hv17
  have hl17:L 17=true:=hcl 17 zap
  have hl33:=clF hL (hclo 33 18 · zap)
  have hl44:=clF hL (hclo 44 18 · zap)
  have hl45:=clF hL (hclo 45 18 · zap)
  replace hT : ∃ (s144:SlV) (s147:SlV),(L 15=true→g 105=s144.v)∧(L 16=true→g 106=s147.v)∧St A N w v (zE s147 ([([]:List Int),[0]]) :: LT2) LT1:=by simp only [hl17,hl33,hl44,hl45,cd2] at hT ⊢; exact hT
  obtain ⟨s144,s147,he15,he16,S⟩ := hT
  refine wd (zV hv13 (fun hp=>hv17)) ?_
  have hT2 : ∃ (s144':SlV) (s147':SlV),((plus L 18) 15=true→(upd g 108 (Value.bool ((((decide (r130=0)) && r134) && (decide (r138=0))) && r148))) 105=s144'.v)∧((plus L 18) 16=true→(upd g 108 (Value.bool ((((decide (r130=0)) && r134) && (decide (r138=0))) && r148))) 106=s147'.v)∧St A N w v (zE s147' ([([]:List Int),[0]]) :: LT2) LT1:=⟨s144,s147,kpU he15,kpU he16,S⟩
  exact w4 rfl (by simp only [pN L 18 15,pN L 18 16,pN L 18 17,pN L 18 33,pN L 18 44,pN L 18 45,hl17,hl33,hl44,hl45,cd2] at hT2 ⊢; exact hT2)
 ·rintro L g v hL hcl hclo hT hv18
  have hl17:L 17=true:=hcl 17 zap
  have hl33:=clF hL (hclo 33 19 · zap)
  have hl44:=clF hL (hclo 44 19 · zap)
  have hl45:=clF hL (hclo 45 19 · zap)
  replace hT : ∃ (s144:SlV) (s147:SlV),(L 15=true→g 105=s144.v)∧(L 16=true→g 106=s147.v)∧St A N w v (zE s147 ([([]:List Int),[0]]) :: LT2) LT1:=by simp only [hl17,hl33,hl44,hl45,cd2] at hT ⊢; exact hT
  obtain ⟨s144,s147,he15,he16,S⟩ := hT
  refine wd (zy hv18) ?_
  have hT2 : ∃ (s144':SlV) (s147':SlV),((plus L 19) 15=true→(upd g 109 (Value.bool ((((decide (r130=0)) && r134) && (decide (r138=0))) && r148))) 105=s144'.v)∧((plus L 19) 16=true→(upd g 109 (Value.bool ((((decide (r130=0)) && r134) && (decide (r138=0))) && r148))) 106=s147'.v)∧St A N w v (zE s147' ([([]:List Int),[0]]) :: LT2) LT1:=⟨s144,s147,kpU he15,kpU he16,S⟩
  exact w4 rfl (by simp only [pN L 19 15,pN L 19 16,pN L 19 17,pN L 19 33,pN L 19 44,pN L 19 45,hl17,hl33,hl44,hl45,cd2] at hT2 ⊢; exact hT2)
 ·rintro L g v hL hcl hclo hT hv19
  refine yv (j:=19) (pol:=true) rfl rfl hv19 zam (by simpa using hg151) ?_
  have hl17:L 17=true:=hcl 17 zap
  have hl33:=clF hL (hclo 33 20 · zap)
  have hl44:=clF hL (hclo 44 20 · zap)
  have hl45:=clF hL (hclo 45 20 · zap)
  replace hT : ∃ (s144:SlV) (s147:SlV),(L 15=true→g 105=s144.v)∧(L 16=true→g 106=s147.v)∧St A N w v (zE s147 ([([]:List Int),[0]]) :: LT2) LT1:=by simp only [hl17,hl33,hl44,hl45,cd2] at hT ⊢; exact hT
  obtain ⟨s144,s147,he15,he16,S⟩ := hT
  refine wd (zk rfl) ?_
  have hT2 : ∃ (s144':SlV) (s147':SlV),((plus L 20) 15=true→(upd g 110 (Value.int .i64 r61.2.2.2)) 105=s144'.v)∧((plus L 20) 16=true→(upd g 110 (Value.int .i64 r61.2.2.2)) 106=s147'.v)∧St A N w v (zE s147' ([([]:List Int),[0]]) :: LT2) LT1:=⟨s144,s147,kpU he15,kpU he16,S⟩
  exact w4 rfl (by simp only [pN L 20 15,pN L 20 16,pN L 20 17,pN L 20 33,pN L 20 44,pN L 20 45,hl17,hl33,hl44,hl45,cd2] at hT2 ⊢; exact hT2)
 ·rintro L g v hL hcl hclo hT hv20 hv19
  refine yv (j:=19) (pol:=true) rfl rfl hv19 zam (by simpa using hg151) ?_
  have hl17:L 17=true:=hcl 17 zap
  have hl33:=clF hL (hclo 33 21 · zap)
  have hl44:=clF hL (hclo 44 21 · zap)
  have hl45:=clF hL (hclo 45 21 · zap)
  replace hT : ∃ (s144:SlV) (s147:SlV),(L 15=true→g 105=s144.v)∧(L 16=true→g 106=s147.v)∧St A N w v (zE s147 ([([]:List Int),[0]]) :: LT2) LT1:=by simp only [hl17,hl33,hl44,hl45,cd2] at hT ⊢; exact hT
  obtain ⟨s144,s147,he15,he16,S⟩ := hT
  obtain ⟨_,_,T,bk⟩ := S.calln 0 ((.nil))
  refine zA (zK yg (zN hv20 rfl)) zam (yh T er152) ?_
  rintro _ w196 ⟨rfl,S2⟩
  replace S:=bk _ _ _ _ S2 rfl
  have hT2 : ∃ (s144':SlV) (s147':SlV),((plus L 21) 15=true→(upd g 111 (Value.int .i64 r152)) 105=s144'.v)∧((plus L 21) 16=true→(upd g 111 (Value.int .i64 r152)) 106=s147'.v)∧St A N w w196 (zE s147' ([([]:List Int),[0]]) :: LT2) LT1:=⟨s144,s147,kpU he15,kpU he16,S⟩
  exact w4 rfl (by simp only [pN L 21 15,pN L 21 16,pN L 21 17,pN L 21 33,pN L 21 44,pN L 21 45,hl17,hl33,hl44,hl45,cd2] at hT2 ⊢; exact hT2)
 ·rintro L g v hL hcl hclo hT hv21 hv19
  refine yv (j:=19) (pol:=true) rfl rfl hv19 zam (by simpa using hg151) ?_
  have hl17:L 17=true:=hcl 17 zap
  have hl33:=clF hL (hclo 33 22 · zap)
  have hl44:=clF hL (hclo 44 22 · zap)
  have hl45:=clF hL (hclo 45 22 · zap)
  replace hT : ∃ (s144:SlV) (s147:SlV),(L 15=true→g 105=s144.v)∧(L 16=true→g 106=s147.v)∧St A N w v (zE s147 ([([]:List Int),[0]]) :: LT2) LT1:=by simp only [hl17,hl33,hl44,hl45,cd2] at hT ⊢; exact hT
  obtain ⟨s144,s147,he15,he16,S⟩ := hT
  refine wd (zR hv21 rfl) ?_
  have hT2 : ∃ (s144':SlV) (s147':SlV),((plus L 22) 15=true→(upd g 112 (Value.bool (decide (r152=0)))) 105=s144'.v)∧((plus L 22) 16=true→(upd g 112 (Value.bool (decide (r152=0)))) 106=s147'.v)∧St A N w v (zE s147' ([([]:List Int),[0]]) :: LT2) LT1:=⟨s144,s147,kpU he15,kpU he16,S⟩
  exact w4 rfl (by simp only [pN L 22 15,pN L 22 16,pN L 22 17,pN L 22 33,pN L 22 44,pN L 22 45,hl17,hl33,hl44,hl45,cd2] at hT2 ⊢; exact hT2)
 ·rintro L g v hL hcl hclo hT hv19 hv22
  have hl17:L 17=true:=hcl 17 zap
  have hl33:=clF hL (hclo 33 23 · zap)
  have hl44:=clF hL (hclo 44 23 · zap)
  have hl45:=clF hL (hclo 45 23 · zap)
  replace hT : ∃ (s144:SlV) (s147:SlV),(L 15=true→g 105=s144.v)∧(L 16=true→g 106=s147.v)∧St A N w v (zE s147 ([([]:List Int),[0]]) :: LT2) LT1:=by simp only [hl17,hl33,hl44,hl45,cd2] at hT ⊢; exact hT
  obtain ⟨s144,s147,he15,he16,S⟩ := hT
  refine wd (zV hv19 (fun hp=>hv22)) ?_
  have hT2 : ∃ (s144':SlV) (s147':SlV),((plus L 23) 15=true→(upd g 113 (Value.bool (((((decide (r130=0)) && r134) && (decide (r138=0))) && r148) && (decide (r152=0))))) 105=s144'.v)∧((plus L 23) 16=true→(upd g 113 (Value.bool (((((decide (r130=0)) && r134) && (decide (r138=0))) && r148) && (decide (r152=0))))) 106=s147'.v)∧St A N w v (zE s147' ([([]:List Int),[0]]) :: LT2) LT1:=⟨s144,s147,kpU he15,kpU he16,S⟩
  exact w4 rfl (by simp only [pN L 23 15,pN L 23 16,pN L 23 17,pN L 23 33,pN L 23 44,pN L 23 45,hl17,hl33,hl44,hl45,cd2] at hT2 ⊢; exact hT2)
 ·rintro L g v hL hcl hclo hT hv23
  have hl17:L 17=true:=hcl 17 zap
  have hl33:=clF hL (hclo 33 24 · zap)
  have hl44:=clF hL (hclo 44 24 · zap)
  have hl45:=clF hL (hclo 45 24 · zap)
  replace hT : ∃ (s144:SlV) (s147:SlV),(L 15=true→g 105=s144.v)∧(L 16=true→g 106=s147.v)∧St A N w v (zE s147 ([([]:List Int),[0]]) :: LT2) LT1:=by simp only [hl17,hl33,hl44,hl45,cd2] at hT ⊢; exact hT
  obtain ⟨s144,s147,he15,he16,S⟩ := hT
  refine wd (zy hv23) ?_
  have hT2 : ∃ (s144':SlV) (s147':SlV),((plus L 24) 15=true→(upd g 114 (Value.bool (((((decide (r130=0)) && r134) && (decide (r138=0))) && r148) && (decide (r152=0))))) 105=s144'.v)∧((plus L 24) 16=true→(upd g 114 (Value.bool (((((decide (r130=0)) && r134) && (decide (r138=0))) && r148) && (decide (r152=0))))) 106=s147'.v)∧St A N w v (zE s147' ([([]:List Int),[0]]) :: LT2) LT1:=⟨s144,s147,kpU he15,kpU he16,S⟩
  exact w4 rfl (by simp only [pN L 24 15,pN L 24 16,pN L 24 17,pN L 24 33,pN L 24 44,pN L 24 45,hl17,hl33,hl44,hl45,cd2] at hT2 ⊢; exact hT2)
 ·rintro L g v hL hcl hclo hT hv24
  refine yv (j:=24) (pol:=true) rfl rfl hv24 zam (by simpa using hg155) ?_
  have hl17:L 17=true:=hcl 17 zap
  have hl33:=clF hL (hclo 33 25 · zap)
  have hl44:=clF hL (hclo 44 25 · zap)
  have hl45:=clF hL (hclo 45 25 · zap)
  replace hT : ∃ (s144:SlV) (s147:SlV),(L 15=true→g 105=s144.v)∧(L 16=true→g 106=s147.v)∧St A N w v (zE s147 ([([]:List Int),[0]]) :: LT2) LT1:=by simp only [hl17,hl33,hl44,hl45,cd2] at hT ⊢; exact hT
  obtain ⟨s144,s147,he15,he16,S⟩ := hT
  refine wd (zk rfl) ?_
  have hT2 : ∃ (s144':SlV) (s147':SlV),((plus L 25) 15=true→(upd g 115 (Value.int .i64 r61.2.1)) 105=s144'.v)∧((plus L 25) 16=true→(upd g 115 (Value.int .i64 r61.2.1)) 106=s147'.v)∧St A N w v (zE s147' ([([]:List Int),[0]]) :: LT2) LT1:=⟨s144,s147,kpU he15,kpU he16,S⟩
  exact w4 rfl (by simp only [pN L 25 15,pN L 25 16,pN L 25 17,pN L 25 33,pN L 25 44,pN L 25 45,hl17,hl33,hl44,hl45,cd2] at hT2 ⊢; exact hT2)
 ·rintro L g v hL hcl hclo hT hv25 hv24
  refine yv (j:=24) (pol:=true) rfl rfl hv24 zam (by simpa using hg155) ?_
  have hl17:L 17=true:=hcl 17 zap
  have hl33:=clF hL (hclo 33 26 · zap)
  have hl44:=clF hL (hclo 44 26 · zap)
  have hl45:=clF hL (hclo 45 26 · zap)
  replace hT : ∃ (s144:SlV) (s147:SlV),(L 15=true→g 105=s144.v)∧(L 16=true→g 106=s147.v)∧St A N w v (zE s147 ([([]:List Int),[0]]) :: LT2) LT1:=by simp only [hl17,hl33,hl44,hl45,cd2] at hT ⊢; exact hT
  obtain ⟨s144,s147,he15,he16,S⟩ := hT
  refine wd (zR hv25 rfl) ?_
  have hT2 : ∃ (s144':SlV) (s147':SlV),((plus L 26) 15=true→(upd g 116 (Value.bool (decide (r61.2.1=3)))) 105=s144'.v)∧((plus L 26) 16=true→(upd g 116 (Value.bool (decide (r61.2.1=3)))) 106=s147'.v)∧St A N w v (zE s147' ([([]:List Int),[0]]) :: LT2) LT1:=⟨s144,s147,kpU he15,kpU he16,S⟩
  exact w4 rfl (by simp only [pN L 26 15,pN L 26 16,pN L 26 17,pN L 26 33,pN L 26 44,pN L 26 45,hl17,hl33,hl44,hl45,cd2] at hT2 ⊢; exact hT2)
 ·rintro L g v hL hcl hclo hT hv24 hv26
  have hl17:L 17=true:=hcl 17 zap
  have hl33:=clF hL (hclo 33 27 · zap)
  have hl44:=clF hL (hclo 44 27 · zap)
  have hl45:=clF hL (hclo 45 27 · zap)
  replace hT : ∃ (s144:SlV) (s147:SlV),(L 15=true→g 105=s144.v)∧(L 16=true→g 106=s147.v)∧St A N w v (zE s147 ([([]:List Int),[0]]) :: LT2) LT1:=by simp only [hl17,hl33,hl44,hl45,cd2] at hT ⊢; exact hT
  obtain ⟨s144,s147,he15,he16,S⟩ := hT
  refine wd (zV hv24 (fun hp=>hv26)) ?_
  have hT2 : ∃ (s144':SlV) (s147':SlV),((plus L 27) 15=true→(upd g 117 (Value.bool ((((((decide (r130=0)) && r134) && (decide (r138=0))) && r148) && (decide (r152=0))) && (decide (r61.2.1=3))))) 105=s144'.v)∧((plus L 27) 16=true→(upd g 117 (Value.bool ((((((decide (r130=0)) && r134) && (decide (r138=0))) && r148) && (decide (r152=0))) && (decide (r61.2.1=3))))) 106=s147'.v)∧St A N w v (zE s147' ([([]:List Int),[0]]) :: LT2) LT1:=⟨s144,s147,kpU he15,kpU he16,S⟩
  exact w4 rfl (by simp only [pN L 27 15,pN L 27 16,pN L 27 17,pN L 27 33,pN L 27 44,pN L 27 45,hl17,hl33,hl44,hl45,cd2] at hT2 ⊢; exact hT2)
 ·rintro L g v hL hcl hclo hT hv27
  have hl17:L 17=true:=hcl 17 zap
  have hl33:=clF hL (hclo 33 28 · zap)
  have hl44:=clF hL (hclo 44 28 · zap)
  have hl45:=clF hL (hclo 45 28 · zap)
  replace hT : ∃ (s144:SlV) (s147:SlV),(L 15=true→g 105=s144.v)∧(L 16=true→g 106=s147.v)∧St A N w v (zE s147 ([([]:List Int),[0]]) :: LT2) LT1:=by simp only [hl17,hl33,hl44,hl45,cd2] at hT ⊢; exact hT
  obtain ⟨s144,s147,he15,he16,S⟩ := hT
  refine wd (zy hv27) ?_
  have hT2 : ∃ (s144':SlV) (s147':SlV),((plus L 28) 15=true→(upd g 118 (Value.bool ((((((decide (r130=0)) && r134) && (decide (r138=0))) && r148) && (decide (r152=0))) && (decide (r61.2.1=3))))) 105=s144'.v)∧((plus L 28) 16=true→(upd g 118 (Value.bool ((((((decide (r130=0)) && r134) && (decide (r138=0))) && r148) && (decide (r152=0))) && (decide (r61.2.1=3))))) 106=s147'.v)∧St A N w v (zE s147' ([([]:List Int),[0]]) :: LT2) LT1:=⟨s144,s147,kpU he15,kpU he16,S⟩
  exact w4 rfl (by simp only [pN L 28 15,pN L 28 16,pN L 28 17,pN L 28 33,pN L 28 44,pN L 28 45,hl17,hl33,hl44,hl45,cd2] at hT2 ⊢; exact hT2)
 ·rintro L g v hL hcl hclo hT hv28
  refine yv (j:=28) (pol:=true) rfl rfl hv28 zam (by simpa using hg156) ?_
  have hl17:L 17=true:=hcl 17 zap
  have hl33:=clF hL (hclo 33 29 · zap)
  have hl44:=clF hL (hclo 44 29 · zap)
  have hl45:=clF hL (hclo 45 29 · zap)
  replace hT : ∃ (s144:SlV) (s147:SlV),(L 15=true→g 105=s144.v)∧(L 16=true→g 106=s147.v)∧St A N w v (zE s147 ([([]:List Int),[0]]) :: LT2) LT1:=by simp only [hl17,hl33,hl44,hl45,cd2] at hT ⊢; exact hT
  obtain ⟨s144,s147,he15,he16,S⟩ := hT
  refine wd (zy rfl) ?_
  have hT2 : ∃ (s144':SlV) (s147':SlV),((plus L 29) 15=true→(upd g 119 (Value.bool r61.2.2.1)) 105=s144'.v)∧((plus L 29) 16=true→(upd g 119 (Value.bool r61.2.2.1)) 106=s147'.v)∧St A N w v (zE s147' ([([]:List Int),[0]]) :: LT2) LT1:=⟨s144,s147,kpU he15,kpU he16,S⟩
  exact w4 rfl (by simp only [pN L 29 15,pN L 29 16,pN L 29 17,pN L 29 33,pN L 29 44,pN L 29 45,hl17,hl33,hl44,hl45,cd2] at hT2 ⊢; exact hT2)
 ·rintro L g v hL hcl hclo hT hv28 hv29
  have hl17:L 17=true:=hcl 17 zap
  have hl33:=clF hL (hclo 33 30 · zap)
  have hl44:=clF hL (hclo 44 30 · zap)
  have hl45:=clF hL (hclo 45 30 · zap)
  replace hT : ∃ (s144:SlV) (s147:SlV),(L 15=true→g 105=s144.v)∧(L 16=true→g 106=s147.v)∧St A N w v (zE s147 ([([]:List Int),[0]]) :: LT2) LT1:=by simp only [hl17,hl33,hl44,hl45,cd2] at hT ⊢; exact hT
  obtain ⟨s144,s147,he15,he16,S⟩ := hT
  refine wd (zV hv28 (fun hp=>hv29)) ?_
  have hT2 : ∃ (s144':SlV) (s147':SlV),((plus L 30) 15=true→(upd g 120 (Value.bool (((((((decide (r130=0)) && r134) && (decide (r138=0))) && r148) && (decide (r152=0))) && (decide (r61.2.1=3))) && r61.2.2.1))) 105=s144'.v)∧((plus L 30) 16=true→(upd g 120 (Value.bool (((((((decide (r130=0)) && r134) && (decide (r138=0))) && r148) && (decide (r152=0))) && (decide (r61.2.1=3))) && r61.2.2.1))) 106=s147'.v)∧St A N w v (zE s147' ([([]:List Int),[0]]) :: LT2) LT1:=⟨s144,s147,kpU he15,kpU he16,S⟩
  exact w4 rfl (by simp only [pN L 30 15,pN L 30 16,pN L 30 17,pN L 30 33,pN L 30 44,pN L 30 45,hl17,hl33,hl44,hl45,cd2] at hT2 ⊢; exact hT2)
 ·rintro L g v hL hcl hclo hT hv30
  have hl17:L 17=true:=hcl 17 zap
  have hl33:=clF hL (hclo 33 31 · zap)
  have hl44:=clF hL (hclo 44 31 · zap)
  have hl45:=clF hL (hclo 45 31 · zap)
  replace hT : ∃ (s144:SlV) (s147:SlV),(L 15=true→g 105=s144.v)∧(L 16=true→g 106=s147.v)∧St A N w v (zE s147 ([([]:List Int),[0]]) :: LT2) LT1:=by simp only [hl17,hl33,hl44,hl45,cd2] at hT ⊢; exact hT
  obtain ⟨s144,s147,he15,he16,S⟩ := hT
  refine wd (zy hv30) ?_
  have hT2 : ∃ (s144':SlV) (s147':SlV),((plus L 31) 15=true→(upd g 121 (Value.bool (((((((decide (r130=0)) && r134) && (decide (r138=0))) && r148) && (decide (r152=0))) && (decide (r61.2.1=3))) && r61.2.2.1))) 105=s144'.v)∧((plus L 31) 16=true→(upd g 121 (Value.bool (((((((decide (r130=0)) && r134) && (decide (r138=0))) && r148) && (decide (r152=0))) && (decide (r61.2.1=3))) && r61.2.2.1))) 106=s147'.v)∧St A N w v (zE s147' ([([]:List Int),[0]]) :: LT2) LT1:=⟨s144,s147,kpU he15,kpU he16,S⟩
  exact w4 rfl (by simp only [pN L 31 15,pN L 31 16,pN L 31 17,pN L 31 33,pN L 31 44,pN L 31 45,hl17,hl33,hl44,hl45,cd2] at hT2 ⊢; exact hT2)
 ·rintro L g v hL hcl hclo hT hv31
  refine yv (j:=31) (pol:=true) rfl rfl hv31 zam (by simpa using hg157) ?_
  have hl17:L 17=true:=hcl 17 zap
  have hl44:=clF hL (hclo 44 32 · zap)
  have hl45:=clF hL (hclo 45 32 · zap)
  cases hl33:L 33 with
  | true =>
   replace hT : ∃ (s144:SlV) (s147:SlV) (s161:SlV),(L 15=true→g 105=s144.v)∧(L 16=true→g 106=s147.v)∧(L 33=true→g 123=Value.agg (tmC r158 s161).toArray)∧St A N w v (zE s147 ([([]:List Int),[0]]) :: LT2) (ze s161 r158.sub :: LT1):=by simp only [hl33,hl44,hl45,cd2] at hT ⊢; exact hT
   obtain ⟨s144,s147,s161,he15,he16,he33,S⟩ := hT
   refine wd (ldT rfl (S.blk 4)) ?_
   have hT2 : ∃ (s144':SlV) (s147':SlV) (s161':SlV),((plus L 32) 15=true→(upd g 122 (Value.agg (tmC r61.1 s64).toArray)) 105=s144'.v)∧((plus L 32) 16=true→(upd g 122 (Value.agg (tmC r61.1 s64).toArray)) 106=s147'.v)∧((plus L 32) 33=true→(upd g 122 (Value.agg (tmC r61.1 s64).toArray)) 123=Value.agg (tmC r158 s161').toArray)∧St A N w v (zE s147' ([([]:List Int),[0]]) :: LT2) (ze s161' r158.sub :: LT1):=⟨s144,s147,s161,kpU he15,kpU he16,kpU he33,S⟩
   exact w4 rfl (by simp only [pN L 32 15,pN L 32 16,pN L 32 17,pN L 32 33,pN L 32 44,pN L 32 45,hl33,hl44,hl45,cd2] at hT2 ⊢; exact hT2)
  | false =>
   replace hT : ∃ (s144:SlV) (s147:SlV),(L 15=true→g 105=s144.v)∧(L 16=true→g 106=s147.v)∧St A N w v (zE s147 ([([]:List Int),[0]]) :: LT2) LT1:=by simp only [hl17,hl33,hl44,hl45,cd2] at hT ⊢; exact hT
   obtain ⟨s144,s147,he15,he16,S⟩ := hT
   refine wd (ldT rfl (S.blk 4)) ?_
   have hT2 : ∃ (s144':SlV) (s147':SlV),((plus L 32) 15=true→(upd g 122 (Value.agg (tmC r61.1 s64).toArray)) 105=s144'.v)∧((plus L 32) 16=true→(upd g 122 (Value.agg (tmC r61.1 s64).toArray)) 106=s147'.v)∧St A N w v (zE s147' ([([]:List Int),[0]]) :: LT2) LT1:=⟨s144,s147,kpU he15,kpU he16,S⟩
   exact w4 rfl (by simp only [pN L 32 15,pN L 32 16,pN L 32 17,pN L 32 33,pN L 32 44,pN L 32 45,hl17,hl33,hl44,hl45,cd2] at hT2 ⊢; exact hT2)
 ·rintro L g v hL hcl hclo hT hv31
  refine yv (j:=31) (pol:=true) rfl rfl hv31 zam (by simpa using hg157) ?_
  have hl17:L 17=true:=hcl 17 zap
  have hl33:L 33=false:=hL
  have hl44:=clF hL (hclo 44 33 · zap)
  have hl45:=clF hL (hclo 45 33 · zap)
  replace hT : ∃ (s144:SlV) (s147:SlV),(L 15=true→g 105=s144.v)∧(L 16=true→g 106=s147.v)∧St A N w v (zE s147 ([([]:List Int),[0]]) :: LT2) LT1:=by simp only [hl17,hl33,hl44,hl45,cd2] at hT ⊢; exact hT
  obtain ⟨s144,s147,he15,he16,S⟩ := hT
  obtain ⟨_,_,T,bk⟩ := S.sub [] [] (zE s147 ([([]:List Int),[0]]) :: LT2)
  refine zA (zx vz) zam (vB T er158) ?_
  rintro _ w199 ⟨s161,rfl,S2⟩
  replace S:=bk _ _ _ _ _ S2 rfl rfl
  have hT2 : ∃ (s144':SlV) (s147':SlV) (s161':SlV),((plus L 33) 15=true→(upd g 123 (Value.agg (tmC r158 s161).toArray)) 105=s144'.v)∧((plus L 33) 16=true→(upd g 123 (Value.agg (tmC r158 s161).toArray)) 106=s147'.v)∧((plus L 33) 33=true→(upd g 123 (Value.agg (tmC r158 s161).toArray)) 123=Value.agg (tmC r158 s161').toArray)∧St A N w w199 (zE s147' ([([]:List Int),[0]]) :: LT2) (ze s161' r158.sub :: LT1):=⟨s144,s147,s161,kpU he15,kpU he16,fun _=>upd_same _ _ _,S⟩
  exact w4 trivial (by simp only [pN L 33 15,pN L 33 16,pN L 33 17,pN L 33 44,pN L 33 45,xR (L:=L) (i:=33),hl44,hl45,cd2] at hT2 ⊢; exact hT2)
 ·rintro L g v hL hcl hclo hT hv32 hv33 hv31
  refine yv (j:=31) (pol:=true) rfl rfl hv31 zam (by simpa using hg157) ?_
  have hl33:L 33=true:=hcl 33 zap
  have hl44:=clF hL (hclo 44 34 · zap)
  have hl45:=clF hL (hclo 45 34 · zap)
  replace hT : ∃ (s144:SlV) (s147:SlV) (s161:SlV),(L 15=true→g 105=s144.v)∧(L 16=true→g 106=s147.v)∧(L 33=true→g 123=Value.agg (tmC r158 s161).toArray)∧St A N w v (zE s147 ([([]:List Int),[0]]) :: LT2) (ze s161 r158.sub :: LT1):=by simp only [hl33,hl44,hl45,cd2] at hT ⊢; exact hT
  obtain ⟨s144,s147,s161,he15,he16,he33,S⟩ := hT
  obtain ⟨_,_,T,bk⟩ := S.calln 0 ((.z 9 rfl (.z 0 rfl .nil)))
  refine zA (zK uE (zN hv32 (zN (he33 (hcl 33 zap)) rfl))) zam (jN (a0:=r61.1) (a1:=r158) T er162) ?_
  rintro _ w202 ⟨rfl,S2⟩
  replace S:=bk _ _ _ _ S2 rfl
  have hT2 : ∃ (s144':SlV) (s147':SlV) (s161':SlV),((plus L 34) 15=true→(upd g 124 (Value.bool r162)) 105=s144'.v)∧((plus L 34) 16=true→(upd g 124 (Value.bool r162)) 106=s147'.v)∧((plus L 34) 33=true→(upd g 124 (Value.bool r162)) 123=Value.agg (tmC r158 s161').toArray)∧St A N w w202 (zE s147' ([([]:List Int),[0]]) :: LT2) (ze s161' r158.sub :: LT1):=⟨s144,s147,s161,kpU he15,kpU he16,kpU he33,S⟩
  exact w4 rfl (by simp only [pN L 34 15,pN L 34 16,pN L 34 17,pN L 34 33,pN L 34 44,pN L 34 45,hl33,hl44,hl45,cd2] at hT2 ⊢; exact hT2)
 ·rintro L g v hL hcl hclo hT hv31 hv34
  have hl33:L 33=true:=hcl 33 zap
  have hl44:=clF hL (hclo 44 35 · zap)
  have hl45:=clF hL (hclo 45 35 · zap)
  replace hT : ∃ (s144:SlV) (s147:SlV) (s161:SlV),(L 15=true→g 105=s144.v)∧(L 16=true→g 106=s147.v)∧(L 33=true→g 123=Value.agg (tmC r158 s161).toArray)∧St A N w v (zE s147 ([([]:List Int),[0]]) :: LT2) (ze s161 r158.sub :: LT1):=by simp only [hl33,hl44,hl45,cd2] at hT ⊢; exact hT
  obtain ⟨s144,s147,s161,he15,he16,he33,S⟩ := hT
  refine wd (zV hv31 (fun hp=>hv34)) ?_
  have hT2 : ∃ (s144':SlV) (s147':SlV) (s161':SlV),((plus L 35) 15=true→(upd g 125 (Value.bool ((((((((decide (r130=0)) && r134) && (decide (r138=0))) && r148) && (decide (r152=0))) && (decide (r61.2.1=3))) && r61.2.2.1) && r162))) 105=s144'.v)∧((plus L 35) 16=true→(upd g 125 (Value.bool ((((((((decide (r130=0)) && r134) && (decide (r138=0))) && r148) && (decide (r152=0))) && (decide (r61.2.1=3))) && r61.2.2.1) && r162))) 106=s147'.v)∧((plus L 35) 33=true→(upd g 125 (Value.bool ((((((((decide (r130=0)) && r134) && (decide (r138=0))) && r148) && (decide (r152=0))) && (decide (r61.2.1=3))) && r61.2.2.1) && r162))) 123=Value.agg (tmC r158 s161').toArray)∧St A N w v (zE s147' ([([]:List Int),[0]]) :: LT2) (ze s161' r158.sub :: LT1):=⟨s144,s147,s161,kpU he15,kpU he16,kpU he33,S⟩
  exact w4 rfl (by simp only [pN L 35 15,pN L 35 16,pN L 35 17,pN L 35 33,pN L 35 44,pN L 35 45,hl33,hl44,hl45,cd2] at hT2 ⊢; exact hT2)
 ·rintro L g v hL hcl hclo hT hv35
  have hl33:L 33=true:=hcl 33 zap
  have hl44:=clF hL (hclo 44 36 · zap)
  have hl45:=clF hL (hclo 45 36 · zap)
  replace hT : ∃ (s144:SlV) (s147:SlV) (s161:SlV),(L 15=true→g 105=s144.v)∧(L 16=true→g 106=s147.v)∧(L 33=true→g 123=Value.agg (tmC r158 s161).toArray)∧St A N w v (zE s147 ([([]:List Int),[0]]) :: LT2) (ze s161 r158.sub :: LT1):=by simp only [hl33,hl44,hl45,cd2] at hT ⊢; exact hT
  obtain ⟨s144,s147,s161,he15,he16,he33,S⟩ := hT
  refine wd (zy hv35) ?_
  have hT2 : ∃ (s144':SlV) (s147':SlV) (s161':SlV),((plus L 36) 15=true→(upd g 126 (Value.bool ((((((((decide (r130=0)) && r134) && (decide (r138=0))) && r148) && (decide (r152=0))) && (decide (r61.2.1=3))) && r61.2.2.1) && r162))) 105=s144'.v)∧((plus L 36) 16=true→(upd g 126 (Value.bool ((((((((decide (r130=0)) && r134) && (decide (r138=0))) && r148) && (decide (r152=0))) && (decide (r61.2.1=3))) && r61.2.2.1) && r162))) 106=s147'.v)∧((plus L 36) 33=true→(upd g 126 (Value.bool ((((((((decide (r130=0)) && r134) && (decide (r138=0))) && r148) && (decide (r152=0))) && (decide (r61.2.1=3))) && r61.2.2.1) && r162))) 123=Value.agg (tmC r158 s161').toArray)∧St A N w v (zE s147' ([([]:List Int),[0]]) :: LT2) (ze s161' r158.sub :: LT1):=⟨s144,s147,s161,kpU he15,kpU he16,kpU he33,S⟩
  exact w4 rfl (by simp only [pN L 36 15,pN L 36 16,pN L 36 17,pN L 36 33,pN L 36 44,pN L 36 45,hl33,hl44,hl45,cd2] at hT2 ⊢; exact hT2)
 ·rintro L g v hL hcl hclo hT hv36
  refine yv (j:=36) (pol:=true) rfl rfl hv36 zam (by simpa using hg165) ?_
  have hl33:L 33=true:=hcl 33 zap
  have hl44:=clF hL (hclo 44 37 · zap)
  have hl45:=clF hL (hclo 45 37 · zap)
  replace hT : ∃ (s144:SlV) (s147:SlV) (s161:SlV),(L 15=true→g 105=s144.v)∧(L 16=true→g 106=s147.v)∧(L 33=true→g 123=Value.agg (tmC r158 s161).toArray)∧St A N w v (zE s147 ([([]:List Int),[0]]) :: LT2) (ze s161 r158.sub :: LT1):=by simp only [hl33,hl44,hl45,cd2] at hT ⊢; exact hT
  obtain ⟨s144,s147,s161,he15,he16,he33,S⟩ := hT
  refine wd (zk rfl) ?_
  have hT2 : ∃ (s144':SlV) (s147':SlV) (s161':SlV),((plus L 37) 15=true→(upd g 127 (Value.int .i64 r68.2)) 105=s144'.v)∧((plus L 37) 16=true→(upd g 127 (Value.int .i64 r68.2)) 106=s147'.v)∧((plus L 37) 33=true→(upd g 127 (Value.int .i64 r68.2)) 123=Value.agg (tmC r158 s161').toArray)∧St A N w v (zE s147' ([([]:List Int),[0]]) :: LT2) (ze s161' r158.sub :: LT1):=⟨s144,s147,s161,kpU he15,kpU he16,kpU he33,S⟩
  exact w4 rfl (by simp only [pN L 37 15,pN L 37 16,pN L 37 17,pN L 37 33,pN L 37 44,pN L 37 45,hl33,hl44,hl45,cd2] at hT2 ⊢; exact hT2)
 ·rintro L g v hL hcl hclo hT hv37 hv36
  refine yv (j:=36) (pol:=true) rfl rfl hv36 zam (by simpa using hg165) ?_
  have hl33:L 33=true:=hcl 33 zap
  have hl44:=clF hL (hclo 44 38 · zap)
  have hl45:=clF hL (hclo 45 38 · zap)
  replace hT : ∃ (s144:SlV) (s147:SlV) (s161:SlV),(L 15=true→g 105=s144.v)∧(L 16=true→g 106=s147.v)∧(L 33=true→g 123=Value.agg (tmC r158 s161).toArray)∧St A N w v (zE s147 ([([]:List Int),[0]]) :: LT2) (ze s161 r158.sub :: LT1):=by simp only [hl33,hl44,hl45,cd2] at hT ⊢; exact hT
  obtain ⟨s144,s147,s161,he15,he16,he33,S⟩ := hT
  obtain ⟨_,_,T,bk⟩ := S.calln 0 ((.nil))
  refine zA (zK yg (zN hv37 rfl)) zam (yh T er166) ?_
  rintro _ w205 ⟨rfl,S2⟩
  replace S:=bk _ _ _ _ S2 rfl
  have hT2 : ∃ (s144':SlV) (s147':SlV) (s161':SlV),((plus L 38) 15=true→(upd g 128 (Value.int .i64 r166)) 105=s144'.v)∧((plus L 38) 16=true→(upd g 128 (Value.int .i64 r166)) 106=s147'.v)∧((plus L 38) 33=true→(upd g 128 (Value.int .i64 r166)) 123=Value.agg (tmC r158 s161').toArray)∧St A N w w205 (zE s147' ([([]:List Int),[0]]) :: LT2) (ze s161' r158.sub :: LT1):=⟨s144,s147,s161,kpU he15,kpU he16,kpU he33,S⟩
  exact w4 rfl (by simp only [pN L 38 15,pN L 38 16,pN L 38 17,pN L 38 33,pN L 38 44,pN L 38 45,hl33,hl44,hl45,cd2] at hT2 ⊢; exact hT2)
 ·rintro L g v hL hcl hclo hT hv38 hv36
  refine yv (j:=36) (pol:=true) rfl rfl hv36 zam (by simpa using hg165) ?_
  have hl33:L 33=true:=hcl 33 zap
  have hl44:=clF hL (hclo 44 39 · zap)
  have hl45:=clF hL (hclo 45 39 · zap)
  replace hT : ∃ (s144:SlV) (s147:SlV) (s161:SlV),(L 15=true→g 105=s144.v)∧(L 16=true→g 106=s147.v)∧(L 33=true→g 123=Value.agg (tmC r158 s161).toArray)∧St A N w v (zE s147 ([([]:List Int),[0]]) :: LT2) (ze s161 r158.sub :: LT1):=by simp only [hl33,hl44,hl45,cd2] at hT ⊢; exact hT
  obtain ⟨s144,s147,s161,he15,he16,he33,S⟩ := hT
  refine wd (zR hv38 rfl) ?_
  have hT2 : ∃ (s144':SlV) (s147':SlV) (s161':SlV),((plus L 39) 15=true→(upd g 129 (Value.bool (decide (r166=0)))) 105=s144'.v)∧((plus L 39) 16=true→(upd g 129 (Value.bool (decide (r166=0)))) 106=s147'.v)∧((plus L 39) 33=true→(upd g 129 (Value.bool (decide (r166=0)))) 123=Value.agg (tmC r158 s161').toArray)∧St A N w v (zE s147' ([([]:List Int),[0]]) :: LT2) (ze s161' r158.sub :: LT1):=⟨s144,s147,s161,kpU he15,kpU he16,kpU he33,S⟩
  exact w4 rfl (by simp only [pN L 39 15,pN L 39 16,pN L 39 17,pN L 39 33,pN L 39 44,pN L 39 45,hl33,hl44,hl45,cd2] at hT2 ⊢; exact hT2)
 ·rintro L g v hL hcl hclo hT hv36 hv39
  have hl33:L 33=true:=hcl 33 zap
  have hl44:=clF hL (hclo 44 40 · zap)
  have hl45:=clF hL (hclo 45 40 · zap)
  replace hT : ∃ (s144:SlV) (s147:SlV) (s161:SlV),(L 15=true→g 105=s144.v)∧(L 16=true→g 106=s147.v)∧(L 33=true→g 123=Value.agg (tmC r158 s161).toArray)∧St A N w v (zE s147 ([([]:List Int),[0]]) :: LT2) (ze s161 r158.sub :: LT1):=by simp only [hl33,hl44,hl45,cd2] at hT ⊢; exact hT
  obtain ⟨s144,s147,s161,he15,he16,he33,S⟩ := hT
  refine wd (zV hv36 (fun hp=>hv39)) ?_
  have hT2 : ∃ (s144':SlV) (s147':SlV) (s161':SlV),((plus L 40) 15=true→(upd g 130 (Value.bool (((((((((decide (r130=0)) && r134) && (decide (r138=0))) && r148) && (decide (r152=0))) && (decide (r61.2.1=3))) && r61.2.2.1) && r162) && (decide (r166=0))))) 105=s144'.v)∧((plus L 40) 16=true→(upd g 130 (Value.bool (((((((((decide (r130=0)) && r134) && (decide (r138=0))) && r148) && (decide (r152=0))) && (decide (r61.2.1=3))) && r61.2.2.1) && r162) && (decide (r166=0))))) 106=s147'.v)∧((plus L 40) 33=true→(upd g 130 (Value.bool (((((((((decide (r130=0)) && r134) && (decide (r138=0))) && r148) && (decide (r152=0))) && (decide (r61.2.1=3))) && r61.2.2.1) && r162) && (decide (r166=0))))) 123=Value.agg (tmC r158 s161').toArray)∧St A N w v (zE s147' ([([]:List Int),[0]]) :: LT2) (ze s161' r158.sub :: LT1):=⟨s144,s147,s161,kpU he15,kpU he16,kpU he33,S⟩
  exact w4 rfl (by simp only [pN L 40 15,pN L 40 16,pN L 40 17,pN L 40 33,pN L 40 44,pN L 40 45,hl33,hl44,hl45,cd2] at hT2 ⊢; exact hT2)
 ·rintro L g v hL hcl hclo hT hv40
  have hl33:L 33=true:=hcl 33 zap
  have hl44:=clF hL (hclo 44 41 · zap)
  have hl45:=clF hL (hclo 45 41 · zap)
  replace hT : ∃ (s144:SlV) (s147:SlV) (s161:SlV),(L 15=true→g 105=s144.v)∧(L 16=true→g 106=s147.v)∧(L 33=true→g 123=Value.agg (tmC r158 s161).toArray)∧St A N w v (zE s147 ([([]:List Int),[0]]) :: LT2) (ze s161 r158.sub :: LT1):=by simp only [hl33,hl44,hl45,cd2] at hT ⊢; exact hT
  obtain ⟨s144,s147,s161,he15,he16,he33,S⟩ := hT
  refine wd (zy hv40) ?_
  have hT2 : ∃ (s144':SlV) (s147':SlV) (s161':SlV),((plus L 41) 15=true→(upd g 131 (Value.bool (((((((((decide (r130=0)) && r134) && (decide (r138=0))) && r148) && (decide (r152=0))) && (decide (r61.2.1=3))) && r61.2.2.1) && r162) && (decide (r166=0))))) 105=s144'.v)∧((plus L 41) 16=true→(upd g 131 (Value.bool (((((((((decide (r130=0)) && r134) && (decide (r138=0))) && r148) && (decide (r152=0))) && (decide (r61.2.1=3))) && r61.2.2.1) && r162) && (decide (r166=0))))) 106=s147'.v)∧((plus L 41) 33=true→(upd g 131 (Value.bool (((((((((decide (r130=0)) && r134) && (decide (r138=0))) && r148) && (decide (r152=0))) && (decide (r61.2.1=3))) && r61.2.2.1) && r162) && (decide (r166=0))))) 123=Value.agg (tmC r158 s161').toArray)∧St A N w v (zE s147' ([([]:List Int),[0]]) :: LT2) (ze s161' r158.sub :: LT1):=⟨s144,s147,s161,kpU he15,kpU he16,kpU he33,S⟩
  exact w4 rfl (by simp only [pN L 41 15,pN L 41 16,pN L 41 17,pN L 41 33,pN L 41 44,pN L 41 45,hl33,hl44,hl45,cd2] at hT2 ⊢; exact hT2)
 ·rintro L g v hL hcl hclo hT hv41
  refine yv (j:=41) (pol:=true) rfl rfl hv41 zam (by simpa using hg169) ?_
  have hl33:L 33=true:=hcl 33 zap
  cases hl45:L 45 with
  | true =>
   replace hT : ∃ (s144:SlV) (s147:SlV) (s161:SlV) (s173:SlV) (s176:SlV),(L 15=true→g 105=s144.v)∧(L 16=true→g 106=s147.v)∧(L 33=true→g 123=Value.agg (tmC r158 s161).toArray)∧(L 44=true→g 134=Value.agg (tmC r158 s173).toArray)∧(L 45=true→g 135=s176.v)∧(L 46=true→g 136=Value.agg (Term.C (tmN 3 0 s176)).toArray)∧St A N w v (zE s147 ([([]:List Int),[0]]) :: LT2) (ze s176 ([(ptM 2 (bA #[120]) [r11]),r158]) :: ze s173 r158.sub :: ze s161 r158.sub :: LT1):=by simp only [hl45,cd2] at hT ⊢; exact hT
   obtain ⟨s144,s147,s161,s173,s176,he15,he16,he33,he44,he45,he46,S⟩ := hT
   refine wd (ldT rfl (S.blk 3)) ?_
   have hT2 : ∃ (s144':SlV) (s147':SlV) (s161':SlV) (s173':SlV) (s176':SlV),((plus L 42) 15=true→(upd g 132 (Value.agg (tmC r68.1 s71).toArray)) 105=s144'.v)∧((plus L 42) 16=true→(upd g 132 (Value.agg (tmC r68.1 s71).toArray)) 106=s147'.v)∧((plus L 42) 33=true→(upd g 132 (Value.agg (tmC r68.1 s71).toArray)) 123=Value.agg (tmC r158 s161').toArray)∧((plus L 42) 44=true→(upd g 132 (Value.agg (tmC r68.1 s71).toArray)) 134=Value.agg (tmC r158 s173').toArray)∧((plus L 42) 45=true→(upd g 132 (Value.agg (tmC r68.1 s71).toArray)) 135=s176'.v)∧((plus L 42) 46=true→(upd g 132 (Value.agg (tmC r68.1 s71).toArray)) 136=Value.agg (Term.C (tmN 3 0 s176')).toArray)∧St A N w v (zE s147' ([([]:List Int),[0]]) :: LT2) (ze s176' ([(ptM 2 (bA #[120]) [r11]),r158]) :: ze s173' r158.sub :: ze s161' r158.sub :: LT1):=⟨s144,s147,s161,s173,s176,kpU he15,kpU he16,kpU he33,kpU he44,kpU he45,kpU he46,S⟩
   exact w4 rfl (by simp only [pN L 42 15,pN L 42 16,pN L 42 17,pN L 42 33,pN L 42 44,pN L 42 45,hl45,cd2] at hT2 ⊢; exact hT2)
  | false =>
   cases hl44:L 44 with
   | true =>
    replace hT : ∃ (s144:SlV) (s147:SlV) (s161:SlV) (s173:SlV),(L 15=true→g 105=s144.v)∧(L 16=true→g 106=s147.v)∧(L 33=true→g 123=Value.agg (tmC r158 s161).toArray)∧(L 44=true→g 134=Value.agg (tmC r158 s173).toArray)∧St A N w v (zE s147 ([([]:List Int),[0]]) :: LT2) (ze s173 r158.sub :: ze s161 r158.sub :: LT1):=by simp only [hl44,hl45,cd2] at hT ⊢; exact hT
    obtain ⟨s144,s147,s161,s173,he15,he16,he33,he44,S⟩ := hT
    refine wd (ldT rfl (S.blk 3)) ?_
    have hT2 : ∃ (s144':SlV) (s147':SlV) (s161':SlV) (s173':SlV),((plus L 42) 15=true→(upd g 132 (Value.agg (tmC r68.1 s71).toArray)) 105=s144'.v)∧((plus L 42) 16=true→(upd g 132 (Value.agg (tmC r68.1 s71).toArray)) 106=s147'.v)∧((plus L 42) 33=true→(upd g 132 (Value.agg (tmC r68.1 s71).toArray)) 123=Value.agg (tmC r158 s161').toArray)∧((plus L 42) 44=true→(upd g 132 (Value.agg (tmC r68.1 s71).toArray)) 134=Value.agg (tmC r158 s173').toArray)∧St A N w v (zE s147' ([([]:List Int),[0]]) :: LT2) (ze s173' r158.sub :: ze s161' r158.sub :: LT1):=⟨s144,s147,s161,s173,kpU he15,kpU he16,kpU he33,kpU he44,S⟩
    exact w4 rfl (by simp only [pN L 42 15,pN L 42 16,pN L 42 17,pN L 42 33,pN L 42 44,pN L 42 45,hl44,hl45,cd2] at hT2 ⊢; exact hT2)
   | false =>
    replace hT : ∃ (s144:SlV) (s147:SlV) (s161:SlV),(L 15=true→g 105=s144.v)∧(L 16=true→g 106=s147.v)∧(L 33=true→g 123=Value.agg (tmC r158 s161).toArray)∧St A N w v (zE s147 ([([]:List Int),[0]]) :: LT2) (ze s161 r158.sub :: LT1):=by simp only [hl33,hl44,hl45,cd2] at hT ⊢; exact hT
    obtain ⟨s144,s147,s161,he15,he16,he33,S⟩ := hT
    refine wd (ldT rfl (S.blk 3)) ?_
    have hT2 : ∃ (s144':SlV) (s147':SlV) (s161':SlV),((plus L 42) 15=true→(upd g 132 (Value.agg (tmC r68.1 s71).toArray)) 105=s144'.v)∧((plus L 42) 16=true→(upd g 132 (Value.agg (tmC r68.1 s71).toArray)) 106=s147'.v)∧((plus L 42) 33=true→(upd g 132 (Value.agg (tmC r68.1 s71).toArray)) 123=Value.agg (tmC r158 s161').toArray)∧St A N w v (zE s147' ([([]:List Int),[0]]) :: LT2) (ze s161' r158.sub :: LT1):=⟨s144,s147,s161,kpU he15,kpU he16,kpU he33,S⟩
    exact w4 rfl (by simp only [pN L 42 15,pN L 42 16,pN L 42 17,pN L 42 33,pN L 42 44,pN L 42 45,hl33,hl44,hl45,cd2] at hT2 ⊢; exact hT2)
 ·rintro L g v hL hcl hclo hT hv41
  refine yv (j:=41) (pol:=true) rfl rfl hv41 zam (by simpa using hg169) ?_
  have hl33:L 33=true:=hcl 33 zap
  have hl45:=clF hL (hclo 45 43 · zap)
  cases hl44:L 44 with
  | true =>
   replace hT : ∃ (s144:SlV) (s147:SlV) (s161:SlV) (s173:SlV),(L 15=true→g 105=s144.v)∧(L 16=true→g 106=s147.v)∧(L 33=true→g 123=Value.agg (tmC r158 s161).toArray)∧(L 44=true→g 134=Value.agg (tmC r158 s173).toArray)∧St A N w v (zE s147 ([([]:List Int),[0]]) :: LT2) (ze s173 r158.sub :: ze s161 r158.sub :: LT1):=by simp only [hl44,hl45,cd2] at hT ⊢; exact hT
   obtain ⟨s144,s147,s161,s173,he15,he16,he33,he44,S⟩ := hT
   refine wd (ldT rfl (S.blk 8)) ?_
   have hT2 : ∃ (s144':SlV) (s147':SlV) (s161':SlV) (s173':SlV),((plus L 43) 15=true→(upd g 133 (Value.agg (Term.C (tmM 2 (bA #[120]) s17)).toArray)) 105=s144'.v)∧((plus L 43) 16=true→(upd g 133 (Value.agg (Term.C (tmM 2 (bA #[120]) s17)).toArray)) 106=s147'.v)∧((plus L 43) 33=true→(upd g 133 (Value.agg (Term.C (tmM 2 (bA #[120]) s17)).toArray)) 123=Value.agg (tmC r158 s161').toArray)∧((plus L 43) 44=true→(upd g 133 (Value.agg (Term.C (tmM 2 (bA #[120]) s17)).toArray)) 134=Value.agg (tmC r158 s173').toArray)∧St A N w v (zE s147' ([([]:List Int),[0]]) :: LT2) (ze s173' r158.sub :: ze s161' r158.sub :: LT1):=⟨s144,s147,s161,s173,kpU he15,kpU he16,kpU he33,kpU he44,S⟩
   exact w4 rfl (by simp only [pN L 43 15,pN L 43 16,pN L 43 17,pN L 43 33,pN L 43 44,pN L 43 45,hl44,hl45,cd2] at hT2 ⊢; exact hT2)
  | false =>
   replace hT : ∃ (s144:SlV) (s147:SlV) (s161:SlV),(L 15=true→g 105=s144.v)∧(L 16=true→g 106=s147.v)∧(L 33=true→g 123=Value.agg (tmC r158 s161).toArray)∧St A N w v (zE s147 ([([]:List Int),[0]]) :: LT2) (ze s161 r158.sub :: LT1):=by simp only [hl33,hl44,hl45,cd2] at hT ⊢; exact hT
   obtain ⟨s144,s147,s161,he15,he16,he33,S⟩ := hT
   refine wd (ldT rfl (S.blk 8)) ?_
   have hT2 : ∃ (s144':SlV) (s147':SlV) (s161':SlV),((plus L 43) 15=true→(upd g 133 (Value.agg (Term.C (tmM 2 (bA #[120]) s17)).toArray)) 105=s144'.v)∧((plus L 43) 16=true→(upd g 133 (Value.agg (Term.C (tmM 2 (bA #[120]) s17)).toArray)) 106=s147'.v)∧((plus L 43) 33=true→(upd g 133 (Value.agg (Term.C (tmM 2 (bA #[120]) s17)).toArray)) 123=Value.agg (tmC r158 s161').toArray)∧St A N w v (zE s147' ([([]:List Int),[0]]) :: LT2) (ze s161' r158.sub :: LT1):=⟨s144,s147,s161,kpU he15,kpU he16,kpU he33,S⟩
   exact w4 rfl (by simp only [pN L 43 15,pN L 43 16,pN L 43 17,pN L 43 33,pN L 43 44,pN L 43 45,hl33,hl44,hl45,cd2] at hT2 ⊢; exact hT2)
 ·rintro L g v hL hcl hclo hT hv41
  refine yv (j:=41) (pol:=true) rfl rfl hv41 zam (by simpa using hg169) ?_
  have hl33:L 33=true:=hcl 33 zap
  have hl44:L 44=false:=hL
  have hl45:=clF hL (hclo 45 44 · zap)
  replace hT : ∃ (s144:SlV) (s147:SlV) (s161:SlV),(L 15=true→g 105=s144.v)∧(L 16=true→g 106=s147.v)∧(L 33=true→g 123=Value.agg (tmC r158 s161).toArray)∧St A N w v (zE s147 ([([]:List Int),[0]]) :: LT2) (ze s161 r158.sub :: LT1):=by simp only [hl33,hl44,hl45,cd2] at hT ⊢; exact hT
  obtain ⟨s144,s147,s161,he15,he16,he33,S⟩ := hT
  obtain ⟨_,_,T,bk⟩ := S.sub [] [] (zE s147 ([([]:List Int),[0]]) :: LT2)
  refine zA (zx vz) zam (vB T er158) ?_
  rintro _ w208 ⟨s173,rfl,S2⟩
  replace S:=bk _ _ _ _ _ S2 rfl rfl
  have hT2 : ∃ (s144':SlV) (s147':SlV) (s161':SlV) (s173':SlV),((plus L 44) 15=true→(upd g 134 (Value.agg (tmC r158 s173).toArray)) 105=s144'.v)∧((plus L 44) 16=true→(upd g 134 (Value.agg (tmC r158 s173).toArray)) 106=s147'.v)∧((plus L 44) 33=true→(upd g 134 (Value.agg (tmC r158 s173).toArray)) 123=Value.agg (tmC r158 s161').toArray)∧((plus L 44) 44=true→(upd g 134 (Value.agg (tmC r158 s173).toArray)) 134=Value.agg (tmC r158 s173').toArray)∧St A N w w208 (zE s147' ([([]:List Int),[0]]) :: LT2) (ze s173' r158.sub :: ze s161' r158.sub :: LT1):=⟨s144,s147,s161,s173,kpU he15,kpU he16,kpU he33,fun _=>upd_same _ _ _,S⟩
  exact w4 trivial (by simp only [pN L 44 15,pN L 44 16,pN L 44 17,pN L 44 33,pN L 44 45,xR (L:=L) (i:=44),hl45,cd2] at hT2 ⊢; exact hT2)
 ·rintro L g v hL hcl hclo hT hv43 hv44 hv41
  refine yv (j:=41) (pol:=true) rfl rfl hv41 zam (by simpa using hg169) ?_
  have hl44:L 44=true:=hcl 44 zap
  have hl45:L 45=false:=hL
  replace hT : ∃ (s144:SlV) (s147:SlV) (s161:SlV) (s173:SlV),(L 15=true→g 105=s144.v)∧(L 16=true→g 106=s147.v)∧(L 33=true→g 123=Value.agg (tmC r158 s161).toArray)∧(L 44=true→g 134=Value.agg (tmC r158 s173).toArray)∧St A N w v (zE s147 ([([]:List Int),[0]]) :: LT2) (ze s173 r158.sub :: ze s161 r158.sub :: LT1):=by simp only [hl44,hl45,cd2] at hT ⊢; exact hT
  obtain ⟨s144,s147,s161,s173,he15,he16,he33,he44,S⟩ := hT
  refine vi (C:=Term.C) (l:=[(tmM 2 (bA #[120]) s17),(tmT r158 s173)]) (vs:=[.agg (Term.C (tmM 2 (bA #[120]) s17)).toArray,.agg (tmC r158 s173).toArray]) zq uu.zero (xK hv43 (xK (he44 (hcl 44 zap)) rfl)) rfl (fun a _=>Term.len a) zam rfl zam fun b211 w210 s176 hBw210 hw210=>?_
  replace S:=((S.lit hBw210 hw210 zao).bigTm).consTm (x:=r158) 0
  replace S:=((S.consTm (x:=(ptM 2 (bA #[120]) [r11])) 17).frzTm 0 0).zs ([0] ++ rg 2 20)
  have hT2 : ∃ (s144':SlV) (s147':SlV) (s161':SlV) (s173':SlV) (s176':SlV),((plus L 45) 15=true→(upd g 135 (s176.v)) 105=s144'.v)∧((plus L 45) 16=true→(upd g 135 (s176.v)) 106=s147'.v)∧((plus L 45) 33=true→(upd g 135 (s176.v)) 123=Value.agg (tmC r158 s161').toArray)∧((plus L 45) 44=true→(upd g 135 (s176.v)) 134=Value.agg (tmC r158 s173').toArray)∧((plus L 45) 45=true→(upd g 135 (s176.v)) 135=s176'.v)∧((plus L 45) 46=true→(upd g 135 (s176.v)) 136=Value.agg (Term.C (tmN 3 0 s176')).toArray)∧St A N w w210 (zE s147' ([([]:List Int),[0]]) :: LT2) (ze s176' ([(ptM 2 (bA #[120]) [r11]),r158]) :: ze s173' r158.sub :: ze s161' r158.sub :: LT1):=⟨s144,s147,s161,s173,s176,kpU he15,kpU he16,kpU he33,kpU he44,fun _=>upd_same _ _ _,fun h=>absurd (hclo 46 45 (by rw [plus_ne rfl] at h; exact h) zap) (by rw [hL]; decide),S⟩
  exact w4 trivial (by simp only [pN L 45 15,pN L 45 16,pN L 45 17,pN L 45 33,pN L 45 44,xR (L:=L) (i:=45),cd2] at hT2 ⊢; exact hT2)
 ·rintro L g v hL hcl hclo hT hv45 hv41
  refine yv (j:=41) (pol:=true) rfl rfl hv41 zam (by simpa using hg169) ?_
  have hl45:L 45=true:=hcl 45 zap
  replace hT : ∃ (s144:SlV) (s147:SlV) (s161:SlV) (s173:SlV) (s176:SlV),(L 15=true→g 105=s144.v)∧(L 16=true→g 106=s147.v)∧(L 33=true→g 123=Value.agg (tmC r158 s161).toArray)∧(L 44=true→g 134=Value.agg (tmC r158 s173).toArray)∧(L 45=true→g 135=s176.v)∧(L 46=true→g 136=Value.agg (Term.C (tmN 3 0 s176)).toArray)∧St A N w v (zE s147 ([([]:List Int),[0]]) :: LT2) (ze s176 ([(ptM 2 (bA #[120]) [r11]),r158]) :: ze s173 r158.sub :: ze s161 r158.sub :: LT1):=by simp only [hl45,cd2] at hT ⊢; exact hT
  obtain ⟨s144,s147,s161,s173,s176,he15,he16,he33,he44,he45,he46,S⟩ := hT
  refine wd (Does.to (v' := .agg (Term.C (tmN 3 0 s176)).toArray) (xa (vs:=[(0,.int .i64 3),(4,s176.v)]) yl (xK rfl (xK (he45 (hcl 45 zap)) rfl)) (Bld.one rfl rfl (by rw [Term.len]; decide) (Term.set_kind _ _) (Bld.one rfl (SlV.one _ _ rfl) (by rw [Term.len]; decide) (Term.set_sub _ _) Bld.nil))) rfl) ?_
  have hT2 : ∃ (s144':SlV) (s147':SlV) (s161':SlV) (s173':SlV) (s176':SlV),((plus L 46) 15=true→(upd g 136 (Value.agg (Term.C (tmN 3 0 s176)).toArray)) 105=s144'.v)∧((plus L 46) 16=true→(upd g 136 (Value.agg (Term.C (tmN 3 0 s176)).toArray)) 106=s147'.v)∧((plus L 46) 33=true→(upd g 136 (Value.agg (Term.C (tmN 3 0 s176)).toArray)) 123=Value.agg (tmC r158 s161').toArray)∧((plus L 46) 44=true→(upd g 136 (Value.agg (Term.C (tmN 3 0 s176)).toArray)) 134=Value.agg (tmC r158 s173').toArray)∧((plus L 46) 45=true→(upd g 136 (Value.agg (Term.C (tmN 3 0 s176)).toArray)) 135=s176'.v)∧((plus L 46) 46=true→(upd g 136 (Value.agg (Term.C (tmN 3 0 s176)).toArray)) 136=Value.agg (Term.C (tmN 3 0 s176')).toArray)∧St A N w v (zE s147' ([([]:List Int),[0]]) :: LT2) (ze s176' ([(ptM 2 (bA #[120]) [r11]),r158]) :: ze s173' r158.sub :: ze s161' r158.sub :: LT1):=⟨s144,s147,s161,s173,s176,kpU he15,kpU he16,kpU he33,kpU he44,kpU he45,fun _=>upd_same _ _ _,S⟩
  exact w4 trivial (by simp only [pN L 46 15,pN L 46 16,pN L 46 17,pN L 46 33,pN L 46 44,pN L 46 45,hl45,cd2] at hT2 ⊢; exact hT2)
 rintro L g w213 hLm hT hv214_0 hv214_1 hv214_2 hv214_3 hv214_4 hv214_5 hv214_6 hv214_7 hv214_8 hv214_9 hv214_10 hv214_11 hv214_12 hv214_13 hv214_14 _ _ hv214_17 hv214_18 hv214_19 hv214_20 hv214_21 hv214_22 hv214_23 hv214_24 hv214_25 hv214_26 hv214_27 hv214_28 hv214_29 hv214_30 hv214_31 hv214_32 _ hv214_34 hv214_35 hv214_36 hv214_37 hv214_38 hv214_39 hv214_40 hv214_41 hv214_42 hv214_43 _ _ _
 have hLt : ∀ j,j < 47→L j=true:=fun j hj=>by rw [hLm]; exact decide_eq_true hj
 replace hT : ∃ (s144:SlV) (s147:SlV) (s161:SlV) (s173:SlV) (s176:SlV),(L 15=true→g 105=s144.v)∧(L 16=true→g 106=s147.v)∧(L 33=true→g 123=Value.agg (tmC r158 s161).toArray)∧(L 44=true→g 134=Value.agg (tmC r158 s173).toArray)∧(L 45=true→g 135=s176.v)∧(L 46=true→g 136=Value.agg (Term.C (tmN 3 0 s176)).toArray)∧St A N w w213 (zE s147 ([([]:List Int),[0]]) :: LT2) (ze s176 ([(ptM 2 (bA #[120]) [r11]),r158]) :: ze s173 r158.sub :: ze s161 r158.sub :: LT1):=by simp only [hLt 45 zam,cond_true] at hT ⊢; exact hT
 obtain ⟨s144,s147,s161,s173,s176,he15,he16,he33,he44,he45,he46,S⟩ := hT
 have hv214_15:=he15 (hLt 15 zam)
 have hv214_16:=he16 (hLt 16 zam)
 have hv214_33:=he33 (hLt 33 zam)
 have hv214_44:=he44 (hLt 44 zam)
 have hv214_45:=he45 (hLt 45 zam)
 have hv214_46:=he46 (hLt 46 zam)
 replace S:=S
 obtain ⟨r215,er215,H⟩ := zp H
 refine xJ (j:=41) (pol:=true) rfl rfl hv214_41 zam (fun hg=>zK uE (zN hv214_42 (zN hv214_46 rfl))) zam (fun hg=>(have ⟨M,SS⟩ := S.lend ((.z 10 rfl (.z 0 rfl .nil))); quiet (jN (a0:=r68.1) (a1:=(ptN 3 0 [(ptM 2 (bA #[120]) [r11]),r158])) SS (if_t (by simpa using hg) er215)) (fun v w' h=>⟨h.1,_,_,h.2⟩))) fun w216 hw216=>?_
 replace S:=S.ext hw216
 refine wd (zV hv214_41 (fun hp=>(zn (xl hp)))) (wd (zy rfl) ?_)
 refine wg (fun hg=>zk rfl) ?_
 obtain ⟨r217,er217,H⟩ := zp H
 refine xJ (j:=49) (pol:=true) rfl rfl rfl zam (fun hg=>zK yg (zN (zn hg) rfl)) zam (fun hg=>(have ⟨M,SS⟩ := S.lend ((.nil)); quiet (yh SS (if_t (by simpa using hg) er217)) (fun v w' h=>⟨h.1,_,_,h.2⟩))) fun w218 hw218=>?_
 replace S:=S.ext hw218
 refine wg (fun hg=>zR (zn hg) rfl) (wd (zV rfl (fun hp=>(zn (xl hp)))) (wd (zy rfl) ?_))
 refine wg (fun hg=>zy rfl) (wd (zV rfl (fun hp=>(zn (xl hp)))) (wd (zy rfl) ?_))
 refine wg (fun hg=>zk rfl) ?_
 obtain ⟨r219,er219,H⟩ := zp H
 refine xJ (j:=57) (pol:=true) rfl rfl rfl zam (fun hg=>zK yg (zN (zn hg) rfl)) zam (fun hg=>(have ⟨M,SS⟩ := S.lend ((.nil)); quiet (yh SS (if_t (by simpa using hg) er219)) (fun v w' h=>⟨h.1,_,_,h.2⟩))) fun w220 hw220=>?_
 replace S:=S.ext hw220
 refine wg (fun hg=>zR (zn hg) rfl) (wd (zV rfl (fun hp=>(zn (xl hp)))) (wd (zi rfl) (zd (zr ?_))))
 refine ⟨_,(zP (zf rfl)),?_⟩
 replace S:=S.arr [] []
 obtain rfl:=zaq H
 exact ⟨rfl,S⟩
end
section
namespace Gw
open Go.RowKit
end Gw
end
section
open Gw Go.RowKit
set_option maxHeartbeats 4000000
set_option maxRecDepth 20000
theorem law04_Tables_st {A:Nat→Prop} {N:Oth} {w:World} {a0:List Nd} {s_0:SlV} (S:St A N w w [] [fS 4 Nd.C s_0 a0]) {r:Tb × Tb} (H:zcb.f a0=some r) :
  Calls PP F_law04_Tables #[s_0.v] w <| Rt fun v w'=>(∃ ao0:Option Addr,∃ ao1:Option Addr,v = .tuple #[.pointer ao0,.pointer ao1]∧St A N w w' [oT ao0 r.1,oR ao1 r.2] []):=by
 unfold zcb.f at H
 refine zu (n:=20) Tryz.func9 rfl rfl zao (zb (za ?_))
 replace S:=S.add (Ext.refl _) (oT.nil _) (fun _ x=>x.elim)
 refine wd (zZ rfl) ?_
 replace S:=S.add (Ext.refl _) (oR.nil _) (fun _ x=>x.elim)
 refine wd (zZ rfl) (zd (zb (za (wd (zM rfl) ?_))))
 obtain ⟨r1,er1,H⟩ := zp H
 obtain ⟨_,_,T,bk⟩ := S.calln 0 ((.z 0 rfl .nil))
 refine zA (zx ca_law03_Both) zam (law03_Both_st T er1) ?_
 rintro _ w2 ⟨a4,a5,rfl,S2⟩
 replace S:=bk _ _ _ _ S2 rfl
 refine wd (xb rfl) (wd (zo rfl rfl) (wd (zo rfl rfl) (wd (zo rfl rfl) (wd (zZ rfl) (wd (zZ rfl) ?_)))))
 refine wd (zi rfl) (zd (zb (zb (za (wd (zy rfl) (wd (xf rfl) (zd ?_)))))))
 refine zI rfl (fun hc6=>?_) (fun hc6=>?_)
 ·replace H:=if_t hc6 H
  refine zb (za ?_)
  obtain ⟨r7,er7,H⟩ := zp H
  obtain ⟨_,_,T,bk⟩ := S.calln 0 ((.nil))
  refine zA (zx jh) zam (jm T er7) ?_
  rintro _ w8 ⟨a10,rfl,S2⟩
  replace S:=bk _ _ _ _ S2 rfl
  refine wd (vP bu_RTab Bld.nil) ?_
  refine zH rfl zam fun b12 w11 hw11=>?_
  replace S:St A N w w11 [oR (some ⟨b12,0,none⟩) (some []),oT a10 r7,oT a4 r1.1,oR a5 r1.2.1,oR none none,oT none none] [fS 4 Nd.C s_0 a0]:=((S.nil T_Nd 4 Nd.C).new hw11).shutR rfl
  refine wd (zZ rfl) (wd (zZ rfl) (zd (zr ?_)))
  refine ⟨_,(xm (zf rfl) (zf rfl)),?_⟩
  replace S:=S.arr [1,0] []
  obtain rfl:=zaq H
  exact ⟨a10,(some ⟨b12,0,none⟩),rfl,S⟩
 replace H:=if_f hc6 H
 refine zw (zb (za (wd (zB rfl) (wd (zB rfl) (wd (zZ rfl) (wd (zZ rfl) (zd (zr ?_))))))))
 refine ⟨_,(xm (zf rfl) (zf rfl)),?_⟩
 replace S:=S.arr [0,1] []
 obtain rfl:=zaq H
 exact ⟨a4,a5,rfl,S⟩
theorem ref12_Copy_gst {zcz:PTerm→Option PTerm} (zcl : ∀ {A:Nat→Prop} {N:Oth} {w:World} {a0:PTerm} {s_0:SlV} (S:St A N w w [] [ze s_0 a0.sub]) {r:PTerm} (H:zcz a0=some r),Calls PP uY #[.agg (tmC a0 s_0).toArray] w <| Rt fun v w'=>(∃ so0:SlV,v = .agg (tmC r so0).toArray∧St A N w w' [] [ze so0 r.sub])) {A:Nat→Prop} {N:Oth} {w:World} {a0:PTerm} {s_0:SlV} (S:St A N w w [] [ze s_0 a0.sub]) {k:Nat} {r:PTerm} (H:zcc.g zcz k a0=some r) :
  Calls PP uY #[.agg (tmC a0 s_0).toArray] w <| Rt fun v w'=>(∃ so0:SlV,v = .agg (tmC r so0).toArray∧St A N w w' [] [ze so0 r.sub]):=by
 unfold zcc.g at H
 refine zu (n:=26) Tryz.func10 rfl rfl zao (zb (za ?_))
 refine zH rfl zam fun b2 w1 hw1=>?_
 replace S:=S.new hw1
 refine zQ xn zam fun b4 w3 hw3=>?_
 replace S:=S.new hw3
 refine zd (zb (za (wd (ldT rfl (S.blk 1)) ?_)))
 refine zQ xn zam fun b6 w5 hw5=>?_
 replace S:=S.new hw5
 refine wsT rfl rfl (S.blk 0) fun w7 B hw7 zw7=>?_
 replace S:=S.store 0 B hw7
 refine zd (zb (za (wd (zg zD rfl (o':=4) rfl) ?_)))
 refine yE zz rfl SlV.nil_eq (S.blk 0) (by rw [Term.len]; decide) (SlV.one _ _ rfl) (Term.set_sub _ _) fun w8 B hw8 zw8=>?_
 replace S:=S.store 0 B hw8
 refine zd (zb (zb (za (wd (zh rfl) (zd ?_)))))
 replace S:=((S.nil zm 5 Term.C).bigTm).nil zm 5 Term.C
 replace S:=S.bigTm
 obtain ⟨o9,e9,Ho9⟩ := zp H
 clear H
 refine xL ([4] ++ rg 7 18) (fun fr W => ∃ s9:Int × PTerm,o9 = .inl s9 ∧ ∃ s10:SlV,∃ m11:List Term,fr 4 = .int .i64 s9.1∧St A N w W [oS zm 5 Term.C SlV.nil ([]:List Term),oS zm 5 Term.C s10 m11,oB b6 zm (tmC s9.2 s10),oB b4 zm (Term.C tmZ),oB b2 zm (tmC a0 s_0)] [bigA xk ([]:List Term) ([]:List PTerm),bigA xk m11 s9.2.sub,ze s_0 a0.sub]) ?_ ?_
 ·refine zL ?_
  refine xI (α:=Nat × (Int × PTerm)) ([4] ++ rg 7 18) (fun x fr W=>iter (fun s=>zcc.b0 a0 zcz s.1 s.2) x.1 x.2=some o9 ∧ ∃ s12:SlV,∃ m13:List Term,fr 4 = .int .i64 (x.2.1)∧St A N w W [oS zm 5 Term.C SlV.nil ([]:List Term),oS zm 5 Term.C s12 m13,oB b6 zm (tmC (x.2.2) s12),oB b4 zm (Term.C tmZ),oB b2 zm (tmC a0 s_0)] [bigA xk ([]:List Term) ([]:List PTerm),bigA xk m13 (x.2.2).sub,ze s_0 a0.sub]) (fun x=>x.1) (k,(0,(⟨a0.kind,a0.name,a0.other,a0.form,([]:List PTerm)⟩ : PTerm))) ⟨(by dsimp only; exact e9),SlV.nil,([]:List Term),rfl,S⟩ ?_
  rintro ⟨m9,⟨x9_0,x9_1⟩⟩ g9 u9 ⟨e9,s14,m15,q9_4,S⟩
  try dsimp only at e9
  try dsimp only at S
  try dsimp only at q9_4
  obtain ⟨m9,rfl⟩ : ∃ m,m9=m + 1:=⟨m9 - 1,by cases m9 with | zero=>cases e9 | succ m=>rfl⟩
  obtain ⟨q9,H,e9⟩ := iter_s e9
  unfold zcc.b0 at H
  try dsimp only at H
  refine zb (zb (za (wd (zk q9_4) (wd (zg zD rfl (o':=4) rfl) (wd (zl zz rfl ((S.blk 4).cell (Term.get_sub _))) (wd (does_lenF zq rfl (S.onZ 2)) (wd (xp rfl rfl) (zd ?_))))))))
  refine zI rfl (fun hc16=>?_) (fun hc16=>?_)
  rotate_left
  ·replace H:=if_f hc16 H
   refine xO ?_
   obtain rfl:=zaq H
   exact ⟨rfl,df,(x9_0,x9_1),e9,s14,m15,q9_4,S⟩
  replace H:=if_t hc16 H
  refine zw (zb ?_)
  refine zL ?_
  obtain ⟨hi17,H⟩ := zX H
  obtain ⟨r19,er19,H⟩ := zp H
  obtain ⟨s18,S⟩ := S.viewTermC 2 (zG hi17)
  replace S:=S.zs [2,3,4,0,1]
  let LT1:List OA:=[bigA xk ([]:List Term) ([]:List PTerm),bigA xk m15 x9_1.sub,ze s_0 a0.sub,oCl s_0.blk (s_0.off + Int.toNat x9_0 * 5) (tmC (kd a0 x9_0) s18),ze s18 ((kd a0 x9_0).sub)]
  let LT2:List OA:=[oS zm 5 Term.C SlV.nil ([]:List Term),oS zm 5 Term.C s14 m15,oB b6 zm (tmC x9_1 s14),oB b4 zm (Term.C tmZ),oB b2 zm (tmC a0 s_0)]
  refine yX 9 ⟨fun _ _=>True,fun _ _ _=>True,fun i v _=>match i with
   | 0=>v=Value.pointer (some ⟨b6,4,none⟩)
   | 1=>v=s14.v
   | 2=>v=Value.pointer (some ⟨b2,4,none⟩)
   | 3=>v=s_0.v
   | 4=>v=Value.int .i64 x9_0
   | 5=>v=Value.pointer (some ⟨s_0.blk,s_0.off + Int.toNat x9_0 * 5,none⟩)
   | 6=>v=Value.agg (tmC (kd a0 x9_0) s18).toArray
   | _=>True⟩ (fun L g v=>bif L 8 then (∃ (s22:SlV) (s25:SlV),(L 7=true→g 21=Value.agg (tmC r19 s22).toArray)∧(L 8=true→g 22=s25.v)∧St A N w v (oS zm 5 Term.C s25 ([(tmT r19 s22)]) :: LT2) (ze s22 r19.sub :: LT1)) else bif L 7 then (∃ (s22:SlV),(L 7=true→g 21=Value.agg (tmC r19 s22).toArray)∧St A N w v LT2 (ze s22 r19.sub :: LT1)) else (St A N w v LT2 LT1)) hmix zap (fun _ _ _ _ _ _ _ hv=>hv) (fun g=>S.ext (Ext.drawn _)) ⟨?_,?_,?_,?_,?_,?_,?_,?_,?_,trivial⟩ ?_
  ·rintro L g v hL hcl hclo hT 
   cases hl8:L 8 with
   | true =>
    replace hT : ∃ (s22:SlV) (s25:SlV),(L 7=true→g 21=Value.agg (tmC r19 s22).toArray)∧(L 8=true→g 22=s25.v)∧St A N w v (oS zm 5 Term.C s25 ([(tmT r19 s22)]) :: LT2) (ze s22 r19.sub :: LT1):=by simp only [hl8,cd2] at hT ⊢; exact hT
    obtain ⟨s22,s25,he7,he8,S⟩ := hT
    refine wd (zg zD rfl (o':=4) rfl) ?_
    have hT2 : ∃ (s22':SlV) (s25':SlV),((plus L 0) 7=true→(upd g 14 (Value.pointer (some ⟨b6,4,none⟩))) 21=Value.agg (tmC r19 s22').toArray)∧((plus L 0) 8=true→(upd g 14 (Value.pointer (some ⟨b6,4,none⟩))) 22=s25'.v)∧St A N w v (oS zm 5 Term.C s25' ([(tmT r19 s22')]) :: LT2) (ze s22' r19.sub :: LT1):=⟨s22,s25,kpU he7,kpU he8,S⟩
    exact w4 rfl (by simp only [pN L 0 7,pN L 0 8,hl8,cd2] at hT2 ⊢; exact hT2)
   | false =>
    cases hl7:L 7 with
    | true =>
     replace hT : ∃ (s22:SlV),(L 7=true→g 21=Value.agg (tmC r19 s22).toArray)∧St A N w v LT2 (ze s22 r19.sub :: LT1):=by simp only [hl7,hl8,cd2] at hT ⊢; exact hT
     obtain ⟨s22,he7,S⟩ := hT
     refine wd (zg zD rfl (o':=4) rfl) ?_
     have hT2 : ∃ (s22':SlV),((plus L 0) 7=true→(upd g 14 (Value.pointer (some ⟨b6,4,none⟩))) 21=Value.agg (tmC r19 s22').toArray)∧St A N w v LT2 (ze s22' r19.sub :: LT1):=⟨s22,kpU he7,S⟩
     exact w4 rfl (by simp only [pN L 0 7,pN L 0 8,hl7,hl8,cd2] at hT2 ⊢; exact hT2)
    | false =>
     simp only [hl7,hl8,cd2] at hT
     replace S:=hT
     refine wd (zg zD rfl (o':=4) rfl) ?_
     exact w4 rfl (by simp only [pN L 0 7,pN L 0 8,hl7,hl8,cd2]; exact S)
  ·rintro L g v hL hcl hclo hT hv0
   cases hl8:L 8 with
   | true =>
    replace hT : ∃ (s22:SlV) (s25:SlV),(L 7=true→g 21=Value.agg (tmC r19 s22).toArray)∧(L 8=true→g 22=s25.v)∧St A N w v (oS zm 5 Term.C s25 ([(tmT r19 s22)]) :: LT2) (ze s22 r19.sub :: LT1):=by simp only [hl8,cd2] at hT ⊢; exact hT
    obtain ⟨s22,s25,he7,he8,S⟩ := hT
    refine wd (zl zz hv0 ((S.blk 3).cell (Term.get_sub _))) ?_
    have hT2 : ∃ (s22':SlV) (s25':SlV),((plus L 1) 7=true→(upd g 15 (s14.v)) 21=Value.agg (tmC r19 s22').toArray)∧((plus L 1) 8=true→(upd g 15 (s14.v)) 22=s25'.v)∧St A N w v (oS zm 5 Term.C s25' ([(tmT r19 s22')]) :: LT2) (ze s22' r19.sub :: LT1):=⟨s22,s25,kpU he7,kpU he8,S⟩
    exact w4 rfl (by simp only [pN L 1 7,pN L 1 8,hl8,cd2] at hT2 ⊢; exact hT2)
   | false =>
    cases hl7:L 7 with
    | true =>
     replace hT : ∃ (s22:SlV),(L 7=true→g 21=Value.agg (tmC r19 s22).toArray)∧St A N w v LT2 (ze s22 r19.sub :: LT1):=by simp only [hl7,hl8,cd2] at hT ⊢; exact hT
     obtain ⟨s22,he7,S⟩ := hT
     refine wd (zl zz hv0 ((S.blk 2).cell (Term.get_sub _))) ?_
     have hT2 : ∃ (s22':SlV),((plus L 1) 7=true→(upd g 15 (s14.v)) 21=Value.agg (tmC r19 s22').toArray)∧St A N w v LT2 (ze s22' r19.sub :: LT1):=⟨s22,kpU he7,S⟩
     exact w4 rfl (by simp only [pN L 1 7,pN L 1 8,hl7,hl8,cd2] at hT2 ⊢; exact hT2)
    | false =>
     simp only [hl7,hl8,cd2] at hT
     replace S:=hT
     refine wd (zl zz hv0 ((S.blk 2).cell (Term.get_sub _))) ?_
     exact w4 rfl (by simp only [pN L 1 7,pN L 1 8,hl7,hl8,cd2]; exact S)
  ·rintro L g v hL hcl hclo hT 
   have hl7:=clF hL (hclo 7 2 · zap)
   have hl8:=clF hL (hclo 8 2 · zap)
   simp only [hl7,hl8,cd2] at hT
   replace S:=hT
   refine wd (zg zD rfl (o':=4) rfl) ?_
   exact w4 rfl (by simp only [pN L 2 7,pN L 2 8,hl7,hl8,cd2]; exact S)
  ·rintro L g v hL hcl hclo hT hv2
   have hl7:=clF hL (hclo 7 3 · zap)
   have hl8:=clF hL (hclo 8 3 · zap)
   simp only [hl7,hl8,cd2] at hT
   replace S:=hT
   refine wd (zl zz hv2 ((S.blk 4).cell (Term.get_sub _))) ?_
   exact w4 rfl (by simp only [pN L 3 7,pN L 3 8,hl7,hl8,cd2]; exact S)
  ·rintro L g v hL hcl hclo hT 
   have hl7:=clF hL (hclo 7 4 · zap)
   have hl8:=clF hL (hclo 8 4 · zap)
   simp only [hl7,hl8,cd2] at hT
   replace S:=hT
   refine wd (zk q9_4) ?_
   exact w4 rfl (by simp only [pN L 4 7,pN L 4 8,hl7,hl8,cd2]; exact S)
  ·rintro L g v hL hcl hclo hT hv3 hv4
   have hl7:=clF hL (hclo 7 5 · zap)
   have hl8:=clF hL (hclo 8 5 · zap)
   simp only [hl7,hl8,cd2] at hT
   replace S:=hT
   refine wd (does_indexF zq hv3 hv4 (S.onZ 2) (zG hi17).1 (zG hi17).2) ?_
   exact w4 rfl (by simp only [pN L 5 7,pN L 5 8,hl7,hl8,cd2]; exact S)
  ·rintro L g v hL hcl hclo hT hv5
   have hl7:=clF hL (hclo 7 6 · zap)
   have hl8:=clF hL (hclo 8 6 · zap)
   simp only [hl7,hl8,cd2] at hT
   replace S:=hT
   refine wd (zt z1 hv5 (S.cl 3) (Term.len _)) ?_
   exact w4 rfl (by simp only [pN L 6 7,pN L 6 8,hl7,hl8,cd2]; exact S)
  ·rintro L g v hL hcl hclo hT hv6
   have hl7:L 7=false:=hL
   have hl8:=clF hL (hclo 8 7 · zap)
   simp only [hl7,hl8,cd2] at hT
   replace S:=hT
   obtain ⟨_,_,T,bk⟩ := S.sub [4] [] LT2
   refine zA (zK kS (zN hv6 rfl)) zam (zcl (a0:=(kd a0 x9_0)) T er19) ?_
   rintro _ w28 ⟨s22,rfl,S2⟩
   replace S:=bk _ _ _ _ _ S2 rfl rfl
   have hT2 : ∃ (s22':SlV),((plus L 7) 7=true→(upd g 21 (Value.agg (tmC r19 s22).toArray)) 21=Value.agg (tmC r19 s22').toArray)∧St A N w w28 LT2 (ze s22' r19.sub :: LT1):=⟨s22,fun _=>upd_same _ _ _,S⟩
   exact w4 trivial (by simp only [pN L 7 8,xR (L:=L) (i:=7),hl8,cd2] at hT2 ⊢; exact hT2)
  ·rintro L g v hL hcl hclo hT hv7
   have hl7:L 7=true:=hcl 7 zap
   have hl8:L 8=false:=hL
   replace hT : ∃ (s22:SlV),(L 7=true→g 21=Value.agg (tmC r19 s22).toArray)∧St A N w v LT2 (ze s22 r19.sub :: LT1):=by simp only [hl7,hl8,cd2] at hT ⊢; exact hT
   obtain ⟨s22,he7,S⟩ := hT
   refine vi (C:=Term.C) (l:=[(tmT r19 s22)]) (vs:=[.agg (tmC r19 s22).toArray]) zq uu.zero (xK (he7 (hcl 7 zap)) rfl) rfl (fun a _=>Term.len a) zam rfl zam fun b31 w30 s25 hBw30 hw30=>?_
   replace S:=S.lit hBw30 hw30 zao
   have hT2 : ∃ (s22':SlV) (s25':SlV),((plus L 8) 7=true→(upd g 22 (s25.v)) 21=Value.agg (tmC r19 s22').toArray)∧((plus L 8) 8=true→(upd g 22 (s25.v)) 22=s25'.v)∧St A N w w30 (oS zm 5 Term.C s25' ([(tmT r19 s22')]) :: LT2) (ze s22' r19.sub :: LT1):=⟨s22,s25,kpU he7,fun _=>upd_same _ _ _,S⟩
   exact w4 trivial (by simp only [pN L 8 7,xR (L:=L) (i:=8),cd2] at hT2 ⊢; exact hT2)
  rintro L g w33 hLm hT hv34_0 hv34_1 hv34_2 hv34_3 hv34_4 hv34_5 hv34_6 _ _
  have hLt : ∀ j,j < 9→L j=true:=fun j hj=>by rw [hLm]; exact decide_eq_true hj
  replace hT : ∃ (s22:SlV) (s25:SlV),(L 7=true→g 21=Value.agg (tmC r19 s22).toArray)∧(L 8=true→g 22=s25.v)∧St A N w w33 (oS zm 5 Term.C s25 ([(tmT r19 s22)]) :: LT2) (ze s22 r19.sub :: LT1):=by simp only [hLt 8 zam,cond_true] at hT ⊢; exact hT
  obtain ⟨s22,s25,he7,he8,S⟩ := hT
  have hv34_7:=he7 (hLt 7 zam)
  have hv34_8:=he8 (hLt 8 zam)
  replace S:=S
  obtain ⟨ha37,H⟩ := zX H
  have ha37:=of_decide_eq_true ha37
  have hmha37:((m15).length + ([(tmT r19 s22)]).length) * 72 ≤ 140737488355328:=by rw [S.lenTm 2 (l:=x9_1.sub)]; exact ha37
  refine wl_appends (C:=Term.C) zq uu hv34_1 hv34_8 (S.sl 2) (S.rdO 0) zao (fun a _=>Term.one a) hmha37 zan zam fun s36 w35 O hw35 gw35=>?_
  replace S:=S.push 2 O (by first | (simp; done) | (simp; omega) | (simp only [List.length_append]; omega)) hw35 gw35
  clear O
  replace S:=S.snocTm (x:=r19) 2 0
  refine wd (zg zD rfl (o':=4) rfl) ?_
  refine yE zz rfl rfl (S.blk 3) (by rw [Term.len]; decide) (SlV.one _ _ rfl) (Term.set_sub _ _) fun w38 B hw38 zw38=>?_
  replace S:=S.store 3 B hw38
  refine zd (za (wd (zk q9_4) (wd (vT rfl rfl) (wd (zh rfl) (zd ?_)))))
  replace S:=S.arr [3,1,0,4,5] [2,0,4]
  obtain rfl:=zaq H
  exact ⟨rfl,df,(m9,(IntKind.i64.wrap (x9_0 + 1),(⟨x9_1.kind,x9_1.name,x9_1.other,x9_1.form,x9_1.sub ++ [r19]⟩ : PTerm))),⟨e9,s36,m15 ++ [(tmT r19 s22)],rfl,S⟩,by dsimp only; omega⟩
 rintro g39 u40 ⟨s9,rfl,s10,m11,p9_4,S⟩
 have H:=Ho9
 dsimp only [aft] at H
 refine zb (za ?_)
 replace S:=S.frzTm 1 1
 refine wd (ldT rfl (S.blk 1)) ?_
 refine wsT rfl rfl (S.blk 2) fun w41 B hw41 zw41=>?_
 replace S:=S.store 2 B hw41
 refine zd (zr ?_)
 refine ⟨_,(zP (rtT rfl (S.blk 0))),?_⟩
 replace S:=S.arr [] [0]
 obtain rfl:=zaq H
 exact ⟨s10,rfl,S⟩
theorem ref12_Copy_st {A:Nat→Prop} {N:Oth} {w:World} {a0:PTerm} {s_0:SlV} (S:St A N w w [] [ze s_0 a0.sub]) {k:Nat} {r:PTerm} (H:zcc.f k a0=some r) :
  Calls PP uY #[.agg (tmC a0 s_0).toArray] w <| Rt fun v w'=>(∃ so0:SlV,v = .agg (tmC r so0).toArray∧St A N w w' [] [ze so0 r.sub]):=by
 have main : ∀ (k:Nat) {A:Nat→Prop} {N:Oth} {w:World} {a0:PTerm} {s_0:SlV} (S:St A N w w [] [ze s_0 a0.sub]) {r:PTerm} (H:zcc.f k a0=some r),Calls PP uY #[.agg (tmC a0 s_0).toArray] w <| Rt fun v w'=>(∃ so0:SlV,v = .agg (tmC r so0).toArray∧St A N w w' [] [ze so0 r.sub]):=by
  intro k
  induction k with
  | zero=>intro A N w a0 s_0 S r H; cases H
  | succ k ih=>intro A N w a0 s_0 S r H; exact ref12_Copy_gst ih S H
 exact main k S H
end
section
open Go.RowKit
namespace Gw
def ItB (w:World) (r m:Nat) {α β:Type} (C:α→Value) (D:β→Value) (l left:List (α × β)) (cur:Option (α × β)):Prop :=
 ∃ (es:Array MapEntry) (clock:Nat) (seen:Array Nat),w.heap[m]? = some (.map es clock)∧es.toList.map (fun e=>(e.key,e.val))=(l.map fun q=>(C q.1,D q.2))∧Fresh es clock∧w.heap[r]? = some (.mapIter (some m) clock seen clock) ∧
  ((es.toList.filter fun e => !seen.contains e.born).map fun e=>(e.key,e.val))=(left.map fun q=>(C q.1,D q.2))∧(∀ q,cur=some q → ∃ e ∈ es.toList,seen.back? = some e.born∧(e.key,e.val)=(C q.1,D q.2))∧r ≠ m
section
variable {P:Program} {f:Fr} {w w':World} {ty:TypeId} {pos:String} {af:Array Edge} {α β:Type} {C:α→Value} {D:β→Value} {l left:List (α × β)} {cur:Option (α × β)} {m r:Nat}
variable {rd:Option Nat} {n:Nat} {dm:List Nat} {ops:Array Oper} {Q:Post} {rest:List Oper}
theorem ItB.lt (h:ItB w r m C D l left cur):r < w.heap.size∧m < w.heap.size:=by
 obtain ⟨es,c,seen,h1,_,_,h2,_⟩ := h
 exact ⟨(Array.getElem?_eq_some_iff.1 h2).1,(Array.getElem?_eq_some_iff.1 h1).1⟩
theorem ItB.chg {S:Nat→Prop} (h:ItB w r m C D l left cur) (hc:Chg S w w') (hr:¬ S r) (hm:¬ S m):ItB w' r m C D l left cur:=by
 obtain ⟨l1,l2⟩ := h.lt
 obtain ⟨es,c,seen,h1,h2,h3,h4,h5⟩ := h
 exact ⟨es,c,seen,(hc.block m l2 hm).trans h1,h2,h3,(hc.block r l1 hr).trans h4,h5⟩
theorem wl_rangeM {dd:Tmp} {x:Operand} {t kt et:TypeId} (ht:P.underlying t=some (.map kt et)) (hx:evF f x = .map (some m)) (hm:MapB w m C D l) (hd:dd < n)
  (h : ∀ r w',ItB w' r m C D l l none→Ext w w'→w.heap.size ≤ r→wl P rd n dm ops rest Q (upd f dd (.pointer (some ⟨r,0,none⟩))) w'):wl P rd n dm ops (⟨some dd,.range t x,ty,pos,af,none⟩ :: rest) Q f w:=by
 have hml:=hm.lt
 obtain ⟨es,c,hb,he,hF⟩ := hm
 refine zj (w':=w.alloc (.mapIter (some m) c #[] c)) ?_ hd (h w.heap.size _ ⟨es,c,#[],?_,he,hF,Ob.alloc_new w _,?_,(fun q hq=>by cases hq),by omega⟩ (Ext.alloc _ _) (Nat.le_refl _))
 ·simp [Does,execOp,hx,run_range_map w t kt et m es c ht hb]
 ·rw [heap_alloc_old w _ hml]; exact hb
 ·rw [List.filter_eq_self.2 (fun e _=>by simp)]; exact he
theorem run_setIter {a:Option Nat} {b c:Nat} {s:Array Nat} (o:Obj) (h:w.heap[r]? = some (.mapIter a b s c)):(setObj r o).run P w = .ok () (w.putObj r o):=by simp [setObj,Sem.run,h,World.putObj]
theorem split_mem {γ:Type} {a:γ} : ∀ {l:List γ},a ∈ l → ∃ l1 l2,l=l1 ++ a :: l2
 | b :: l,h=>by
  rcases List.mem_cons.1 h with rfl | h
  ·exact ⟨[],l,rfl⟩
  ·obtain ⟨l1,l2,e⟩ := split_mem h; exact ⟨b :: l1,l2,by rw [e]; rfl⟩
theorem filter_more {es:List MapEntry} {seen:Array Nat} {e:MapEntry} (hn:(es.map (·.born)).Nodup) {L1 L2:List MapEntry} (hs:es.filter (fun x => !seen.contains x.born)=L1 ++ e :: L2):es.filter (fun x => !(seen.push e.born).contains x.born)=L1 ++ L2:=by
 have h1:es.filter (fun x => !(seen.push e.born).contains x.born)=(es.filter fun x => !seen.contains x.born).filter fun x => !(x.born == e.born):=by
  rw [List.filter_filter]
  refine List.filter_congr fun x _=>?_
  simp only [Array.contains_push,Bool.not_or,Bool.and_comm]
 rw [h1,hs]
 have hsub:((L1 ++ e :: L2).map (·.born)).Nodup:=by rw [← hs]; exact hn.sublist (List.filter_sublist.map _)
 rw [List.map_append,List.map_cons,List.nodup_append] at hsub
 obtain ⟨_,n2,n3⟩ := hsub
 rw [List.nodup_cons] at n2
 rw [List.filter_append,List.filter_cons]
 simp only [beq_self_eq_true,Bool.not_true,Bool.false_eq_true,if_false]
 rw [List.filter_eq_self.2,List.filter_eq_self.2]
 ·intro x hx
  have:x.born ≠ e.born:=fun q=>n2.1 (by rw [← q]; exact List.mem_map.2 ⟨x,hx,rfl⟩)
  simpa using this
 ·intro x hx
  have:x.born ≠ e.born:=n3 _ (List.mem_map.2 ⟨x,hx,rfl⟩) _ zao
  simpa using this
theorem wl_nextM {dd:Tmp} {x:Operand} (hx:evF f x = .pointer (some ⟨r,0,none⟩)) (hi:ItB w r m C D l left cur) (hd:dd < n)
  (h0:left=[]→wl P rd n dm ops rest Q (upd f dd (.tuple #[.bool false])) w)
  (h1 : ∀ q l1 l2 w',left=l1 ++ q :: l2→ItB w' r m C D l (l1 ++ l2) (some q)→Chg (· = r) w w'→wl P rd n dm ops rest Q (upd f dd (.tuple #[.bool true,C q.1,D q.2])) w'):wl P rd n dm ops (⟨some dd,.next x false,ty,pos,af,none⟩ :: rest) Q f w:=by
 obtain ⟨es,c,seen,hm,he,hF,hr,hl,hc,hne⟩ := hi
 have hall:(!seen.isEmpty && !es.isEmpty && es.all (fun x=>decide (x.born ≥ c)))=false:=next_test_false seen es c c hF.2 (Nat.le_refl _)
 have hmem : ∀ x ∈ (es.filter fun e => !seen.contains e.born),x.born < c:=fun x hx=>hF.2 x (by simpa using (Array.mem_filter.1 hx).1)
 have hlist:(es.filter fun e => !seen.contains e.born).toList=es.toList.filter fun e => !seen.contains e.born:=by simp
 generalize hL:(es.filter fun e => !seen.contains e.born)=L at hmem hlist
 have e1:L.filter (fun x=>decide (x.born < c))=L:=Array.filter_eq_self.2 (fun x hx=>by simpa using hmem x hx)
 have e2:L.filter (fun x=>decide (x.born ≥ c)) = #[]:=by
  rw [Array.filter_eq_empty_iff]
  intro x hx
  have:=hmem x hx
  simp; omega
 by_cases hz:L.size=0
 ·have hLe:L = #[]:=Array.eq_empty_of_size_eq_zero hz
  have hleft:left=[]:=by
   rw [← hlist,hLe] at hl
   cases left with
   | nil=>rfl
   | cons a b=>simp at hl
  refine zj (w':=w) (v := .tuple #[.bool false]) ?_ hd (h0 hleft)
  simp only [Does,execOp,hx,Instr.next,getObj,Sem.run_bind,Sem.run,hr,hm,Result.andThen,hall,Bool.false_eq_true,if_false,hL,e1,e2,Array.append_empty,hLe]
  simp [choose,Sem.run,Question.forced]
 ·have hie:L.isEmpty=false:=by simp [Array.isEmpty,hz]
  have hch : ∃ (j:Nat) (w1:World),j < L.size∧Ext w w1∧w1.heap=w.heap∧(choose (Question.mapNext L.size)).run P w = .ok j w1:=by
   by_cases hf:L.size ≤ 1
   ·exact ⟨0,w,by omega,Chg.refl _ _,rfl,by simp [choose,Sem.run,Question.forced,hf]⟩
   ·exact ⟨_,w.drew,Nat.mod_lt _ zan,Ext.drawn w,rfl,by
     simp only [choose,Sem.run,Question.forced,decide_eq_true_eq,hf,if_false,Question.cut]
     rfl⟩
  obtain ⟨j,w1,hj,hx1,hh,hrun⟩ := hch
  have hjm:L[j] ∈ es.toList.filter fun e => !seen.contains e.born:=by rw [← hlist]; exact Array.getElem_mem_toList hj
  obtain ⟨L1,L2,hsp⟩ := split_mem hjm
  have hl':=hl
  rw [hsp,List.map_append,List.map_cons] at hl'
  obtain ⟨l1,lq,rfl,hl1,hl2⟩ := List.map_eq_append_iff.1 hl'.symm
  obtain ⟨q,l2,rfl,hq,hl3⟩ := List.map_eq_cons_iff.1 hl2
  have hw1r:w1.heap[r]? = some (.mapIter (some m) c seen c):=by rw [hh]; exact hr
  have hput:=Chg.put w1 r (.mapIter (some m) c (seen.push L[j].born) c) (Ob.thaw hw1r) (by rw [hh]; exact (Array.getElem?_eq_some_iff.1 hr).1)
  have hkey:L[j].key=C q.1∧L[j].val=D q.2:=by
   have:=hq; simp only [Prod.mk.injEq] at this; exact ⟨this.1.symm,this.2.symm⟩
  refine zj (w':=w1.putObj r (.mapIter (some m) c (seen.push L[j].born) c)) (v := .tuple #[.bool true,C q.1,D q.2]) ?_ hd (h1 q l1 l2 _ rfl ⟨es,c,seen.push L[j].born,?_,he,hF,Ob.put hw1r _,?_,fun q' hq'=>?_,hne⟩ ?_)
  ·simp only [Does,execOp,hx,Instr.next,getObj,Sem.run_bind,Sem.run,hr,hm,Result.andThen,hall,Bool.false_eq_true,if_false,hL,e1,e2,Array.append_empty,hie,Array.empty_append,Array.size_map,hrun,Array.getElem?_map,Array.getElem?_eq_getElem hj,Option.map_some,run_setIter _ hw1r,hkey.1,hkey.2]
   rfl
  ·rw [World.putObj_heap_other (Ne.symm hne),hh]; exact hm
  ·rw [filter_more hF.1 hsp,List.map_append,List.map_append,← hl1,← hl3]
  ·cases hq'
   exact ⟨L[j],(List.mem_filter.1 hjm).1,by simp,by rw [hkey.1,hkey.2]⟩
  ·exact (hx1.mono fun _ _ x=>x.elim).trans hput
theorem wl_entryM {dd:Tmp} {x:Operand} {q:α × β} (hx:evF f x = .pointer (some ⟨r,0,none⟩)) (hi:ItB w r m C D l left (some q)) (hd:dd < n)
  (h:wl P rd n dm ops rest Q (upd f dd (.tuple #[C q.1,D q.2])) w):wl P rd n dm ops (⟨some dd,.entry x,ty,pos,af,none⟩ :: rest) Q f w:=by
 obtain ⟨es,c,seen,hm,he,hF,hr,hl,hc,hne⟩ := hi
 obtain ⟨e,hem,hb,hk⟩ := hc q rfl
 have hf:es.find? (·.born == e.born)=some e:=by rw [← Array.find?_toList]; exact find_born e es.toList hF.1 hem
 simp only [Prod.mk.injEq] at hk
 refine zj (w':=w) (v := .tuple #[C q.1,D q.2]) ?_ hd h
 simp only [Does,execOp,hx,Instr.entry,getObj,Sem.run_bind,Sem.run,hr,hm,Result.andThen,hb,bne_self_eq_false,Bool.false_eq_true,if_false,hf,hk.1,hk.2]
 rfl
def oIt (r m:Nat) {α β:Type} (C:α→Value) (D:β→Value) (l left:List (α × β)) (cur:Option (α × β)):OA where
 holds:=fun w F=>ItB w r m C D l left cur ∧ ∀ i,F i↔i=r∨i=m
 loc:=fun h hc hs=>⟨h.1.chg hc (hs r ((h.2 r).2 (.inl rfl))) (hs m ((h.2 m).2 (.inr rfl))),h.2⟩
 lt:=fun h i hi=>by
  rcases (h.2 i).1 hi with rfl | rfl
  ·exact h.1.lt.1
  ·exact h.1.lt.2
end
end Gw
end
section
namespace Gw
section
variable {A:Nat→Prop} {N:Oth} {w0 w w':World} {L Z L':List OA} {α β:Type} {C:α→Value} {D:β→Value} {l left left':List (α × β)} {cur cur':Option (α × β)} {r m:Nat}
theorem St.it (h:St A N w0 w L Z) (k:Nat) (e:L[k]? = some (oIt r m C D l left cur):=by rfl):ItB w r m C D l left cur:=(h.own k e).elim fun _ h=>h.1
theorem St.rangeM (h:St A N w0 w L Z) (k:Nat) (hi:ItB w' r m C D l l none) (hx:Ext w w') (hr:w.heap.size ≤ r) (e:L[k]? = some (oM m C D l):=by rfl) (e':oIt r m C D l l none :: L.eraseIdx k=L':=by rfl):St A N w0 w' L' Z :=
 h.upd k (a:=oM m C D l) (b:=oIt r m C D l l none) (fun F hF=>⟨fun i=>i=r∨i=m,⟨hi,fun _=>Iff.rfl⟩,fun i hi=>hi.elim (fun e => .inr (by rw [e]; exact hr)) (fun e => .inl ((hF.2 i).2 e)),hx.mono fun _ _ x=>x.elim⟩) e e'
theorem St.nextM (h:St A N w0 w L Z) (k:Nat) (hi:ItB w' r m C D l left' cur') (hc:Chg (· = r) w w') (e:L[k]? = some (oIt r m C D l left cur):=by rfl) (e':oIt r m C D l left' cur' :: L.eraseIdx k=L':=by rfl):St A N w0 w' L' Z :=
 h.upd k (a:=oIt r m C D l left cur) (b:=oIt r m C D l left' cur') (fun F hF=>⟨F,⟨hi,hF.2⟩,fun i hi => .inl hi,hc.mono fun i _ hi=>(hF.2 i).2 (.inl hi)⟩) e e'
end
end Gw
end
section
open Gw Go.RowKit
set_option maxHeartbeats 4000000
set_option maxRecDepth 20000
theorem term_Free_st {A:Nat→Prop} {N:Oth} {w:World} {a0:PTerm} {s_0:SlV} (S:St A N w w [] [ze s_0 a0.sub]) {k:Nat} {r:List ByteArray × Int} (H:zcd.f k a0=some r) :
  Calls PP F_term_Free #[.agg (tmC a0 s_0).toArray] w <| Rt fun v w'=>(∃ so0:SlV,v = .tuple #[so0.v,.int .i64 r.2]∧St A N w w' [oS vS 1 SC so0 r.1] []):=by
 unfold zcd.f at H
 refine zu (n:=26) Tryz.func32 rfl rfl zao (zb (za ?_))
 refine zH rfl zam fun b2 w1 hw1=>?_
 replace S:=S.new hw1
 refine wd (xT) (wd (zh rfl) (zd (zb (zb (za (wd (ldT rfl (S.blk 0)) ?_))))))
 obtain ⟨r3,er3,H⟩ := zp H
 obtain ⟨_,_,T,bk⟩ := S.calln 0 ((.z 0 rfl .nil))
 refine zA (zx vW) zam (vY (a0:=a0) T er3) ?_
 rintro _ w4 ⟨rfl,S2⟩
 replace S:=bk _ _ _ _ S2 rfl
 refine wd (zh rfl) (zd (zb (za (wd (zk rfl) (wd (xq rfl rfl) (zd ?_))))))
 refine zI rfl (fun hc6=>?_) (fun hc6=>?_)
 ·replace H:=if_t hc6 H
  refine zb (za (wd (zk rfl) (wd (xT) (wd (zh rfl) (zd (zr ?_))))))
  replace S:=S.nil vS 1 SC
  refine ⟨_,(xm (zf rfl) (zf rfl)),?_⟩
  replace S:=S.arr [0] []
  obtain rfl:=zaq H
  exact ⟨SlV.nil,rfl,S⟩
 replace H:=if_f hc6 H
 refine zw (zb (za (wd (xT) (zd (zb (zb (za (wd (ldT rfl (S.blk 0)) ?_))))))))
 obtain ⟨r7,er7,H⟩ := zp H
 obtain ⟨_,_,T,bk⟩ := S.calln 0 ((.z 0 rfl .nil))
 refine zA (zx kA) zam (kG (a0:=a0) T er7) ?_
 rintro _ w8 ⟨m10,rfl,S2⟩
 replace S:=bk _ _ _ _ S2 rfl
 obtain ⟨hcap,H⟩ := zX H
 have hcap:=of_decide_eq_true hcap
 refine wl_rangeM (C:=Value.string) (D:=Value.int .i64) xF rfl (S.map 0) zam fun r11 w9 hI9 hx9 hl9=>?_
 replace S:=(S.rangeM 0 hI9 hx9 hl9).nil vS 1 SC
 refine zd ?_
 refine xL ([5,6] ++ rg 15 8) (fun fr W => ∃ (s:SlV) (l:List ByteArray) (cur:Option (ByteArray × Int)),l.Perm (r7.map (·.1))∧fr 5=s.v∧St A N w W [oS vS 1 SC s l,oIt r11 m10 Value.string (Value.int .i64) r7 [] cur,oB b2 zm (tmC a0 s_0)] [ze s_0 a0.sub]) ?_ ?_
 ·refine zL ?_
  refine xI (α:=List ByteArray × List (ByteArray × Int)) ([5,6] ++ rg 15 8) (fun x fr W => ∃ (s:SlV) (cur:Option (ByteArray × Int)),(x.1 ++ x.2.map (·.1)).Perm (r7.map (·.1))∧fr 5=s.v∧St A N w W [oS vS 1 SC s x.1,oIt r11 m10 Value.string (Value.int .i64) r7 x.2 cur,oB b2 zm (tmC a0 s_0)] [ze s_0 a0.sub]) (fun x=>x.2.length) (([]:List ByteArray),r7) ⟨SlV.nil,none,by simp,rfl,S⟩ ?_
  rintro ⟨l,left⟩ g u ⟨s,cur,hp,q5,S⟩
  dsimp only at hp S
  refine zb (za ?_)
  refine wl_nextM rfl (S.it 1) zam (fun hl0=>?_) (fun q l1 l2 w12 hsp hI12 hc12=>?_)
  ·subst hl0
   refine wd (zo rfl rfl) (zd (zb ?_))
   refine wc_false rfl ?_
   refine xO ?_
   exact ⟨rfl,df,s,l,cur,by simpa using hp,q5,S⟩
  ·subst hsp
   replace S:=S.nextM 1 hI12 hc12
   refine wd (zo rfl rfl) (zd (zb ?_))
   refine jO rfl (zw (zL (zb (za ?_))))
   refine wl_entryM rfl (S.it 0) zam (wd (zo rfl rfl) (wd (vI rfl) (zd (za (wd (zM q5) (wd (zW rfl) ?_))))))
   refine vi (C:=SC) (l:=[q.1]) (vs:=[.string q.1]) vw el_string.zero rfl rfl (fun _ _=>rfl) zam rfl zam fun b20 w19 s21 hBw19 hw19=>?_
   replace S:=S.lit hBw19 hw19 zao
   have hlen:l.length + 1 ≤ r7.length:=by
    have:=hp.length_eq
    simp only [List.length_append,List.length_map,List.length_cons] at this
    omega
   refine wl_appends (C:=SC) vw el_string rfl rfl (S.sl 2) (S.rdO 0) zao (fun a _ v hv=>by rw [List.mem_singleton.1 hv]; rfl) (by simp; omega) (by simp; omega) zam fun s23 w22 O hw22 gw22=>?_
   replace S:=S.push 2 O (by simp; omega) hw22 gw22
   refine wd (yM rfl) (zd ?_)
   replace S:=S.arr [0,2,3] [0]
   refine ⟨rfl,df,(l ++ [q.1],l1 ++ l2),⟨s23,some q,?_,rfl,S⟩,by simp⟩
   refine List.Perm.trans ?_ hp
   simp only [List.append_assoc,List.map_append,List.map_cons]
   exact List.perm_append_left_iff _ |>.2 (by simpa using (List.perm_middle (a:=q.1) (l₁:=l1.map (·.1)) (l₂:=l2.map (·.1))).symm)
 rintro g u ⟨s,l,cur,hp,q5,S⟩
 refine zb (za (wd (zM q5) ?_))
 obtain ⟨_,_,T,bk⟩ := S.calln 1 (.nil)
 refine zA (zx j6) zam (slices_Sort_st T) ?_
 rintro _ w20 ⟨rfl,S2⟩
 replace S:=bk _ _ _ _ S2 rfl
 refine zd (zb (za (wd (zM q5) (wd (yM rfl) (wd (zh rfl) (zd (zr ?_)))))))
 refine ⟨_,(xm (zf rfl) (zf rfl)),?_⟩
 replace S:=S.arr [0] []
 obtain rfl:=zaq H
 rw [sortB_of hp] at S
 exact ⟨s,rfl,S⟩
end
section
open Gw Go.RowKit
set_option maxHeartbeats 4000000
set_option maxRecDepth 20000
theorem law14_ReduceFrees_st {A:Nat→Prop} {N:Oth} {w:World} {a0:List Nd} {s_0:SlV} {a1:PTerm} {s_1:SlV} {a2:Int} (S:St A N w w [] [fS 4 Nd.C s_0 a0,ze s_1 a1.sub,oPw]) {k:Nat} {r:Bool} (H:zce.f k a0 a1 a2=some r) :
  Calls PP x4 #[s_0.v,.agg (tmC a1 s_1).toArray,.int .i64 a2] w <| Rt fun v w'=>(v = .bool r∧St A N w w' [] []):=by
 unfold zce.f at H
 refine zu (n:=131) vu rfl rfl zao (zb (za ?_))
 refine zH rfl zam fun b2 w1 hw1=>?_
 replace S:=S.new hw1
 refine wd (zi rfl) (zd (zb (za (wd (zM rfl) ?_))))
 obtain ⟨r3,er3,H⟩ := zp H
 obtain ⟨_,_,T,bk⟩ := S.calln 0 ((.z 0 rfl .nil))
 refine zA (zx ca_law04_Tables) zam (law04_Tables_st T er3) ?_
 rintro _ w4 ⟨a6,a7,rfl,S2⟩
 replace S:=bk _ _ _ _ S2 rfl
 refine wd (xb rfl) (wd (zo rfl rfl) (wd (zo rfl rfl) (wd (zZ rfl) (wd (zZ rfl) (zd (zb (za ?_)))))))
 refine wd (ldT rfl (S.blk 2)) ?_
 obtain ⟨r8,er8,H⟩ := zp H
 obtain ⟨_,_,T,bk⟩ := S.calln 0 ((.z 1 rfl .nil))
 refine zA (zx ca_term_Free) zam (term_Free_st (a0:=a1) T er8) ?_
 rintro _ w9 ⟨s11,rfl,S2⟩
 replace S:=bk _ _ _ _ S2 rfl
 refine wd (xb rfl) (wd (zo rfl rfl) (wd (zo rfl rfl) (wd (yM rfl) (wd (zh rfl) (zd (zb (za ?_)))))))
 refine wd (zB rfl) (wd (ldT rfl (S.blk 3)) ?_)
 obtain ⟨r12,er12,H⟩ := zp H
 obtain ⟨_,_,T,bk⟩ := S.sub [1] [] [oS vS 1 SC s11 r8.1,oT a6 r3.1,oR a7 r3.2,oB b2 zm (tmC a1 s_1)]
 refine zA (zx kS) zam (ref12_Copy_st (a0:=a1) T er12) ?_
 rintro _ w13 ⟨s15,rfl,S2⟩
 replace S:=bk _ _ _ _ _ S2 rfl rfl
 refine wd (zk rfl) ?_
 obtain ⟨r16,er16,H⟩ := zp H
 replace S:=S.frzO 1
 obtain ⟨_,_,T,bk⟩ := S.sub [0,1,4] [] [oS vS 1 SC s11 r8.1,oR a7 r3.2,oB b2 zm (tmC a1 s_1)]
 refine zA (zx kR) zam (kZ (a1:=r12) T er16) ?_
 rintro _ w17 ⟨s19,rfl,S2⟩
 replace S:=bk _ _ _ _ _ S2 rfl rfl
 refine wd (xb rfl) (wd (zo rfl rfl) (wd (zo rfl rfl) (wd (zo rfl rfl) (wd (zo rfl rfl) ?_))))
 refine zQ xn zam fun b21 w20 hw20=>?_
 replace S:=S.new hw20
 refine wsT rfl rfl (S.blk 0) fun w22 B hw22 zw22=>?_
 replace S:=S.store 0 B hw22
 refine wd (zh rfl) (wd (zi rfl) (wd (zh rfl) (zd (zb (zb (za (wd (zk rfl) ?_)))))))
 obtain ⟨r23,er23,H⟩ := zp H
 obtain ⟨_,_,T,bk⟩ := S.calln 0 ((.nil))
 refine zA (zx yg) zam (yh T er23) ?_
 rintro _ w24 ⟨rfl,S2⟩
 replace S:=bk _ _ _ _ S2 rfl
 refine wd (xq rfl rfl) (wd (zy rfl) ?_)
 refine wg (fun hg=>zk rfl) ?_
 obtain ⟨r26,er26,H⟩ := zp H
 refine xJ (j:=3) (pol:=false) rfl rfl rfl zam (fun hg=>zK yg (zN (zn hg) rfl)) zam (fun hg=>(have ⟨M,SS⟩ := S.lend ((.nil)); quiet (yh SS (if_t (by simpa using hg) er26)) (fun v w' h=>⟨h.1,_,_,h.2⟩))) fun w27 hw27=>?_
 replace S:=S.ext hw27
 refine wg (fun hg=>xq (zn hg) rfl) ?_
 refine wg (fun hg=>zy (zn hg)) (xj (j:=7) (pol:=true) rfl rfl rfl zam (fun hg=>zk rfl) zam ?_)
 obtain ⟨r28,er28,H⟩ := zp H
 refine wl_gcall2 (j:=7) (pol:=true) rfl rfl rfl zam (fun hg=>zK yg (zN (zn hg) rfl)) zam (fun hg=>(have ⟨M,SS⟩ := S.lend ((.nil)); quiet (yh SS (if_t (by simpa using hg) er28)) (fun v w' h=>⟨h.1,_,_,h.2⟩))) fun w29 hw29=>?_
 replace S:=S.ext hw29
 refine xj (j:=7) (pol:=true) rfl rfl rfl zam (fun hg=>xq (zn hg) rfl) zam ?_
 refine wg (fun hg=>zV (zn hg) (fun hp=>(zn (and_b hg hp)))) (wd (xv rfl (fun hp=>(zn (xl hp)))) (zd ?_))
 refine zI rfl (fun hc30=>?_) (fun hc30=>?_)
 ·replace H:=if_t hc30 H
  refine zb (za (wd (zk rfl) (wd (zR rfl rfl) (wd (zy rfl) ?_))))
  obtain ⟨r31,er31,H⟩ := zp H
  refine xJ (j:=2) (pol:=true) rfl rfl rfl zam (fun hg=>zK ca_law14_heads rfl) zam (fun hg=>(have ⟨M,SS⟩ := S.lend ((.z 5 rfl .nil)); quiet (law14_heads_st SS (if_t (by simpa using hg) er31)) (fun v w' h=>⟨h.1,_,_,h.2⟩))) fun w32 hw32=>?_
  replace S:=S.ext hw32
  refine wd (zV rfl (fun hp=>(zn (xl hp)))) (wd (zi rfl) (zd (zr ?_)))
  refine ⟨_,(zP (zf rfl)),?_⟩
  replace S:=S.arr [] []
  obtain rfl:=zaq H
  exact ⟨rfl,S⟩
 replace H:=if_f hc30 H
 refine zw (zb (za (wd (ldT rfl (S.blk 0)) ?_)))
 obtain ⟨r33,er33,H⟩ := zp H
 obtain ⟨_,_,T,bk⟩ := S.calln 0 ((.z 0 rfl .nil))
 refine zA (zx ca_term_Free) zam (term_Free_st (a0:=r16.1) T er33) ?_
 rintro _ w34 ⟨s36,rfl,S2⟩
 replace S:=bk _ _ _ _ S2 rfl
 refine wd (xb rfl) (wd (zo rfl rfl) (wd (zo rfl rfl) (wd (yM rfl) (wd (zh rfl) (zd (zb (zb (za ?_))))))))
 refine wd (zk rfl) ?_
 obtain ⟨r37,er37,H⟩ := zp H
 obtain ⟨_,_,T,bk⟩ := S.calln 0 ((.nil))
 refine zA (zx yg) zam (yh T er37) ?_
 rintro _ w38 ⟨rfl,S2⟩
 replace S:=bk _ _ _ _ S2 rfl
 refine wd (xq rfl rfl) (wd (zy rfl) ?_)
 refine wg (fun hg=>zk rfl) ?_
 refine wg (fun hg=>xp (zn hg) rfl) (wd (xv rfl (fun hp=>(zn (xl hp)))) (wd (zy rfl) ?_))
 refine wg (fun hg=>zk rfl) ?_
 refine wg (fun hg=>zk rfl) ?_
 refine wg (fun hg=>jL (zn hg) (zn hg)) (wd (xv rfl (fun hp=>(zn (xl hp)))) (zd ?_))
 refine zI rfl (fun hc40=>?_) (fun hc40=>?_)
 ·replace H:=if_t hc40 H
  refine zb (za (wd (zi rfl) (zd (zr ?_))))
  refine ⟨_,(zP (zf rfl)),?_⟩
  replace S:=S.arr [] []
  obtain rfl:=zaq H
  exact ⟨rfl,S⟩
 replace H:=if_f hc40 H
 refine zw (zb (zb (za (wd (zh rfl) (zd ?_)))))
 replace S:=S.frzO 3
 obtain ⟨o41,e41,Ho41⟩ := zp H
 clear H
 let LT1:List OA:=[oS vS 1 SC s36 r33.1,oB b21 zm (tmC r16.1 s19),oS vS 1 SC s11 r8.1,oB b2 zm (tmC a1 s_1)]
 let LT2:List OA:=[oR a7 r3.2,ze s19 r16.1.sub,oT a6 r3.1,ze s15 r12.sub,fS 4 Nd.C s_0 a0,ze s_1 a1.sub,oPw]
 refine xL ([6,17,18,19] ++ rg 79 26) (fun fr W => ∃ s41:Unit,o41 = .inl s41∧St A N w W LT1 LT2) ?_ ?_
 ·refine zL ?_
  refine xI (α:=Nat × Int × Unit) ([6,17,18,19] ++ rg 79 26) (fun x fr W=>(x.1:Int)=(r33.1.length:Int) - x.2.1∧0 ≤ x.2.1∧forN (fun i s=>zce.b0 r8 r33 i) x.1 x.2.1 x.2.2=some o41∧fr 17 = .int .i64 x.2.1∧St A N w W LT1 LT2) (fun x=>x.1) (((r33.1.length:Int) - 0).toNat,0,()) ⟨(by dsimp only; have hle:=Int.natCast_nonneg (r33.1.length); omega),(Int.le_refl _),(by dsimp only; exact e41),rfl,S⟩ ?_
  rintro ⟨m41,i41,_⟩ g41 u41 ⟨hm41,hl41,e41,q41_i,S⟩
  try dsimp only at hm41
  try dsimp only at hl41
  try dsimp only at e41
  try dsimp only at S
  try dsimp only at q41_i
  refine zb (zb (za (wd (zk q41_i) (wd (zM rfl) (wd (xE vw rfl (S.rdO 0)) (wd (xp rfl rfl) (zd ?_)))))))
  refine zI rfl (fun hc42=>?_) (fun hc42=>?_)
  rotate_left
  ·refine xO ?_
   have hge:(r33.1.length:Int) ≤ i41:=Int.not_lt.1 (of_decide_eq_false hc42)
   obtain rfl:m41=0:=by omega
   replace e41:=kV e41
   exact ⟨rfl,df,(),e41,S⟩
  refine zw ?_
  have hlt41:i41 < (r33.1.length:Int):=of_decide_eq_true hc42
  obtain ⟨m41,rfl⟩ : ∃ m,m41=m + 1:=⟨m41 - 1,by omega⟩
  obtain ⟨q41,H,e41⟩ := kW e41
  unfold zce.b0 at H
  try dsimp only at H
  have hb41:=(S.lenO 0)
  refine zb ?_
  refine zL (zb (za (wd (zi rfl) (zd (zb (zb (za (wd (zh rfl) (zd ?_)))))))))
  obtain ⟨o43,e43,Ho43⟩ := zp H
  clear H
  refine xL ([18,19] ++ rg 85 18) (fun fr W=>fr 18 = .bool o43∧St A N w W LT1 LT2) ?_ ?_
  ·refine zL ?_
   refine xI (α:=Nat × Int × Bool) ([18,19] ++ rg 85 18) (fun x fr W=>(x.1:Int)=(r8.1.length:Int) - x.2.1∧0 ≤ x.2.1∧forS (fun i s=>zce.b1 r8 r33 i41 i s) x.1 x.2.1 x.2.2=some o43∧fr 19 = .int .i64 x.2.1∧fr 18 = .bool (x.2.2)∧St A N w W LT1 LT2) (fun x=>x.1) (((r8.1.length:Int) - 0).toNat,0,false) ⟨(by dsimp only; have hle:=Int.natCast_nonneg (r8.1.length); omega),(Int.le_refl _),(by dsimp only; exact e43),rfl,rfl,S⟩ ?_
   rintro ⟨m43,i43,x43_0⟩ g43 u43 ⟨hm43,hl43,e43,q43_i,q43_18,S⟩
   try dsimp only at hm43
   try dsimp only at hl43
   try dsimp only at e43
   try dsimp only at S
   try dsimp only at q43_i
   try dsimp only at q43_18
   refine zb (zb (za (wd (zk q43_i) (wd (zM rfl) (wd (xE vw rfl (S.rdO 2)) (wd (xp rfl rfl) (zd ?_)))))))
   refine zI rfl (fun hc44=>?_) (fun hc44=>?_)
   rotate_left
   ·refine xO ?_
    have hge:(r8.1.length:Int) ≤ i43:=Int.not_lt.1 (of_decide_eq_false hc44)
    obtain rfl:m43=0:=by omega
    replace e43:=forS_0 e43
    obtain rfl:=e43
    exact ⟨rfl,df,q43_18,S⟩
   refine zw ?_
   have hlt43:i43 < (r8.1.length:Int):=of_decide_eq_true hc44
   obtain ⟨m43,rfl⟩ : ∃ m,m43=m + 1:=⟨m43 - 1,by omega⟩
   obtain ⟨q43,H,e43⟩ := forS_s e43
   unfold zce.b1 at H
   try dsimp only at H
   have hb43:=(S.lenO 2)
   refine zb ?_
   refine zL ?_
   refine x0 10 (Ext u43) hmix zap zap (Ext.drawn _) (zC (fun v K=>zy q43_18) (zC (fun v K=>zy rfl) (vy (j:=1) (pol:=false) rfl rfl rfl (fun hg v K=>zM rfl) (vy (j:=1) (pol:=false) rfl rfl rfl (fun hg v K=>zk q43_i) (vy (j:=1) (pol:=false) rfl rfl rfl (fun hg v K=>xg vw (zn hg) (zn hg) ((S.ext K).rdO 2) (And.intro (show 0 ≤ i43 by omega) (show i43 < (r8.1.length:Int) from hlt43)).1 (And.intro (show 0 ≤ i43 by omega) (show i43 < (r8.1.length:Int) from hlt43)).2) ?_)))))
   refine vy (j:=1) (pol:=false) rfl rfl rfl (fun hg v K=>zl xt (zn hg) (((S.ext K).rdO 2).one (vf ByteArray.empty (And.intro (show 0 ≤ i43 by omega) (show i43 < (r8.1.length:Int) from hlt43))) rfl)) (vy (j:=1) (pol:=false) rfl rfl rfl (fun hg v K=>zM rfl) (vy (j:=1) (pol:=false) rfl rfl rfl (fun hg v K=>zk q41_i) (vy (j:=1) (pol:=false) rfl rfl rfl (fun hg v K=>xg vw (zn hg) (zn hg) ((S.ext K).rdO 0) (And.intro (show 0 ≤ i41 by omega) (show i41 < (r33.1.length:Int) from hlt41)).1 (And.intro (show 0 ≤ i41 by omega) (show i41 < (r33.1.length:Int) from hlt41)).2) (vy (j:=1) (pol:=false) rfl rfl rfl (fun hg v K=>zl xt (zn hg) (((S.ext K).rdO 0).one (vf ByteArray.empty (And.intro (show 0 ≤ i41 by omega) (show i41 < (r33.1.length:Int) from hlt41))) rfl)) ?_))))
   refine vj fun w47 K=>?_
   replace S:=S.ext K
   clear K
   refine wg (fun hg=>yo (zn hg) (zn hg)) (wd (xv rfl (fun hp=>(zn (xl hp)))) (wd (zi rfl) (zd (za (wd (zk q43_i) ?_)))))
   refine wd (xi rfl rfl (c:=i43 + 1) rfl zan zan) (wd (zh rfl) (zd ?_))
   obtain rfl:=zaq H
   exact ⟨rfl,df,(m43,i43 + 1,x43_0 || (decide (at_ ByteArray.empty r8.1 i43=at_ ByteArray.empty r33.1 i41))),⟨(by dsimp only; omega),(by dsimp only; omega),e43,rfl,rfl,S⟩,by dsimp only; omega⟩
  rintro g48 u49 ⟨p43_18,S⟩
  have H:=Ho43
  refine zb (za (wd (zy p43_18) (wd (xf rfl) (zd ?_))))
  refine zI rfl (fun hc50=>?_) (fun hc50=>?_)
  ·replace H:=if_t hc50 H
   refine zb (za (wd (zi rfl) (zd (zr ?_))))
   refine ⟨_,(zP (zf rfl)),?_⟩
   replace S:=S.arr [] []
   obtain rfl:=zaq H
   obtain rfl:=e41
   obtain rfl:=uD Ho41
   exact ⟨rfl,S⟩
  replace H:=if_f hc50 H
  refine zw (za (wd (zk q41_i) (wd (xi rfl rfl (c:=i41 + 1) rfl zan zan) (wd (zh rfl) (zd ?_)))))
  obtain rfl:=zaq H
  exact ⟨rfl,df,(m41,i41 + 1,()),⟨(by dsimp only; omega),(by dsimp only; omega),e41,rfl,S⟩,by dsimp only; omega⟩
 rintro g51 u52 ⟨s41,rfl,S⟩
 have H:=Ho41
 dsimp only [aft] at H
 refine zb (za (wd (zB rfl) (wd (ldT rfl (S.blk 3)) ?_)))
 obtain ⟨r53,er53,H⟩ := zp H
 obtain ⟨_,_,T,bk⟩ := S.sub [5] [] LT1
 refine zA (zx kS) zam (ref12_Copy_st (a0:=a1) T er53) ?_
 rintro _ w54 ⟨s56,rfl,S2⟩
 replace S:=bk _ _ _ _ _ S2 rfl rfl
 refine wd (zk rfl) ?_
 obtain ⟨r57,er57,H⟩ := zp H
 obtain ⟨_,_,T,bk⟩ := S.sub [3,0,7] [] LT1
 refine zA (zx kR) zam (kZ (a1:=r53) T er57) ?_
 rintro _ w58 ⟨s60,rfl,S2⟩
 replace S:=bk _ _ _ _ _ S2 rfl rfl
 refine wd (xb rfl) (wd (zo rfl rfl) (wd (zo rfl rfl) (wd (zo rfl rfl) (wd (zo rfl rfl) ?_))))
 refine zQ xn zam fun b62 w61 hw61=>?_
 replace S:=S.new hw61
 refine wsT rfl rfl (S.blk 0) fun w63 B hw63 zw63=>?_
 replace S:=S.store 0 B hw63
 refine wd (zh rfl) (wd (zi rfl) (wd (zh rfl) (zd (zb (za (wd (zk rfl) ?_))))))
 obtain ⟨r64,er64,H⟩ := zp H
 obtain ⟨_,_,T,bk⟩ := S.calln 0 ((.nil))
 refine zA (zx yg) zam (yh T er64) ?_
 rintro _ w65 ⟨rfl,S2⟩
 replace S:=bk _ _ _ _ S2 rfl
 refine wd (zR rfl rfl) (wd (zy rfl) ?_)
 refine wg (fun hg=>zk rfl) ?_
 refine wg (fun hg=>zk rfl) ?_
 refine wg (fun hg=>zR (zn hg) (zn hg)) (wd (zV rfl (fun hp=>(zn (xl hp)))) (wd (zy rfl) ?_))
 refine wg (fun hg=>ldT rfl (S.blk 2)) ?_
 refine wg (fun hg=>ldT rfl (S.blk 0)) ?_
 obtain ⟨r67,er67,H⟩ := zp H
 refine xJ (j:=8) (pol:=true) rfl rfl rfl zam (fun hg=>zK uE (zN (zn hg) (zN (zn hg) rfl))) zam (fun hg=>(have ⟨M,SS⟩ := S.lend ((.z 3 rfl (.z 0 rfl .nil))); quiet (jN (a0:=r16.1) (a1:=r57.1) SS (if_t (by simpa using hg) er67)) (fun v w' h=>⟨h.1,_,_,h.2⟩))) fun w68 hw68=>?_
 replace S:=S.ext hw68
 refine wd (zV rfl (fun hp=>(zn (xl hp)))) (wd (zy rfl) ?_)
 obtain ⟨r69,er69,H⟩ := zp H
 refine xJ (j:=13) (pol:=true) rfl rfl rfl zam (fun hg=>zK ca_law14_heads rfl) zam (fun hg=>(have ⟨M,SS⟩ := S.lend ((.z 8 rfl .nil)); quiet (law14_heads_st SS (if_t (by simpa using hg) er69)) (fun v w' h=>⟨h.1,_,_,h.2⟩))) fun w70 hw70=>?_
 replace S:=S.ext hw70
 refine wd (zV rfl (fun hp=>(zn (xl hp)))) (wd (zi rfl) (zd (zr ?_)))
 refine ⟨_,(zP (zf rfl)),?_⟩
 replace S:=S.arr [] []
 obtain rfl:=zaq H
 exact ⟨rfl,S⟩
end
section
open Gw
theorem forN_find {σ ρ:Type} {b:Int→σ→Option (Stp σ ρ)} {p:Nat→Bool} {r:Nat→ρ} : ∀ (n i:Nat) (s:σ),(∀ j:Nat,i ≤ j→j < i + n→b j s=some (if p j then .ret (r j) else .go s))→forN b n i s=some (match (List.range' i n).find? p with | some j => .inr (r j) | none => .inl s)
 | 0,i,s,_=>rfl
 | n + 1,i,s,h=>by
  rw [forN,h i (Nat.le_refl _) zan,List.range'_succ]
  cases hp:p i with
  | true=>simp [hp,List.find?_cons]
  | false =>
   have:=forN_find n (i + 1) s fun j h1 h2=>h j zan zan
   simpa [hp,List.find?_cons] using this
abbrev nd (M:List Nd) (i:Int):Nd:=(nodeS M i).1
structure Wf (M:List Nd):Prop where
 len:M.length ≤ 1024
 nodup:M.Nodup
 kind : ∀ i:Int,inb i M.length=true→(nd M i).kind=1∨(nd M i).kind=2∨(nd M i).kind=3∨(nd M i).kind=4∨(nd M i).kind=5
 kids : ∀ i:Int,inb i M.length=true→(nd M i).kind=3∨(nd M i).kind=4∨(nd M i).kind=5→(0 ≤ (nd M i).l∧(nd M i).l < i)∧0 ≤ (nd M i).r∧(nd M i).r < i
 fits : ∀ (j:Nat) (n:Nd),M[j]? = some n→yW (M.take j) n=0
theorem Wf.left {M:List Nd} (h:Wf M) {i:Int} (hi:inb i M.length=true) (hk:(nd M i).kind=3∨(nd M i).kind=4∨(nd M i).kind=5):inb (nd M i).l M.length=true:=by
 have h1:=h.kids i hi hk
 have h2:=zG hi
 simp only [inb,Bool.and_eq_true,decide_eq_true_eq]; omega
theorem Wf.right {M:List Nd} (h:Wf M) {i:Int} (hi:inb i M.length=true) (hk:(nd M i).kind=3∨(nd M i).kind=4∨(nd M i).kind=5):inb (nd M i).r M.length=true:=by
 have h1:=h.kids i hi hk
 have h2:=zG hi
 simp only [inb,Bool.and_eq_true,decide_eq_true_eq]; omega
theorem find_congr {α:Type} {p q:α→Bool} : ∀ {l:List α},(∀ x ∈ l,p x=q x)→l.find? p=l.find? q
 | [],_=>rfl
 | x :: l,h=>by
  rw [List.find?_cons,List.find?_cons,h x zao,find_congr fun y hy=>h y (by simp [hy])]
theorem any_find {α:Type} {p:α→Bool} : ∀ (l:List α),l.any p=(l.find? p).isSome
 | []=>rfl
 | x :: l=>by
  rw [List.any_cons,List.find?_cons,any_find l]
  cases p x <;> rfl
theorem inb_nat (j n:Nat):inb (j:Int) n=decide (j < n):=by
 unfold inb
 rw [decide_eq_true (show 0 ≤ (j:Int) by omega),Bool.true_and,decide_eq_decide]
 omega
theorem wrap_small {n:Int} (h:0 ≤ n∧n < 9223372036854775808):IntKind.i64.wrap n=n:=by
 exact IntWalk.i64_in _ ⟨by omega,by omega⟩
theorem idx_find (n:Nd) : ∀ (N:List Nd) (s:Nat),(List.range' s N.length).find? (fun k=>decide (N.getD (k - s) Nd.z=n))=(N.idxOf? n).map (· + s)
 | [],s=>rfl
 | a :: N,s=>by
  rw [List.length_cons,List.range'_succ,List.find?_cons,List.idxOf?_cons]
  by_cases h:a=n
  ·simp [h]
  ·have h1:(a == n)=false:=by simpa using h
   have h2:(List.range' (s + 1) N.length).find? (fun k=>decide ((a :: N).getD (k - s) Nd.z=n))=(List.range' (s + 1) N.length).find? (fun k=>decide (N.getD (k - (s + 1)) Nd.z=n)):=find_congr fun k hk=>by
    have hk:=(List.mem_range'_1.1 hk).1
    rw [show k - s=(k - (s + 1)) + 1 by omega]; simp
   simp only [Nat.sub_self,List.getD_cons_zero,h,decide_false,h1,h2,idx_find n N (s + 1)]
   cases N.idxOf? n with
   | none=>rfl
   | some k=>simp; omega
theorem docFind (N:List Nd) (n:Nd):zbR.f (some N) n=some (match N.idxOf? n with | some k=>((k:Int),true) | none=>(0,false)):=by
 unfold zbR.f
 have h1:=forN_find (b:=fun i s=>zbR.b0 (some N) n i) (p:=fun k=>decide (N.getD k Nd.z=n)) (r:=fun k=>((k:Int),true)) N.length 0 () (by
  intro k _ hk
  unfold zbR.b0 at_
  rw [Int.toNat_natCast,Option.getD_some]
  split <;> rfl)
 have e0:(((N.length:Nat):Int) - 0).toNat=N.length:=by omega
 simp only [Option.isSome_some,Option.getD_some,chk,if_true,e0]
 rw [show (0:Int)=((0:Nat):Int) from rfl,h1]
 have h2:=idx_find n N 0
 simp only [Nat.sub_zero,Nat.add_zero] at h2
 rw [h2]
 cases N.idxOf? n <;> rfl
theorem bind_eq {α β:Type} {x:Option α} {y:α} {f:α→Option β} {r:Option β} (hx:x=some y) (h:f y=r):x.bind f=r:=by rw [hx]; exact h
theorem docPut {N:List Nd} {n:Nd} (hN:N.length ≤ 1024) (hn:n.name.size < 9223372036854775808):zbS.f (some N) n=some (some (putS N n).1,(putS N n).2.1,(putS N n).2.2):=by
 have hrow : ∀ i:Int,zbQ.f (some N) i=some (uO N i):=fun i=>by simp [zbQ.f,chk,uO]
 have hend:((zbR.f (some N) n).bind fun r25=>if r25.2 then some (some N,r25.1,0) else chk (some N).isSome (if decide (1024 ≤ ((((some N).getD []).length:Nat):Int)) then some ((some ((some N).getD [])),0,30) else chk (decide ((((some N).getD []).length + 1) * 40 ≤ 140737488355328)) (some ((some (((some N).getD []) ++ [n])),IntKind.i64.wrap (((((some N).getD []) ++ [n]).length:Int) - 1),0)))) =
   (match N.idxOf? n with | some k=>some (some N,(k:Int),(0:Int)) | none=>if 1024 ≤ N.length then some (some N,0,30) else some (some (N ++ [n]),(N.length:Int),0)):=by
  rw [docFind]
  cases N.idxOf? n with
  | some k=>rfl
  | none =>
   simp only [zar,Bool.false_eq_true,if_false,Option.isSome_some,Option.getD_some,chk,if_true,decide_eq_true_eq]
   by_cases h:1024 ≤ N.length
   ·have h1:(1024:Int) ≤ (N.length:Int):=by omega
    simp only [h,h1,if_true]
   ·have h1:¬ (1024:Int) ≤ (N.length:Int):=by omega
    have h2:(N.length + 1) * 40 ≤ 140737488355328:=by omega
    have h3:IntKind.i64.wrap (((N ++ [n]).length:Int) - 1)=(N.length:Int):=by
     rw [wrap_small (by simp; omega)]; simp
    simp only [h,h1,h2,h3,if_true,if_false]
 unfold zbS.f
 refine bind_eq (y:=if yW N n=0 then .inl (some N) else .inr (some N,0,yW N n)) ?_ ?_
 ·unfold yW
  simp only [hrow,zax.f,hn,chk,decide_true,if_true,zar]
  by_cases k1:n.kind=1
  ·simp only [k1,decide_true,if_true]
   by_cases hl:n.l=0
   ·by_cases hr:n.r=0
    ·by_cases hw:isWord n.name <;> simp [hl,hr,hw]
    ·simp [hl,hr]
   ·simp [hl]
  by_cases k2:n.kind=2
  ·have e:(n={ Nd.z with kind:=2 })↔(n.name=⟨#[]⟩ ∧ n.l=0∧n.r=0):=by
    constructor
    ·intro h; rw [h]; exact ⟨rfl,rfl,rfl⟩
    ·rintro ⟨h1,h2,h3⟩
     obtain ⟨a,b,c,d⟩ := n
     simp only at k2 h1 h2 h3
     subst k2 h1 h2 h3; rfl
   simp only [k2,decide_true,if_true,show ¬ ((2:Int)=1) by decide,decide_false,Bool.false_eq_true,if_false,e]
   by_cases hm:n.name=⟨#[]⟩
   ·by_cases hl:n.l=0
    ·by_cases hr:n.r=0 <;> simp [hm,hl,hr]
    ·simp [hm,hl]
   ·simp [hm]
  by_cases k3:n.kind=3∨n.kind=4∨n.kind=5
  ·have ho:((if decide (n.kind=3)=true then some (decide (n.kind=3)) else if decide (n.kind=4)=true then some (decide (n.kind=4)) else some (decide (n.kind=5))):Option Bool)=some true:=by
    rcases k3 with k | k | k <;> simp [k]
   simp only [k1,k2,k3,decide_false,Bool.false_eq_true,if_false,if_true]
   simp only [decide_eq_true_eq] at ho ⊢
   rw [ho]
   simp only [zar,if_true]
   by_cases hm:n.name=⟨#[]⟩
   ·cases hl:uO N n.l with
    | false=>simp [hm,hl]
    | true=>cases hr:uO N n.r <;> simp [hm,hl,hr]
   ·simp [hm]
  ·have ho:((if decide (n.kind=3)=true then some (decide (n.kind=3)) else if decide (n.kind=4)=true then some (decide (n.kind=4)) else some (decide (n.kind=5))):Option Bool)=some false:=by
    simp only [not_or] at k3; simp [k3.1,k3.2.1,k3.2.2]
   simp only [k1,k2,k3,decide_false,Bool.false_eq_true,if_false,if_true]
   simp only [decide_eq_true_eq] at ho ⊢
   rw [ho]
   simp
 ·by_cases hf:yW N n=0
  ·rw [if_pos hf]
   refine Eq.trans (show _=_ from hend) ?_
   unfold putS
   rw [if_pos hf]
   cases N.idxOf? n with
   | some k=>rfl
   | none =>
    by_cases h:1024 ≤ N.length
    ·simp only [if_pos h]
    ·simp only [if_neg h]
  ·rw [if_neg hf,put_bad hf]; rfl
theorem progPut {N:List Nd} {n:Nd} (hn:n.name.size < 9223372036854775808):zav.f (some N) n=some (some (putS N n).1,(putS N n).2.1,(putS N n).2.2):=by
 simp [zav.f,chk,hn]
theorem rows_take {M:List Nd} {i:Nat} (hi:i < M.length):at_ Nd.z M i=M[i]:=by
 unfold at_; rw [Int.toNat_natCast,List.getD_eq_getElem?_getD,List.getElem?_eq_getElem hi]; rfl
theorem wf_push {N:List Nd} {n:Nd} (h:Wf N) (hf:yW N n=0) (hl:N.length < 1024) (hnew:n ∉ N):Wf (N ++ [n]):=by
 have hnd : ∀ i:Int,inb i N.length=true→nd (N ++ [n]) i=nd N i:=by
  intro i hi
  have h1:=zG hi
  unfold nd nodeS uO
  have h2:i.toNat < N.length:=by omega
  rw [if_pos (by simp; omega),if_pos (by simp; omega)]
  simp only
  rw [List.getD_eq_getElem?_getD,List.getElem?_append_left h2,← List.getD_eq_getElem?_getD]
 have hlast:nd (N ++ [n]) N.length=n:=by
  unfold nd nodeS uO
  rw [if_pos (by simp; omega)]
  simp
 have hsplit : ∀ i:Int,inb i (N ++ [n]).length=true→inb i N.length=true∨i=N.length:=by
  intro i hi
  have:=zG hi
  simp at this
  simp only [inb,Bool.and_eq_true,decide_eq_true_eq]; omega
 have hkind:n.kind=1∨n.kind=2∨n.kind=3∨n.kind=4∨n.kind=5:=by
  unfold yW at hf
  by_cases k1:n.kind=1
  ·exact .inl k1
  by_cases k2:n.kind=2
  ·exact .inr (.inl k2)
  by_cases k3:n.kind=3∨n.kind=4∨n.kind=5
  ·exact .inr (.inr k3)
  ·simp [k1,k2,k3] at hf
 refine ⟨by simp; omega,by rw [List.nodup_append]; exact ⟨h.nodup,by simp,fun a ha b hb e=>hnew (by rw [← List.mem_singleton.1 hb,← e]; exact ha)⟩,fun i hi=>?_,fun i hi hk=>?_,fun j m hm=>?_⟩
 ·rcases hsplit i hi with h1 | rfl
  ·rw [hnd i h1]; exact h.kind i h1
  ·rw [hlast]; exact hkind
 ·rcases hsplit i hi with h1 | rfl
  ·rw [hnd i h1] at hk ⊢; exact h.kids i h1 hk
  ·rw [hlast] at hk ⊢
   unfold yW at hf
   have k1:¬ n.kind=1:=by omega
   have k2:¬ n.kind=2:=by omega
   rw [if_neg k1,if_neg k2,if_pos hk] at hf
   split at hf
   ·simp at hf
   ·rename_i hh
    simp only [not_or,Bool.not_eq_false] at hh
    obtain ⟨⟨_,h1⟩,h2⟩ := hh
    simp only [uO,Bool.and_eq_true,decide_eq_true_eq] at h1 h2
    exact ⟨h1,h2⟩
 ·by_cases hj:j < N.length
  ·rw [List.getElem?_append_left hj] at hm
   rw [List.take_append_of_le_length zan]; exact h.fits j m hm
  ·have hj2:j < (N ++ [n]).length:=(List.getElem?_eq_some_iff.1 hm).1
   have e:j=N.length:=by simp at hj2; omega
   subst e
   simp at hm
   subst hm
   simpa using hf
theorem from_some {rows:List Nd} (hn : ∀ n ∈ rows,n.name.size < 9223372036854775808) : ∃ r:Tb × Int,zbT.f rows=some r∧zbO.f rows=some r∧(r.2=0→r.1=some rows∧Wf rows):=by
 have hstep : ∀ (N:List Nd) (i:Nat),i < rows.length→N.length ≤ 1024→zbT.b0 rows i (some N)=some (if (putS N (at_ Nd.z rows i)).2.2 ≠ 0 then .ret (none,(putS N (at_ Nd.z rows i)).2.2) else if (putS N (at_ Nd.z rows i)).2.1 ≠ i then .ret (none,31) else .go (some (putS N (at_ Nd.z rows i)).1)) ∧
   zbO.b0 rows i (some N)=zbT.b0 rows i (some N):=by
  intro N i hi hN
  have hm:(at_ Nd.z rows i).name.size < 9223372036854775808:=by rw [rows_take hi]; exact hn _ (List.getElem_mem hi)
  have h1:zbT.b0 rows i (some N)=some (if (putS N (at_ Nd.z rows i)).2.2 ≠ 0 then .ret (none,(putS N (at_ Nd.z rows i)).2.2) else if (putS N (at_ Nd.z rows i)).2.1 ≠ i then .ret (none,31) else .go (some (putS N (at_ Nd.z rows i)).1)):=by
   unfold zbT.b0
   rw [docPut hN hm]
   simp only [zar,decide_eq_true_eq]
   split
   ·rfl
   ·split <;> rfl
  refine ⟨h1,?_⟩
  rw [h1]
  unfold zbO.b0
  rw [progPut hm]
  simp only [zar]
  by_cases e:(putS N (at_ Nd.z rows i)).2.2=0
  ·by_cases e2:(putS N (at_ Nd.z rows i)).2.1=i
   ·simp [e,e2]
   ·simp [e,e2]
  ·simp [e]
 have main : ∀ (n i:Nat),i + n=rows.length→i ≤ 1024→Wf (rows.take i) → ∃ o,forN (fun j s=>zbT.b0 rows j s) n i (some (rows.take i))=some o∧forN (fun j s=>zbO.b0 rows j s) n i (some (rows.take i))=some o ∧
   ((∃ e,e ≠ 0∧o = .inr (none,e))∨(o = .inl (some rows)∧Wf rows)):=by
  intro n
  induction n with
  | zero =>
   intro i hi _ hw
   rw [List.take_of_length_le zan] at hw ⊢
   exact ⟨_,rfl,rfl,.inr ⟨rfl,hw⟩⟩
  | succ n ih =>
   intro i hi hle hw
   have hil:i < rows.length:=by omega
   have hlen:(rows.take i).length=i:=by simp; omega
   obtain ⟨h1,h2⟩ := hstep (rows.take i) i hil zan
   simp only [forN]
   rw [h2,h1]
   by_cases e:(putS (rows.take i) (at_ Nd.z rows i)).2.2=0
   ·by_cases e2:(putS (rows.take i) (at_ Nd.z rows i)).2.1=i
    ·simp only [e,e2,ne_eq,not_true_eq_false,if_false,zar]
     have hput:yW (rows.take i) (at_ Nd.z rows i)=0∧i < 1024∧at_ Nd.z rows i ∉ rows.take i∧(putS (rows.take i) (at_ Nd.z rows i)).1=rows.take i ++ [at_ Nd.z rows i]:=by
      by_cases hf:yW (rows.take i) (at_ Nd.z rows i)=0
      ·cases hk:(rows.take i).idxOf? (at_ Nd.z rows i) with
       | some k =>
        rw [put_old hf hk] at e2
        have:k < (rows.take i).length:=by
         have:=List.idxOf?_eq_some_iff.1 hk
         exact this.1
        simp only at e2; omega
       | none =>
        by_cases hl:1024 ≤ (rows.take i).length
        ·rw [put_full hf hk hl] at e; simp at e
        ·rw [put_new hf hk hl]
         exact ⟨hf,by omega,List.idxOf?_eq_none_iff.1 hk,rfl⟩
      ·rw [put_bad hf] at e; exact absurd e hf
     obtain ⟨hf,hlt,hnew,hp⟩ := hput
     have ht:rows.take i ++ [at_ Nd.z rows i]=rows.take (i + 1):=by
      rw [rows_take hil,List.take_succ_eq_append_getElem hil]
     rw [hp,ht]
     have:=ih (i + 1) zan zan (by rw [← ht]; exact wf_push hw hf zan hnew)
     simpa using this
    ·simp only [e,e2,ne_eq,not_true_eq_false,not_false_eq_true,if_false,if_true,zar]
     exact ⟨_,rfl,rfl,.inl ⟨31,by decide,rfl⟩⟩
   ·simp only [e,ne_eq,not_false_eq_true,if_true,zar]
    exact ⟨_,rfl,rfl,.inl ⟨_,e,rfl⟩⟩
 have e0:(((rows.length:Nat):Int) - 0).toNat=rows.length:=by omega
 obtain ⟨o,h1,h2,h3⟩ := main rows.length 0 zan zan ⟨by simp,by simp,fun i hi=>absurd (zG hi) zao,fun i hi=>absurd (zG hi) zao,fun j n h=>by simp at h⟩
 unfold zbT.f zbO.f zay.f
 rw [e0]
 simp only [zar]
 rw [show (0:Int)=((0:Nat):Int) from rfl]
 rw [List.take_zero] at h1 h2
 rw [h1,h2]
 rcases h3 with ⟨e,he,rfl⟩ | ⟨rfl,hw⟩
 ·exact ⟨_,rfl,rfl,fun q=>absurd q he⟩
 ·exact ⟨_,rfl,rfl,fun _=>⟨rfl,hw⟩⟩
theorem both_some {rows:List Nd} (hn : ∀ n ∈ rows,n.name.size < 9223372036854775808) (hl:rows.length * 40 ≤ 140737488355328):zbU.f rows=some (none,none,false)∨(zbU.f rows=some (some rows,some rows,true)∧Wf rows):=by
 obtain ⟨r,h1,h2,h3⟩ := from_some hn
 have hc:(([]:List Nd).length + rows.length) * 40 ≤ 140737488355328:=by rw [List.length_nil,Nat.zero_add]; exact hl
 unfold zbU.f
 rw [chk,if_pos (decide_eq_true hc),h1]
 simp only [zar,List.nil_append,h2]
 by_cases e:r.2=0
 ·obtain ⟨h4,hw⟩ := h3 e
  exact .inr ⟨by rw [h4]; simp [e],hw⟩
 ·exact .inl (by simp [e])
end
section

end
section
open Gw
-- terms: nodes,levels,what is right
mutual
def depT:PTerm→Nat
 | .mk _ _ _ _ s=>1 + depL s
def depL:List PTerm→Nat
 | []=>0
 | x :: l=>max (depT x) (depL l)
end
def yD (k:Int):Int:=if k=1 then 0 else if k=9 then 3 else if k=3∨k=4∨k=12 then 2 else if k=2∨k=5∨k=6∨k=7∨k=8∨k=10∨k=11 then 1 else -1
def nodeR (x:PTerm):Bool :=
 decide (yD x.kind=x.sub.length) && (if x.kind=1∨x.kind=2∨x.kind=9∨x.kind=12 then decide (isWord x.name) else decide (x.name=⟨#[]⟩)) &&
  (if x.kind=9 then decide (isWord x.other) else decide (x.other=⟨#[]⟩)) && (if x.kind=11 then decide (0 ≤ x.form) && decide (x.form < 1024) else decide (x.form=0))
mutual
def rightT:PTerm→Bool
 | .mk k n o f s=>nodeR (.mk k n o f s) && rightL s
def rightL:List PTerm→Bool
 | []=>true
 | x :: l=>rightT x && rightL l
end
theorem yL (x:PTerm):depT x=1 + depL x.sub:=by cases x; simp [depT,PTerm.sub]
theorem rightT_eq (x:PTerm):rightT x=(nodeR x && rightL x.sub):=by cases x; simp [rightT,PTerm.sub]
theorem rightL_mem : ∀ {l:List PTerm},rightL l=true → ∀ x ∈ l,rightT x=true
 | [],_,_,h=>by simp at h
 | y :: l,h,x,hx=>by
  simp only [rightL,Bool.and_eq_true] at h
  rcases List.mem_cons.1 hx with rfl | hx
  ·exact h.1
  ·exact rightL_mem h.2 x hx
theorem nmL_mem : ∀ {l:List PTerm},nmL l → ∀ x ∈ l,nmT x
 | [],_,_,h=>by simp at h
 | y :: l,h,x,hx=>by
  simp only [nmL] at h
  rcases List.mem_cons.1 hx with rfl | hx
  ·exact h.1
  ·exact nmL_mem h.2 x hx
theorem yV : ∀ {l:List PTerm},∀ x ∈ l,depT x ≤ depL l
 | [],_,h=>by simp at h
 | y :: l,x,hx=>by
  simp only [depL]
  rcases List.mem_cons.1 hx with rfl | hx
  ·omega
  ·have:=yV x hx; omega
inductive TR where
 | ok (f:Int)
 | no (c:Int) (way:List Int)
 deriving DecidableEq
namespace TR
def at_ (i:Int):TR→TR
 | ok f=>ok f
 | no c w=>no c (i :: w)
def bind (r:TR) (k:Int→TR):TR:=match r with
 | ok f=>k f
 | no c w=>no c w
def code:TR→Int
 | ok _=>0
 | no c _=>c
def way:TR→List Int
 | ok _=>[]
 | no _ w=>w
def form:TR→Int
 | ok f=>f
 | no _ _=>0
end TR
abbrev Sc:=List (ByteArray × Int)
def ofK (M:List Nd) (f k:Int) (g:Nd→TR):TR:=if (nd M f).kind=k then g (nd M f) else .no 130 []
def toldS (M:List Nd) (P:Int→Sc→Option Int→TR) (s:Sc) (x:PTerm):TR :=
 if x.kind=1 then (match s.find? (fun q=>decide (q.1=x.name)) with | some q => .ok q.2 | none => .no 131 [])
 else if x.kind=3 then (P 0 s none).bind fun f=>ofK M f 5 fun n=>(P 1 s (some n.l)).bind fun _ => .ok n.r
 else if x.kind=5 then (P 0 s none).bind fun f=>ofK M f 3 fun n => .ok n.l
 else if x.kind=6 then (P 0 s none).bind fun f=>ofK M f 3 fun n => .ok n.r
 else if x.kind=11 then (if inb x.form M.length then (P 0 s (some x.form)).bind fun _ => .ok x.form else .no 31 [])
 else if x.kind=12 then (P 0 s none).bind fun f=>P 1 ((x.name,f) :: s) none
 else if x.kind=9 then (P 0 s none).bind fun f=>ofK M f 4 fun n=>(P 1 ((x.name,n.l) :: s) none).bind fun a=>(P 2 ((x.other,n.r) :: s) none).bind fun b=>if a=b then .ok a else .no 130 []
 else .no 132 []
def chkdS (M:List Nd) (P:Int→Sc→Option Int→TR) (s:Sc) (x:PTerm) (id:Int):TR :=
 if x.kind=2 then ofK M id 5 fun n=>P 0 ((x.name,n.l) :: s) (some n.r)
 else if x.kind=4 then ofK M id 3 fun n=>(P 0 s (some n.l)).bind fun _=>P 1 s (some n.r)
 else if x.kind=7 then ofK M id 4 fun n=>P 0 s (some n.l)
 else if x.kind=8 then ofK M id 4 fun n=>P 0 s (some n.r)
 else if x.kind=9 then (P 0 s none).bind fun f=>ofK M f 4 fun n=>(P 1 ((x.name,n.l) :: s) (some id)).bind fun _=>P 2 ((x.other,n.r) :: s) (some id)
 else if x.kind=10 then (P 0 s none).bind fun f=>ofK M f 2 fun _ => .ok id
 else if x.kind=12 then (P 0 s none).bind fun f=>P 1 ((x.name,f) :: s) (some id)
 else (toldS M P s x).bind fun f=>if f=id then .ok id else .no 130 []
def tyS (M:List Nd):Nat→PTerm→Sc→Option Int→TR
 | 0,_,_,_ => .no 132 []
 | k + 1,x,s,want =>
  let P:Int→Sc→Option Int→TR:=fun i s' w=>(tyS M k (at_ PTerm.z x.sub i) s' w).at_ i
  match want with
  | none=>toldS M P s x
  | some id=>chkdS M P s x id
end
section
open Gw
theorem chk_t {α:Type} {b:Bool} {x:Option α} (h:b=true):chk b x=x:=by rw [chk,if_pos h]
theorem wrap_nat {n:Nat} (h:n < 9223372036854775808):IntKind.i64.wrap (n:Int)=n:=wrap_small ⟨by omega,by omega⟩
theorem iter_count {τ ρ:Type} {b:τ × Int→Option (Stp (τ × Int) ρ)} (g:Nat→τ) (n:Nat)
  (h : ∀ i,i < n→b (g i,(i:Int))=some (.go (g (i + 1),((i + 1:Nat):Int)))∨(b (g i,(i:Int))=some (.brk (g i,(i:Int)))∧g i=g n)) (he:b (g n,(n:Int))=some (.brk (g n,(n:Int)))) :
  ∀ (k i:Nat),i ≤ n→n - i < k → ∃ j:Int,iter b k (g i,(i:Int))=some (.inl (g n,j))
 | 0,i,_,hk=>by omega
 | k + 1,i,hi,hk=>by
  by_cases hin:i=n
  ·subst hin; exact ⟨(i:Int),by simp only [iter,he,zar]⟩
  ·rcases h i zan with h1 | ⟨h1,h2⟩
   ·obtain ⟨j,hj⟩ := iter_count g n h he k (i + 1) zan zan
    exact ⟨j,by simp only [iter,h1,zar]; exact hj⟩
   ·exact ⟨(i:Int),by rw [iter,h1]; simp only [zar,h2]⟩
theorem depL_take : ∀ {l:List PTerm} {i:Nat} {x:PTerm},l[i]? = some x→depL (l.take (i + 1))=max (depL (l.take i)) (depT x)
 | [],_,_,h=>by simp at h
 | y :: l,0,x,h=>by simp at h; subst h; simp [depL]
 | y :: l,i + 1,x,h=>by
  have:=depL_take (l:=l) (i:=i) (by simpa using h)
  simp only [List.take_succ_cons,depL]; omega
theorem depL_le : ∀ {l:List PTerm} (i:Nat),depL (l.take i) ≤ depL l
 | [],i=>by simp
 | y :: l,0=>by simp [depL]
 | y :: l,i + 1=>by have:=depL_le (l:=l) i; simp only [List.take_succ_cons,depL]; omega
theorem len_sizeL : ∀ (l:List PTerm),l.length ≤ sizeL l
 | []=>by simp
 | y :: l=>by have:=len_sizeL l; have:=uU y; simp only [List.length_cons,sizeL]; omega
theorem yO : ∀ {l:List PTerm} {x:PTerm},x ∈ l→sizeT x ≤ sizeL l
 | [],_,h=>by simp at h
 | y :: l,x,h=>by
  simp only [sizeL]
  rcases List.mem_cons.1 h with rfl | h
  ·omega
  ·have:=yO h; omega
theorem jz {l:List PTerm} {i:Nat} (h:i < l.length):at_ PTerm.z l (i:Int)=l[i]:=by
 unfold at_; rw [Int.toNat_natCast,List.getD_eq_getElem?_getD,List.getElem?_eq_getElem h]; rfl
theorem vd (x:PTerm):1 ≤ depT x:=by rw [yL]; omega
-- levels,as the program counts them
theorem deep_some : ∀ (K:Nat) (x:PTerm) (most:Nat),1 ≤ most→most ≤ 1025→sizeT x ≤ 65536→sizeT x + most < K→zaE.f K x (most:Int)=some ((min (depT x) most:Nat):Int)
 | 0,_,_,_,_,_,h=>by omega
 | K + 1,x,most,h1,h2,h3,hK=>by
  show zaE.g (zaE.f K) K x most=_
  unfold zaE.g
  by_cases hm:most=1
  ·subst hm
   rw [if_pos zam]
   have:=vd x
   rw [show min (depT x) 1=1 by omega]
  rw [if_neg (by simp; omega)]
  have hw:IntKind.i64.wrap ((most:Int) - 1)=((most - 1:Nat):Int):=by
   rw [show ((most:Int) - 1)=((most - 1:Nat):Int) by omega]; exact wrap_nat zan
  have hs:=x9 x
  have hls:=len_sizeL x.sub
  obtain ⟨j,hj⟩ := iter_count (b:=fun s=>zaE.b0 x most (zaE.f K) s.1 s.2) (g:=fun i=>((min (depL (x.sub.take i)) (most - 1):Nat):Int)) x.sub.length (fun i hi=>by
   have he:=List.getElem?_eq_getElem hi
   have hd:=depL_take he
   have hle:=depL_le (l:=x.sub) i
   simp only [zaE.b0,hw]
   by_cases hc:min (depL (x.sub.take i)) (most - 1) < most - 1
   ·left
    rw [if_pos (by simp; omega),chk_t (by rw [inb_nat]; exact decide_eq_true hi),jz hi,deep_some K _ (most - 1) zan zan (by have:=yO (List.getElem_mem hi); omega) (by have:=yO (List.getElem_mem hi); omega)]
    simp only [zar]
    rw [show (i:Int) + 1=((i + 1:Nat):Int) by omega,wrap_nat zan]
    congr 3
    rw [hd]
    split <;> omega
   ·right
    rw [if_neg (by simp; omega)]
    refine ⟨rfl,?_⟩
    rw [List.take_length]
    congr 1
    omega) (by
   simp only [zaE.b0,hw]
   rw [if_neg zao]) K 0 zan zan
  simp only [List.take_zero,depL,Nat.zero_min,List.take_length] at hj
  rw [show ((0:Nat):Int)=0 from rfl] at hj
  rw [hj]
  simp only [zar,aft]
  rw [show ((min (depL x.sub) (most - 1):Nat):Int) + 1=((min (depL x.sub) (most - 1) + 1:Nat):Int) by omega,wrap_nat zan,yL]
  congr 2
  omega
-- what is right,as the program tells it
theorem shape_some (k:Int):zaC.f k=some (if yD k = -1 then (0,false,false,false) else (yD k,decide (k=1∨k=2∨k=9∨k=12),decide (k=9),true)):=by
 by_cases h:k=1∨k=2∨k=3∨k=4∨k=5∨k=6∨k=7∨k=8∨k=9∨k=10∨k=11∨k=12
 ·rcases h with rfl | rfl | rfl | rfl | rfl | rfl | rfl | rfl | rfl | rfl | rfl | rfl <;> decide
 ·simp only [not_or] at h
  obtain ⟨h1,h2,h3,h4,h5,h6,h7,h8,h9,h10,h11,h12⟩ := h
  simp [zaC.f,yD,h1,h2,h3,h4,h5,h6,h7,h8,h9,h10,h11,h12]
theorem named_some {s:ByteArray} (hs:s.size < 9223372036854775808) (b:Bool):zaD.f s b=some (if b then decide (isWord s) else decide (s=⟨#[]⟩)):=by
 unfold zaD.f zaw.f
 rw [chk_t (decide_eq_true hs)]
 cases b <;> simp
theorem rightL_all : ∀ (l:List PTerm),rightL l=l.all rightT
 | []=>rfl
 | x :: l=>by simp [rightL,rightL_all l]
theorem contains_some {rec:PTerm→Option Bool} {l:List PTerm} (h : ∀ x ∈ l,rec x=some (rightT x)):zaI.g rec l=some (!rightL l):=by
 unfold zaI.g zaH.g
 have h1:=forN_find (b:=fun i s=>zaH.b0 rec l i) (p:=fun k => !rightT (l.getD k PTerm.z)) (r:=fun k=>(k:Int)) l.length 0 () (by
  intro k _ hk
  unfold zaH.b0 zaG.g
  have hk':k < l.length:=by omega
  rw [jz hk',h _ (List.getElem_mem hk')]
  simp only [zar,List.getD_eq_getElem?_getD,List.getElem?_eq_getElem hk',Option.getD_some]
  cases rightT l[k] <;> rfl)
 have e0:(((l.length:Nat):Int) - 0).toNat=l.length:=by omega
 rw [e0,show (0:Int)=((0:Nat):Int) from rfl,h1]
 have h2:rightL l = !((List.range' 0 l.length).find? fun k => !rightT (l.getD k PTerm.z)).isSome:=by
  rw [rightL_all,← any_find]
  rw [Bool.eq_iff_iff]
  simp only [List.all_eq_true,Bool.not_eq_true',List.any_eq_false,Bool.not_eq_true,Bool.not_eq_false',List.mem_range'_1]
  constructor
  ·intro hh k hk
   have hk':k < l.length:=by omega
   simp only [List.getD_eq_getElem?_getD,List.getElem?_eq_getElem hk',Option.getD_some]
   simpa using hh _ (List.getElem_mem hk')
  ·intro hh x hx
   obtain ⟨k,hk,rfl⟩ := List.getElem_of_mem hx
   have:=hh k ⟨by omega,by omega⟩
   simp only [List.getD_eq_getElem?_getD,List.getElem?_eq_getElem hk,Option.getD_some] at this
   simpa using this
 rw [h2]
 cases (List.range' 0 l.length).find? fun k => !rightT (l.getD k PTerm.z) with
 | none=>simp [aft]
 | some k=>simp [aft]
theorem right_some : ∀ (K:Nat) (x:PTerm),nmT x→depT x ≤ K→zaJ.f K x=some (rightT x)
 | 0,x,_,h=>by have:=vd x; omega
 | K + 1,x,hn,hK=>by
  have hd:=yL x
  obtain ⟨n1,n2,n3⟩ := (j7 x).1 hn
  show zaJ.g (zaJ.f K) x=_
  unfold zaJ.g
  rw [shape_some,contains_some (l:=x.sub) fun y hy=>right_some K y (nmL_mem n3 y hy) (by have:=yV y hy; omega)]
  rw [rightT_eq]
  unfold nodeR
  by_cases hp:yD x.kind = -1
  ·have:¬ (-1:Int)=(x.sub.length:Int):=by omega
   simp [hp,this]
  ·simp only [hp,if_false,zar,named_some n1,named_some n2]
   generalize yD x.kind=p at hp
   by_cases hl:p=(x.sub.length:Int)
   ·by_cases hk:x.kind=1∨x.kind=2∨x.kind=9∨x.kind=12
    ·simp only [if_pos hk,decide_eq_true hk]
     by_cases hw:isWord x.name
     ·by_cases h9:x.kind=9
      ·simp only [if_pos h9,decide_eq_true h9]
       by_cases ho:isWord x.other
       ·by_cases hf:x.form=0
        ·simp [hl,h9,hw,ho,hf]
        ·simp [hl,h9,hw,ho,hf]
       ·simp [hl,h9,hw,ho]
      ·simp only [if_neg h9,decide_eq_false h9]
       by_cases ho:x.other=⟨#[]⟩
       ·by_cases h11:x.kind=11
        ·omega
        ·by_cases hf:x.form=0
         ·simp [hl,h11,hw,ho,hf]
         ·simp [hl,h11,hw,ho,hf]
       ·simp [hl,hw,ho]
     ·simp [hl,hw]
    ·have h9:¬ x.kind=9:=fun e=>hk (.inr (.inr (.inl e)))
     simp only [if_neg hk,decide_eq_false hk,if_neg h9,decide_eq_false h9]
     by_cases hw:x.name=⟨#[]⟩
     ·by_cases ho:x.other=⟨#[]⟩
      ·by_cases h11:x.kind=11
       ·by_cases hf:0 ≤ x.form
        ·by_cases hg:x.form < 1024
         ·have q1:¬ x.form < 0:=by omega
          have q2:¬ 1024 ≤ x.form:=by omega
          simp [hl,h11,hw,ho,hf,hg,q1,q2]
         ·have q2:1024 ≤ x.form:=by omega
          simp [hl,h11,hw,ho,hf,hg,q2]
        ·have q1:x.form < 0:=by omega
         simp [hl,h11,hw,ho,hf,q1]
       ·by_cases hf:x.form=0
        ·simp [hl,h11,hw,ho,hf]
        ·simp [hl,h11,hw,ho,hf]
      ·simp [hl,hw,ho]
     ·simp [hl,hw]
   ·have hl':¬ (x.sub.length:Int)=p:=fun e=>hl e.symm
    simp [hl,hl']
def xB (x:PTerm):Int:=if 65536 < sizeT x∨1024 < depT x then 121 else if rightT x then 0 else 120
theorem ko {K:Nat} {x:PTerm} (hK:66562 ≤ K) (hn:nmT x):zaK.f K x=some (xB x):=by
 unfold zaK.f zaB.f zaF.f xB
 simp only [zar]
 by_cases hs:65536 < sizeT x
 ·have h1:min (sizeT x) 65537=65537:=by omega
  simp [h1,hs]
 ·have h1:min (sizeT x) 65537=sizeT x:=by omega
  have h2:¬ (65536:Int) < (sizeT x:Int):=by omega
  rw [h1,show (1025:Int)=((1025:Nat):Int) from rfl]
  simp only [h2,decide_false,Bool.not_false,if_true,deep_some K x 1025 zan zan zan zan,zar,Bool.false_or,decide_eq_true_eq,hs,false_or]
  by_cases hd:1024 < depT x
  ·have h3:(1024:Int) < ((min (depT x) 1025:Nat):Int):=by omega
   simp [h3,hd]
  ·have h3:¬ (1024:Int) < ((min (depT x) 1025:Nat):Int):=by omega
   rw [if_neg h3,if_neg hd,right_some K x hn zan]
   cases rightT x <;> rfl
end
section
open Gw
theorem ba_app (a b:List UInt8):(⟨a.toArray⟩ : ByteArray) ++ ⟨b.toArray⟩ = ⟨(a ++ b).toArray⟩ := by
 apply ByteArray.ext
 simp [ByteArray.data_append]
theorem ba_size (l:List UInt8):(⟨l.toArray⟩ : ByteArray).size=l.length:=by simp [ByteArray.size]
theorem ba_inj {a b:List UInt8} (h:(⟨a.toArray⟩ : ByteArray)=⟨b.toArray⟩):a=b:=by
 have:=congrArg (fun s:ByteArray=>s.data.toList) h
 simpa using this
theorem u8_of {n:Nat} (h:n < 256):(UInt8.ofNat n).toNat=n:=by
 rw [UInt8.toNat_ofNat']; exact Nat.mod_eq_of_lt h
theorem decK_len : ∀ (k u:Nat),(decK k u).length ≤ k
 | 0,u=>by simp [decK]
 | k + 1,u=>by
  unfold decK
  split
  ·simp
  ·have:=decK_len k (u / 10); simp; omega
theorem decK_ne (k u:Nat):decK (k + 1) u ≠ []:=by
 unfold decK
 split <;> simp
theorem decK_dig : ∀ (k u:Nat),∀ c ∈ decK k u,48 ≤ c.toNat∧c.toNat ≤ 57
 | 0,u,c,h=>by simp [decK] at h
 | k + 1,u,c,h=>by
  unfold decK at h
  split at h
  ·rename_i hu
   rw [List.mem_singleton] at h; subst h; rw [u8_of zan]; omega
  ·rcases List.mem_append.1 h with h | h
   ·exact decK_dig k _ c h
   ·have:u % 10 < 10:=Nat.mod_lt _ zam
    rw [List.mem_singleton] at h; subst h; rw [u8_of zan]; omega
def valD (l:List UInt8):Nat:=l.foldl (fun a c=>a * 10 + (c.toNat - 48)) 0
theorem decK_val : ∀ (k u:Nat),u < 10 ^ k→valD (decK k u)=u
 | 0,u,h=>by simp at h; subst h; rfl
 | k + 1,u,h=>by
  unfold decK
  split
  ·rename_i hu
   unfold valD
   simp only [List.foldl_cons,List.foldl_nil]
   rw [u8_of zan]; omega
  ·have h1:=decK_val k (u / 10) (by rw [Nat.pow_succ] at h; omega)
   have:u % 10 < 10:=Nat.mod_lt _ zam
   unfold valD at h1 ⊢
   rw [List.foldl_append,h1]
   simp only [List.foldl_cons,List.foldl_nil]
   rw [u8_of zan]; omega
theorem decN_nn {n:Int} (h:0 ≤ n):decN n=⟨(decK 20 n.toNat).toArray⟩ := by
 unfold decN; rw [if_neg zan]
theorem sb_list (l:List UInt8) (i:Nat) (h:i < l.length):sb ⟨l.toArray⟩ i=(l[i].toNat:Int):=by
 unfold sb
 rw [show (⟨l.toArray⟩ : ByteArray)[i]? = some l[i] from by
  rw [getElem?_pos _ i (by simpa [ByteArray.size] using h)]; rfl]
 rfl
theorem word_of {c:UInt8} (hc:isL (c.toNat:Int)=true) {l:List UInt8} (h0:l ≠ []) (h1:l.length ≤ 30) (h2 : ∀ x ∈ l,48 ≤ x.toNat∧x.toNat ≤ 57):isWord ⟨(c :: l).toArray⟩ := by
 have hz:(⟨(c :: l).toArray⟩ : ByteArray).size=l.length + 1:=by rw [ba_size]; rfl
 refine ⟨by omega,by omega,fun i hi=>?_,?_⟩
 ·have hil:i < (c :: l).length:=by rw [hz] at hi; exact hi
  unfold okAt
  rw [sb_list _ _ hil]
  cases i with
  | zero=>exact hc
  | succ i =>
   rw [if_neg zan,List.getElem_cons_succ]
   have:=h2 _ (List.getElem_mem (show i < l.length by simpa using hil))
   unfold isC
   simp only [Bool.or_eq_true,Bool.and_eq_true,decide_eq_true_eq]
   left; left; right; omega
 ·unfold jn
  rw [List.any_eq_false]
  intro t ht
  simp only [decide_eq_true_eq]
  intro e
  have h3 : ∀ t ∈ resv,97 ≤ (t.data.toList.getD 1 0).toNat:=by decide
  have h4:=h3 t ht
  rw [← e] at h4
  cases l with
  | nil=>exact h0 rfl
  | cons d l =>
   have h5:=h2 d (List.mem_cons_self ..)
   have:((⟨(c :: d :: l).toArray⟩ : ByteArray).data.toList.getD 1 0)=d:=rfl
   rw [this] at h4
   omega
theorem decN_size {f:Int} (h:0 ≤ f):(decN f).size ≤ 20:=by rw [decN_nn h,ba_size]; exact decK_len 20 _
theorem dec_ok (c:UInt8) {f:Int} (h:0 ≤ f):decide ((⟨#[c]⟩ : ByteArray).size + (decN f).size ≤ 1000000)=true:=by
 have h1:(⟨#[c]⟩ : ByteArray).size=1:=rfl
 have:=decN_size h
 rw [h1]; simp; omega
end
section
open Gw
def ye (k:Int) (nm ot:ByteArray) (i:Nat):ByteArray:=if k=2∨i=1∧(k=12∨k=9) then nm else if k=9∧i=2 then ot else ⟨#[]⟩
abbrev zO (x:PTerm) (i:Nat):ByteArray:=ye x.kind x.name x.other i
mutual
def cntT (n:ByteArray):PTerm→Nat
 | .mk k nm ot _ s=>if k=1 then (if nm=n then 1 else 0) else cntL n k nm ot 0 s
def cntL (n:ByteArray) (k:Int) (nm ot:ByteArray):Nat→List PTerm→Nat
 | _,[]=>0
 | i,y :: l=>(if ye k nm ot i=n then 0 else cntT n y) + cntL n k nm ot (i + 1) l
end
theorem vg (n:ByteArray) (x:PTerm):cntT n x=if x.kind=1 then (if x.name=n then 1 else 0) else cntL n x.kind x.name x.other 0 x.sub:=by cases x; simp only [cntT]; rfl
theorem cntL_take (n:ByteArray) (k:Int) (nm ot:ByteArray) : ∀ {l:List PTerm} {i j:Nat} {x:PTerm},l[j]? = some x→cntL n k nm ot i (l.take (j + 1))=cntL n k nm ot i (l.take j) + (if ye k nm ot (i + j)=n then 0 else cntT n x)
 | [],_,_,_,h=>by simp at h
 | y :: l,i,0,x,h=>by simp at h; subst h; simp [cntL]
 | y :: l,i,j + 1,x,h=>by
  have:=cntL_take n k nm ot (l:=l) (i:=i + 1) (j:=j) (by simpa using h)
  simp only [List.take_succ_cons,cntL]
  rw [this,show i + 1 + j=i + (j + 1) by omega]; omega
def xr (n:ByteArray) (x:PTerm):Prop:=cntT n x ≠ 0
instance (n:ByteArray) (x:PTerm):Decidable (xr n x):=inferInstanceAs (Decidable (cntT n x ≠ 0))
theorem cntL_free (n:ByteArray) (k:Int) (nm ot:ByteArray) : ∀ {l:List PTerm} {i:Nat},cntL n k nm ot i l ≠ 0 ↔ ∃ j,∃ h:j < l.length,ye k nm ot (i + j) ≠ n∧xr n l[j]
 | [],i=>by simp [cntL]
 | y :: l,i=>by
  have ih:=cntL_free n k nm ot (l:=l) (i:=i + 1)
  simp only [cntL]
  constructor
  ·intro h
   by_cases h1:(if ye k nm ot i=n then 0 else cntT n y)=0
   ·obtain ⟨j,hj,h2,h3⟩ := ih.1 zan
    exact ⟨j + 1,by simpa using hj,by rw [show i + (j + 1)=i + 1 + j by omega]; exact h2,by simpa using h3⟩
   ·refine ⟨0,by simp,?_⟩
    by_cases hb:ye k nm ot i=n
    ·rw [if_pos hb] at h1; exact absurd rfl h1
    ·rw [if_neg hb] at h1; exact ⟨by simpa using hb,by simpa [xr] using h1⟩
  ·rintro ⟨j,hj,h2,h3⟩
   cases j with
   | zero =>
    have h2':ye k nm ot i ≠ n:=by simpa using h2
    rw [if_neg h2']
    have:cntT n y ≠ 0:=by simpa [xr] using h3
    omega
   | succ j =>
    have:=ih.2 ⟨j,by simpa using hj,by rw [show i + 1 + j=i + (j + 1) by omega]; exact h2,by simpa using h3⟩
    omega
theorem zae (n:ByteArray) (x:PTerm):xr n x↔(x.kind=1∧x.name=n)∨(x.kind ≠ 1 ∧ ∃ j,∃ h:j < x.sub.length,zO x j ≠ n∧xr n x.sub[j]):=by
 unfold xr
 rw [vg]
 by_cases h:x.kind=1
 ·by_cases h2:x.name=n <;> simp [h,h2]
 ·rw [if_neg h,cntL_free]
  simp [h,xr]
def firstN (p:Nat→Bool):Nat→Nat→Nat
 | 0,i=>i
 | m + 1,i=>if p i then i else firstN p m (i + 1)
theorem firstN_some {p:Nat→Bool} : ∀ {m i j:Nat},i ≤ j→j < i + m→p j=true→p (firstN p m i)=true∧firstN p m i ≤ j ∧ ∀ q,i ≤ q→q < firstN p m i→p q=false
 | 0,i,j,h1,h2,_=>by omega
 | m + 1,i,j,h1,h2,h=>by
  unfold firstN
  by_cases hp:p i=true
  ·rw [if_pos hp]; exact ⟨hp,h1,fun q _ _=>by omega⟩
  ·rw [if_neg hp]
   have hj:i ≠ j:=fun e=>hp (e ▸ h)
   obtain ⟨h3,h4,h5⟩ := firstN_some (p:=p) (m:=m) (i:=i + 1) (j:=j) zan zan h
   refine ⟨h3,h4,fun q hq hq2=>?_⟩
   by_cases e:q=i
   ·subst e; simpa using hp
   ·exact h5 q zan hq2
def vNm (k:Nat):ByteArray:=(⟨#[118]⟩ : ByteArray) ++ decN (k:Int)
theorem vNm_eq (k:Nat):vNm k=⟨((118:UInt8) :: decK 20 k).toArray⟩ := by
 unfold vNm; rw [decN_nn zan]; exact ba_app [118] _
theorem vNm_inj {a b:Nat} (ha:a < 9223372036854775808) (hb:b < 9223372036854775808) (h:vNm a=vNm b):a=b:=by
 rw [vNm_eq,vNm_eq] at h
 have h1:=(List.cons.inj (ba_inj h)).2
 have h2:=congrArg valD h1
 rwa [decK_val 20 a zan,decK_val 20 b zan] at h2
theorem vNm_word (k:Nat):isWord (vNm k):=by
 rw [vNm_eq]; exact word_of zam (decK_ne 19 _) (by have:=decK_len 20 k; omega) (decK_dig 20 _)
theorem word_ne {s:ByteArray} (h:isWord s):s ≠ ⟨#[]⟩ := fun e=>by subst e; exact absurd h.1 zam
def blocked (p y:PTerm) (n z:ByteArray):Bool:=decide (xr z p) || decide (xr z y) || decide (z=n)
def xG (p y:PTerm) (n:ByteArray):ByteArray:=vNm (firstN (fun k => !blocked p y n (vNm k)) (sizeT p + sizeT y + 2) 0)
theorem sum_add {α:Type} (f g:α→Nat) : ∀ l:List α,(l.map fun z=>f z + g z).sum=(l.map f).sum + (l.map g).sum
 | []=>rfl
 | a :: l=>by simp only [List.map_cons,List.sum_cons,sum_add f g l]; omega
theorem sum_le {α:Type} (f g:α→Nat) : ∀ l:List α,(∀ z ∈ l,f z ≤ g z)→(l.map f).sum ≤ (l.map g).sum
 | [],_=>by simp
 | a :: l,h=>by
  have:=sum_le f g l (fun z hz=>h z (by simp [hz]))
  have:=h a zao
  simp only [List.map_cons,List.sum_cons]; omega
theorem sum_zero : ∀ l:List ByteArray,(l.map fun _:ByteArray=>0).sum=0
 | []=>rfl
 | b :: l=>by have:=sum_zero l; simp only [List.map_cons,List.sum_cons]; omega
theorem sum_one {n:ByteArray} : ∀ {l:List ByteArray},l.Nodup→(l.map fun z=>if n=z then 1 else 0).sum ≤ 1
 | [],_=>by simp
 | a :: l,h=>by
  rw [List.nodup_cons] at h
  simp only [List.map_cons,List.sum_cons]
  by_cases e:n=a
  ·subst e
   have:(l.map fun z=>if n=z then 1 else 0).sum ≤ (l.map fun _=>0).sum:=sum_le _ _ l (fun z hz=>by
    rw [if_neg]; · omega
    ·rintro rfl; exact h.1 hz)
   have h0:(l.map fun _:ByteArray=>0).sum=0:=sum_zero l
   rw [if_pos rfl]; omega
  ·rw [if_neg e]; have:=sum_one h.2 (n:=n); omega
mutual
theorem cnt_sum : ∀ (x:PTerm) (l:List ByteArray),l.Nodup→(l.map fun z=>cntT z x).sum ≤ sizeT x
 | .mk k nm ot f s,l,hl=>by
  simp only [cntT,sizeT]
  by_cases h:k=1
  ·simp only [if_pos h]
   have:=sum_one (n:=nm) hl
   omega
  ·simp only [if_neg h]
   have:=cnt_sumL k nm ot 0 s l hl
   omega
theorem cnt_sumL : ∀ (k:Int) (nm ot:ByteArray) (i:Nat) (s:List PTerm) (l:List ByteArray),l.Nodup→(l.map fun z=>cntL z k nm ot i s).sum ≤ sizeL s
 | k,nm,ot,i,[],l,_=>by
  simp only [cntL,sizeL]
  exact Nat.le_of_eq (sum_zero l)
 | k,nm,ot,i,y :: s,l,hl=>by
  simp only [cntL,sizeL]
  rw [sum_add]
  have h1:=cnt_sum y l hl
  have h2:=cnt_sumL k nm ot (i + 1) s l hl
  have h3:(l.map fun z=>if ye k nm ot i=z then 0 else cntT z y).sum ≤ (l.map fun z=>cntT z y).sum:=sum_le _ _ l (fun z _=>by split <;> omega)
  omega
end
theorem sum_len {α:Type} (f:α→Nat) : ∀ l:List α,(∀ z ∈ l,1 ≤ f z)→l.length ≤ (l.map f).sum
 | [],_=>by simp
 | a :: l,h=>by
  have:=sum_len f l (fun z hz=>h z (by simp [hz]))
  have:=h a zao
  simp only [List.map_cons,List.sum_cons,List.length_cons]; omega
theorem vNms_nodup (m:Nat) (hm:m < 9223372036854775808):((List.range m).map vNm).Nodup:=by
 rw [List.nodup_iff_pairwise_ne,List.pairwise_map]
 refine (List.nodup_range (n:=m)).imp_of_mem ?_
 intro a b ha hb hab e
 exact hab (vNm_inj (by have:=List.mem_range.1 ha; omega) (by have:=List.mem_range.1 hb; omega) e)
theorem not_blocked {p y:PTerm} {n:ByteArray} (h:sizeT p + sizeT y + 2 < 9223372036854775808) : ∃ j,j < sizeT p + sizeT y + 2∧blocked p y n (vNm j)=false:=by
 apply Classical.byContradiction
 intro hc
 have hall : ∀ z ∈ (List.range (sizeT p + sizeT y + 2)).map vNm,1 ≤ (cntT z p + cntT z y) + (if n=z then 1 else 0):=by
  intro z hz
  obtain ⟨j,hj,rfl⟩ := List.mem_map.1 hz
  have hb:blocked p y n (vNm j)=true:=by
   cases hq:blocked p y n (vNm j) with
   | true=>rfl
   | false=>exact absurd ⟨j,List.mem_range.1 hj,hq⟩ hc
  have hb:(cntT (vNm j) p ≠ 0∨cntT (vNm j) y ≠ 0)∨vNm j=n:=by
   unfold blocked at hb
   rcases Bool.or_eq_true_iff.1 hb with q | q
   ·rcases Bool.or_eq_true_iff.1 q with q | q
    ·exact .inl (.inl (of_decide_eq_true q))
    ·exact .inl (.inr (of_decide_eq_true q))
   ·exact .inr (of_decide_eq_true q)
  by_cases e:n=vNm j
  ·rw [if_pos e]; omega
  ·rw [if_neg e]
   have e':vNm j ≠ n:=fun q=>e q.symm
   rcases hb with (hb | hb) | hb
   ·omega
   ·omega
   ·exact absurd hb e'
 have hn:=vNms_nodup (sizeT p + sizeT y + 2) h
 have h1:=sum_len _ _ hall
 rw [sum_add,sum_add] at h1
 have h2:=cnt_sum p _ hn
 have h3:=cnt_sum y _ hn
 have h4:=sum_one (n:=n) hn
 rw [List.length_map,List.length_range] at h1
 omega
theorem fresh_ok {p y:PTerm} {n:ByteArray} (h:sizeT p + sizeT y + 2 < 9223372036854775808):¬ xr (xG p y n) p∧¬ xr (xG p y n) y∧xG p y n ≠ n:=by
 obtain ⟨j,hj,hb⟩ := not_blocked (p:=p) (y:=y) (n:=n) h
 have:=(firstN_some (p:=fun k => !blocked p y n (vNm k)) (m:=sizeT p + sizeT y + 2) (i:=0) (j:=j) zan zan (by simpa using hb)).1
 have h2:blocked p y n (xG p y n)=false:=by simpa [xG] using this
 have h3:(¬ xr (xG p y n) p∧¬ xr (xG p y n) y)∧xG p y n ≠ n:=by simpa [blocked] using h2
 exact ⟨h3.1.1,h3.1.2,h3.2⟩
theorem uN (p y:PTerm) (n:ByteArray):isWord (xG p y n):=vNm_word _
def varT (s:ByteArray):PTerm:=⟨1,s,⟨#[]⟩,0,[]⟩
def renC (x:PTerm) (n:ByteArray) (y:PTerm) (i:Nat) (p:PTerm):Prop:=(zO x i ≠ n∧xr n p)∧(zO x i ≠ ⟨#[]⟩ ∧ xr (zO x i) y)
instance (x:PTerm) (n:ByteArray) (y:PTerm) (i:Nat) (p:PTerm):Decidable (renC x n y i p):=inferInstanceAs (Decidable ((zO x i ≠ n∧xr n p)∧(zO x i ≠ ⟨#[]⟩ ∧ xr (zO x i) y)))
def putC (P:PTerm→ByteArray→PTerm→PTerm) (x:PTerm) (n:ByteArray) (y:PTerm) (i:Nat) (p:PTerm):PTerm :=
 if zO x i=n∨¬ xr n p then p
 else if zO x i ≠ ⟨#[]⟩ ∧ xr (zO x i) y then P (P p (zO x i) (varT (xG p y n))) n y
 else P p n y
def nmC (x:PTerm) (n:ByteArray) (y:PTerm):ByteArray :=
 let i:=if x.kind=2 then 0 else 1
 if (x.kind=2∨x.kind=12∨x.kind=9)∧renC x n y i (x.sub.getD i PTerm.z) then xG (x.sub.getD i PTerm.z) y n else x.name
def otC (x:PTerm) (n:ByteArray) (y:PTerm):ByteArray :=
 if x.kind=9∧renC x n y 2 (x.sub.getD 2 PTerm.z) then xG (x.sub.getD 2 PTerm.z) y n else x.other
def kE:Nat→PTerm→ByteArray→PTerm→PTerm
 | 0,x,_,_=>x
 | d + 1,x,n,y=>if x.kind=1 then (if x.name=n then y else x) else ⟨x.kind,nmC x n y,otC x n y,x.form,x.sub.mapIdx fun i p=>putC (kE d) x n y i p⟩
theorem depL_map {f:Nat→PTerm→PTerm} : ∀ {l:List PTerm},(∀ i (h:i < l.length),depT (f i l[i]) ≤ depT l[i])→depL (l.mapIdx f) ≤ depL l
 | [],_=>Nat.le_refl _
 | y :: l,h=>by
  rw [List.mapIdx_cons]
  simp only [depL]
  have h1:=depL_map (f:=fun i=>f (i + 1)) (l:=l) (fun i hi=>by have:=h (i + 1) (by simpa using hi); simpa using this)
  have h2:=h 0 zao
  simp at h2
  omega
theorem sizeL_map {f:Nat→PTerm→PTerm} : ∀ {l:List PTerm},(∀ i (h:i < l.length),sizeT (f i l[i]) ≤ sizeT l[i])→sizeL (l.mapIdx f) ≤ sizeL l
 | [],_=>Nat.le_refl _
 | y :: l,h=>by
  rw [List.mapIdx_cons]
  simp only [sizeL]
  have h1:=sizeL_map (f:=fun i=>f (i + 1)) (l:=l) (fun i hi=>by have:=h (i + 1) (by simpa using hi); simpa using this)
  have h2:=h 0 zao
  simp at h2
  omega
theorem mapIdx_same {f g:Nat→PTerm→PTerm} {l:List PTerm} (h : ∀ i (h:i < l.length),f i l[i]=g i l[i]):l.mapIdx f=l.mapIdx g:=by
 refine List.ext_getElem zao fun i h1 h2=>?_
 rw [List.getElem_mapIdx,List.getElem_mapIdx]
 exact h i (by simpa using h1)
theorem jG : ∀ (d:Nat) (x:PTerm),depT x ≤ d→(∀ n z,depT (kE d x n (varT z)) ≤ depT x∧sizeT (kE d x n (varT z)) ≤ sizeT x) ∧ ∀ n y,kE (d + 1) x n y=kE d x n y
 | 0,x,h=>by have:=vd x; omega
 | d + 1,x,h=>by
  have hd:=yL x
  have hp : ∀ i (hi:i < x.sub.length),depT x.sub[i] ≤ d:=fun i hi=>by have:=yV _ (List.getElem_mem hi); omega
  have ihp:=fun i hi=>jG d x.sub[i] (hp i hi)
  have hc : ∀ n z i (hi:i < x.sub.length),depT (putC (kE d) x n (varT z) i x.sub[i]) ≤ depT x.sub[i]∧sizeT (putC (kE d) x n (varT z) i x.sub[i]) ≤ sizeT x.sub[i]:=by
   intro n z i hi
   unfold putC
   split
   ·exact ⟨Nat.le_refl _,Nat.le_refl _⟩
   ·split
    ·obtain ⟨a1,a2⟩ := (ihp i hi).1 (zO x i) (xG x.sub[i] (varT z) n)
     obtain ⟨b1,b2⟩ := (jG d (kE d x.sub[i] (zO x i) (varT (xG x.sub[i] (varT z) n))) (Nat.le_trans a1 (hp i hi))).1 n z
     exact ⟨Nat.le_trans b1 a1,Nat.le_trans b2 a2⟩
    ·exact (ihp i hi).1 n z
  refine ⟨fun n z=>?_,fun n y=>?_⟩
  ·have e1:depT (varT z)=1:=rfl
   have e2:sizeT (varT z)=1:=rfl
   have h1:=vd x
   have h2:=uU x
   unfold kE
   split
   ·split
    ·rw [e1,e2]; exact ⟨h1,h2⟩
    ·exact ⟨Nat.le_refl _,Nat.le_refl _⟩
   ·have h3:=depL_map fun i hi=>(hc n z i hi).1
    have h4:=sizeL_map fun i hi=>(hc n z i hi).2
    rw [yL,x9,yL x,x9 x]
    exact ⟨Nat.add_le_add_left h3 1,Nat.add_le_add_left h4 1⟩
  ·show kE (d + 1 + 1) x n y=_
   rw [kE,kE]
   split
   ·rfl
   ·congr 1
    refine mapIdx_same fun i hi=>?_
    unfold putC
    split
    ·rfl
    ·split
     ·rw [(ihp i hi).2]
      exact (jG d _ (Nat.le_trans ((ihp i hi).1 _ _).1 (hp i hi))).2 n y
     ·exact (ihp i hi).2 n y
def putT (x:PTerm) (n:ByteArray) (y:PTerm):PTerm:=kE (depT x) x n y
theorem putS_dep (x:PTerm) (n:ByteArray) (y:PTerm) : ∀ {d:Nat},depT x ≤ d→kE d x n y=putT x n y:=by
 intro d h
 induction d with
 | zero=>have:=vd x; omega
 | succ d ih =>
  by_cases e:depT x=d + 1
  ·unfold putT; rw [e]
  ·rw [(jG d x zan).2,ih zan]
theorem putT_eq (x:PTerm) (n:ByteArray) (y:PTerm):putT x n y=if x.kind=1 then (if x.name=n then y else x) else ⟨x.kind,nmC x n y,otC x n y,x.form,x.sub.mapIdx fun i p=>putC putT x n y i p⟩ := by
 have hd:=yL x
 unfold putT
 rw [show depT x=depL x.sub + 1 by omega,kE]
 split
 ·rfl
 ·congr 1
  refine mapIdx_same fun i hi=>?_
  have hp:depT x.sub[i] ≤ depL x.sub:=yV _ (List.getElem_mem hi)
  unfold putC
  split
  ·rfl
  ·split
   ·rw [putS_dep _ _ _ hp,putS_dep _ _ _ (by rw [← putS_dep _ _ _ hp]; exact Nat.le_trans ((jG _ _ hp).1 _ _).1 hp)]
    rfl
   ·exact putS_dep _ _ _ hp
theorem dep_ren (p:PTerm) (n z:ByteArray):depT (putT p n (varT z)) ≤ depT p:=((jG _ p (Nat.le_refl _)).1 n z).1
theorem size_ren (p:PTerm) (n z:ByteArray):sizeT (putT p n (varT z)) ≤ sizeT p:=((jG _ p (Nat.le_refl _)).1 n z).2
theorem nmC_pos {x:PTerm} {n:ByteArray} {y:PTerm} (h:(x.kind=2∨x.kind=12∨x.kind=9)∧renC x n y (if x.kind=2 then 0 else 1) (x.sub.getD (if x.kind=2 then 0 else 1) PTerm.z)):nmC x n y=xG (x.sub.getD (if x.kind=2 then 0 else 1) PTerm.z) y n:=if_pos h
theorem nmC_neg {x:PTerm} {n:ByteArray} {y:PTerm} (h:¬ ((x.kind=2∨x.kind=12∨x.kind=9)∧renC x n y (if x.kind=2 then 0 else 1) (x.sub.getD (if x.kind=2 then 0 else 1) PTerm.z))):nmC x n y=x.name:=if_neg h
theorem otC_pos {x:PTerm} {n:ByteArray} {y:PTerm} (h:x.kind=9∧renC x n y 2 (x.sub.getD 2 PTerm.z)):otC x n y=xG (x.sub.getD 2 PTerm.z) y n:=if_pos h
theorem otC_neg {x:PTerm} {n:ByteArray} {y:PTerm} (h:¬ (x.kind=9∧renC x n y 2 (x.sub.getD 2 PTerm.z))):otC x n y=x.other:=if_neg h
end
section
open Gw
theorem vK {x:PTerm} (h:rightT x=true) {i:Nat} (hi:i < x.sub.length):rightT x.sub[i]=true:=by
 rw [rightT_eq,Bool.and_eq_true] at h; exact rightL_mem h.2 _ (List.getElem_mem hi)
theorem rightL_iff : ∀ {l:List PTerm},rightL l=true ↔ ∀ i (h:i < l.length),rightT l[i]=true:=by
 intro l
 rw [rightL_all,List.all_eq_true]
 constructor
 ·intro h i hi; exact h _ (List.getElem_mem hi)
 ·intro h x hx
  obtain ⟨i,hi,rfl⟩ := List.getElem_of_mem hx
  exact h i hi
structure NodeR (x:PTerm):Prop where
 len:yD x.kind=(x.sub.length:Int)
 nm:(x.kind=1∨x.kind=2∨x.kind=9∨x.kind=12)→isWord x.name
 nm0:¬ (x.kind=1∨x.kind=2∨x.kind=9∨x.kind=12)→x.name=⟨#[]⟩
 ot:x.kind=9→isWord x.other
 ot0:x.kind ≠ 9→x.other=⟨#[]⟩
 fm:x.kind=11→0 ≤ x.form∧x.form < 1024
 fm0:x.kind ≠ 11→x.form=0
theorem nodeR_iff (x:PTerm):nodeR x=true↔NodeR x:=by
 unfold nodeR
 simp only [Bool.and_eq_true,decide_eq_true_eq]
 constructor
 ·rintro ⟨⟨⟨h1,h2⟩,h3⟩,h4⟩
  refine ⟨h1,fun h=>?_,fun h=>?_,fun h=>?_,fun h=>?_,fun h=>?_,fun h=>?_⟩
  ·rw [if_pos h] at h2; simpa using h2
  ·rw [if_neg h] at h2; simpa using h2
  ·rw [if_pos h] at h3; simpa using h3
  ·rw [if_neg h] at h3; simpa using h3
  ·rw [if_pos h] at h4; simpa using h4
  ·rw [if_neg h] at h4; simpa using h4
 ·intro h
  refine ⟨⟨⟨h.len,?_⟩,?_⟩,?_⟩
  ·split
   ·rename_i q; simpa using h.nm q
   ·rename_i q; simpa using h.nm0 q
  ·split
   ·rename_i q; simpa using h.ot q
   ·rename_i q; simpa using h.ot0 q
  ·split
   ·rename_i q; simpa using h.fm q
   ·rename_i q; simpa using h.fm0 q
theorem yi {x:PTerm} (h:rightT x=true):NodeR x:=by
 rw [rightT_eq,Bool.and_eq_true] at h; exact (nodeR_iff x).1 h.1
theorem right_of {x:PTerm} (h:NodeR x) (hs : ∀ i (h:i < x.sub.length),rightT x.sub[i]=true):rightT x=true:=by
 rw [rightT_eq,Bool.and_eq_true]; exact ⟨(nodeR_iff x).2 h,rightL_iff.2 hs⟩
theorem xM {x:PTerm} (h:rightT x=true):(x.kind=1→x.sub=[])∧(x.kind=2→x.sub.length=1)∧(x.kind=12→x.sub.length=2)∧(x.kind=9→x.sub.length=3)∧(x.kind=11→x.sub.length=1):=by
 have h1:=(yi h).len
 refine ⟨fun k=>?_,fun k=>?_,fun k=>?_,fun k=>?_,fun k=>?_⟩ <;> rw [k] at h1 <;> simp [yD] at h1
 ·exact List.eq_nil_of_length_eq_zero zan
 all_goals omega
theorem kk {z:ByteArray} (h:isWord z):rightT (varT z)=true:=by
 refine right_of ⟨rfl,fun _=>h,fun q=>absurd (.inl rfl) q,fun q=>absurd q (by simp [varT,PTerm.kind]),fun _=>rfl,fun q=>absurd q (by simp [varT,PTerm.kind]),fun _=>rfl⟩ fun i hi=>?_
 simp [varT,PTerm.sub] at hi
theorem free_word : ∀ (d:Nat) (x:PTerm),depT x ≤ d→rightT x=true → ∀ z,xr z x→isWord z
 | 0,x,h,_,_,_=>by have:=vd x; omega
 | d + 1,x,h,hr,z,hz=>by
  have hd:=yL x
  rcases (zae z x).1 hz with ⟨h1,h2⟩ | ⟨h1,j,hj,h2,h3⟩
  ·rw [← h2]; exact (yi hr).nm (.inl h1)
  ·exact free_word d x.sub[j] (by have:=yV _ (List.getElem_mem hj); omega) (vK hr hj) z h3
theorem no_empty {x:PTerm} (h:rightT x=true):cntT ⟨#[]⟩ x=0:=by
 by_cases e:cntT ⟨#[]⟩ x=0
 ·exact e
 ·exact absurd rfl (word_ne (free_word _ x (Nat.le_refl _) h _ e))
theorem getD_get {l:List PTerm} {i:Nat} (h:i < l.length):l.getD i PTerm.z=l[i]:=by simp [List.getD_eq_getElem?_getD,h]
theorem zai {x:PTerm} (n:ByteArray) (y:PTerm) (hk:x.kind ≠ 1):putT x n y=⟨x.kind,nmC x n y,otC x n y,x.form,x.sub.mapIdx fun i p=>putC putT x n y i p⟩ := by rw [putT_eq,if_neg hk]
theorem put_var {x:PTerm} (n:ByteArray) (y:PTerm) (hk:x.kind=1):putT x n y=if x.name=n then y else x:=by rw [putT_eq,if_pos hk]
theorem bind_put {x:PTerm} (hr:rightT x=true) (hk:x.kind ≠ 1) (n:ByteArray) (y:PTerm) {j:Nat} (hj:j < x.sub.length):ye x.kind (nmC x n y) (otC x n y) j=if renC x n y j x.sub[j] then xG x.sub[j] y n else zO x j:=by
 obtain ⟨_,l2,l12,l9,_⟩ := xM hr
 by_cases k2:x.kind=2
 ·have hj0:j=0:=by have:=l2 k2; omega
  subst hj0
  have e : ∀ a b,ye x.kind a b 0=a:=fun a b=>by simp [ye,k2]
  rw [e]
  unfold nmC zO
  rw [e]
  simp only [k2,if_true,getD_get hj,true_or,true_and]
 by_cases k12:x.kind=12
 ·have hj1:j=0∨j=1:=by have:=l12 k12; omega
  rcases hj1 with rfl | rfl
  ·have e : ∀ a b,ye x.kind a b 0=⟨#[]⟩ := fun a b=>by simp [ye,k12]
   rw [e,if_neg]
   ·unfold zO; rw [e]
   ·rintro ⟨_,h,_⟩; unfold zO at h; rw [e] at h; exact h rfl
  ·have e : ∀ a b,ye x.kind a b 1=a:=fun a b=>by simp [ye,k12]
   rw [e]
   unfold nmC zO
   rw [e]
   simp only [k12,getD_get hj,show ¬ ((12:Int)=2) by decide,if_false,false_or,true_or,true_and]
 by_cases k9:x.kind=9
 ·have hj1:j=0∨j=1∨j=2:=by have:=l9 k9; omega
  rcases hj1 with rfl | rfl | rfl
  ·have e : ∀ a b,ye x.kind a b 0=⟨#[]⟩ := fun a b=>by simp [ye,k9]
   rw [e,if_neg]
   ·unfold zO; rw [e]
   ·rintro ⟨_,h,_⟩; unfold zO at h; rw [e] at h; exact h rfl
  ·have e : ∀ a b,ye x.kind a b 1=a:=fun a b=>by simp [ye,k9]
   rw [e]
   unfold nmC zO
   rw [e]
   simp only [k9,getD_get hj,show ¬ ((9:Int)=2) by decide,show ¬ ((9:Int)=12) by decide,if_false,false_or,true_and]
  ·have e : ∀ a b,ye x.kind a b 2=b:=fun a b=>by simp [ye,k9]
   rw [e]
   unfold otC zO
   rw [e]
   simp only [k9,getD_get hj,true_and]
 ·have e : ∀ a b,ye x.kind a b j=⟨#[]⟩ := fun a b=>by simp [ye,k2,k12,k9]
  rw [e,if_neg]
  ·unfold zO; rw [e]
  ·rintro ⟨_,h,_⟩; unfold zO at h; rw [e] at h; exact h rfl
theorem kj : ∀ (d:Nat) (x:PTerm),depT x ≤ d→rightT x=true → ∀ (n:ByteArray) (y:PTerm),rightT y=true→rightT (putT x n y)=true
 | 0,x,h,_,_,_,_=>by have:=vd x; omega
 | d + 1,x,h,hr,n,y,hy=>by
  have hd:=yL x
  by_cases hk:x.kind=1
  ·rw [put_var n y hk]; split <;> assumption
  rw [zai n y hk]
  have hn:=yi hr
  have w1:nmC x n y=x.name∨((x.kind=2∨x.kind=12∨x.kind=9)∧isWord (nmC x n y)):=by
   unfold nmC
   dsimp only
   by_cases q:(x.kind=2∨x.kind=12∨x.kind=9)∧renC x n y (if x.kind=2 then 0 else 1) (x.sub.getD (if x.kind=2 then 0 else 1) PTerm.z)
   ·rw [if_pos q]; exact .inr ⟨q.1,uN _ _ _⟩
   ·rw [if_neg q]; exact .inl rfl
  have w2:otC x n y=x.other∨(x.kind=9∧isWord (otC x n y)):=by
   unfold otC
   split
   ·rename_i q; right; exact ⟨q.1,uN _ _ _⟩
   ·left; rfl
  refine right_of ⟨?_,fun q=>?_,fun q=>?_,fun q=>?_,fun q=>?_,fun q=>hn.fm q,fun q=>hn.fm0 q⟩ fun i hi=>?_
  ·show yD x.kind=((x.sub.mapIdx _).length:Int)
   rw [List.length_mapIdx]; exact hn.len
  ·show isWord (nmC x n y)
   rcases w1 with w | w
   ·rw [w]; exact hn.nm q
   ·exact w.2
  ·show nmC x n y=_
   rcases w1 with w | w
   ·rw [w]; exact hn.nm0 q
   ·refine absurd ?_ q
    show x.kind=1∨x.kind=2∨x.kind=9∨x.kind=12
    omega
  ·show isWord (otC x n y)
   rcases w2 with w | w
   ·rw [w]; exact hn.ot q
   ·exact w.2
  ·show otC x n y=_
   rcases w2 with w | w
   ·rw [w]; exact hn.ot0 q
   ·exact absurd w.1 q
  ·have hi':i < x.sub.length:=by simpa [PTerm.sub] using hi
   have ei:(x.sub.mapIdx fun i p=>putC putT x n y i p)[i]'(by simpa using hi')=putC putT x n y i x.sub[i]:=List.getElem_mapIdx ..
   show rightT ((x.sub.mapIdx fun i p=>putC putT x n y i p)[i]'(by simpa using hi'))=true
   rw [ei]
   have hp:depT x.sub[i] ≤ d:=by have:=yV _ (List.getElem_mem hi'); omega
   have hrp:=vK hr hi'
   unfold putC
   split
   ·exact hrp
   ·split
    ·exact kj d _ (Nat.le_trans (dep_ren _ _ _) hp) (kj d _ hp hrp _ _ (kk (uN _ _ _))) n y hy
    ·exact kj d _ hp hrp n y hy
def sumI (f:Nat→PTerm→Nat):Nat→List PTerm→Nat
 | _,[]=>0
 | i,p :: l=>f i p + sumI f (i + 1) l
theorem cntL_sumI (n:ByteArray) (k:Int) (nm ot:ByteArray) : ∀ (l:List PTerm) (i:Nat),cntL n k nm ot i l=sumI (fun i p=>if ye k nm ot i=n then 0 else cntT n p) i l
 | [],_=>rfl
 | y :: l,i=>by simp only [cntL,sumI,cntL_sumI n k nm ot l (i + 1)]
theorem sumI_map {F A B:Nat→PTerm→Nat} {m:Nat} : ∀ {l:List PTerm} {i:Nat} {g:Nat→PTerm→PTerm},(∀ j (h:j < l.length),F (i + j) (g j l[j])=A (i + j) l[j] + B (i + j) l[j] * m)→sumI F i (l.mapIdx g)=sumI A i l + sumI B i l * m
 | [],_,_,_=>by simp [sumI]
 | y :: l,i,g,h=>by
  rw [List.mapIdx_cons]
  simp only [sumI]
  have h1:=sumI_map (F:=F) (A:=A) (B:=B) (m:=m) (l:=l) (i:=i + 1) (g:=fun j=>g (j + 1)) (fun j hj=>by
   have:=h (j + 1) (by simpa using hj)
   rw [show i + 1 + j=i + (j + 1) by omega]
   simpa using this)
  have h2:=h 0 zao
  simp at h2
  rw [h1,h2,Nat.add_mul]; omega
theorem sumI_le {A B:Nat→PTerm→Nat} : ∀ {l:List PTerm} {i:Nat},(∀ j (h:j < l.length),A (i + j) l[j] ≤ B (i + j) l[j])→sumI A i l ≤ sumI B i l
 | [],_,_=>Nat.le_refl _
 | y :: l,i,h=>by
  have h1:=sumI_le (A:=A) (B:=B) (l:=l) (i:=i + 1) (fun j hj=>by
   have:=h (j + 1) (by simpa using hj)
   rw [show i + 1 + j=i + (j + 1) by omega]
   simpa using this)
  have h2:=h 0 zao
  simp at h2
  simp only [sumI]; omega
theorem sumI_zero {A:Nat→PTerm→Nat} {l:List PTerm} {i:Nat} (h : ∀ j (h:j < l.length),A (i + j) l[j]=0):sumI A i l=0:=by
 have h1:sumI A i l ≤ sumI (fun _ _=>0) i l:=sumI_le fun j hj=>Nat.le_of_eq (h j hj)
 have h2 : ∀ (l:List PTerm) (i:Nat),sumI (fun _ _=>0) i l=0:=by
  intro l
  induction l with
  | nil=>intro i; rfl
  | cons y l ih=>intro i; simp [sumI,ih]
 rw [h2] at h1; omega
theorem cnt_put : ∀ (d:Nat) (x:PTerm),depT x ≤ d→rightT x=true → ∀ (n:ByteArray) (y:PTerm),rightT y=true→sizeT x + sizeT y + 4 < 9223372036854775808 → ∀ z,cntT z (putT x n y)=(if z=n then 0 else cntT z x) + cntT n x * cntT z y
 | 0,x,h,_,_,_,_,_,_=>by have:=vd x; omega
 | d + 1,x,h,hr,n,y,hy,hb,z=>by
  have hd:=yL x
  have hs:=x9 x
  by_cases hk:x.kind=1
  ·rw [put_var n y hk,vg n x,vg z x,if_pos hk,if_pos hk]
   by_cases e:x.name=n
   ·rw [if_pos e,if_pos e,Nat.one_mul]
    by_cases e2:z=n
    ·rw [if_pos e2]; omega
    ·rw [if_neg e2,if_neg (fun q=>e2 (q.symm.trans e))]; omega
   ·rw [if_neg e,if_neg e,Nat.zero_mul,vg z x,if_pos hk]
    by_cases e2:z=n
    ·rw [if_pos e2,if_neg (fun q=>e (q.trans e2))]
    ·rw [if_neg e2]; rfl
  rw [zai n y hk,vg n x,vg z x,if_neg hk,if_neg hk,vg]
  show (if x.kind=1 then _ else cntL z x.kind (nmC x n y) (otC x n y) 0 (x.sub.mapIdx fun i p=>putC putT x n y i p))=_
  rw [if_neg hk,cntL_sumI,cntL_sumI,cntL_sumI]
  have hzz : ∀ (l:List PTerm) (i:Nat) (f:Nat→PTerm→Nat),(if z=n then 0 else sumI f i l)=sumI (fun i p=>if z=n then 0 else f i p) i l:=by
   intro l i f
   by_cases e:z=n
   ·simp only [if_pos e]; exact (sumI_zero fun _ _=>rfl).symm
   ·simp only [if_neg e]
  rw [hzz]
  refine sumI_map fun j hj=>?_
  simp only [Nat.zero_add]
  have hp:depT x.sub[j] ≤ d:=by have:=yV _ (List.getElem_mem hj); omega
  have hsp:sizeT x.sub[j] ≤ sizeL x.sub:=yO (List.getElem_mem hj)
  have hrp:=vK hr hj
  have hq:rightT (putT x.sub[j] (zO x j) (varT (xG x.sub[j] y n)))=true:=kj d _ hp hrp _ _ (kk (uN _ _ _))
  have hbp:=bind_put hr hk n y hj
  rw [hbp]
  generalize x.sub[j]=p at *
  by_cases c1:zO x j=n
  ·have hren:¬ renC x n y j p:=fun q=>q.1.1 c1
   have c1':ye x.kind x.name x.other j=n:=c1
   rw [if_neg hren,putC,if_pos (Or.inl c1),if_pos c1,c1',c1]
   by_cases e:z=n
   ·subst e; simp
   ·simp [e,Ne.symm e]
  by_cases c2:xr n p
  ·by_cases c3:zO x j ≠ ⟨#[]⟩ ∧ xr (zO x j) y
   ·have hren:renC x n y j p:=⟨⟨c1,c2⟩,c3⟩
    have hns:¬ (zO x j=n∨¬ xr n p):=fun q=>q.elim c1 (fun q=>q c2)
    rw [if_pos hren,putC,if_neg hns,if_pos c3,if_neg c1]
    obtain ⟨f1,f2,f3⟩ := fresh_ok (p:=p) (y:=y) (n:=n) zan
    have hww:isWord (xG p y n):=uN _ _ _
    generalize xG p y n=w at *
    have g1:cntT w p=0:=by simpa [xr] using f1
    have g2:cntT w y=0:=by simpa [xr] using f2
    have hw1:sizeT (varT w)=1:=rfl
    have hvar : ∀ z,cntT z (varT w)=if w=z then 1 else 0:=fun z=>by rw [vg]; rfl
    by_cases e:w=z
    ·subst e
     rw [if_pos rfl,g1,g2]; simp
    ·rw [if_neg e]
     have hsr:=size_ren p (zO x j) w
     rw [cnt_put d _ (Nat.le_trans (dep_ren _ _ _) hp) hq n y hy zan z]
     rw [cnt_put d p hp hrp (zO x j) (varT w) (kk hww) zan z,cnt_put d p hp hrp (zO x j) (varT w) (kk hww) zan n,hvar,hvar,if_neg e,if_neg f3]
     simp [Ne.symm c1]
     by_cases e2:z=n <;> by_cases e3:z=zO x j <;> simp [e2,e3,eq_comm]
   ·have hren:¬ renC x n y j p:=fun q=>c3 q.2
    have hns:¬ (zO x j=n∨¬ xr n p):=fun q=>q.elim c1 (fun q=>q c2)
    rw [if_neg hren,putC,if_neg hns,if_neg c3,if_neg c1,cnt_put d p hp hrp n y hy zan z]
    by_cases e:zO x j=z
    ·rw [if_pos e,if_pos e]
     have hz0:cntT z y=0:=by
      rw [← e]
      by_cases e0:zO x j=⟨#[]⟩
      ·rw [e0]; exact no_empty hy
      ·have:¬ xr (zO x j) y:=fun q=>c3 ⟨e0,q⟩
       simpa [xr] using this
     rw [hz0]; simp
    ·rw [if_neg e,if_neg e]
  ·have hren:¬ renC x n y j p:=fun q=>c2 q.1.2
   rw [if_neg hren,putC,if_pos (Or.inr c2),if_neg c1]
   have g:cntT n p=0:=by simpa [xr] using c2
   rw [g,Nat.zero_mul,Nat.add_zero]
   by_cases e:z=n
   ·rw [if_pos e,e,g]; simp
   ·rw [if_neg e]
end
section
open Gw
theorem PTerm.eta (x:PTerm):PTerm.mk x.kind x.name x.other x.form x.sub=x:=by cases x; rfl
mutual
def stripT:PTerm→PTerm
 | .mk k nm ot f s=>if k=11 then (stripL s).headD PTerm.z else .mk k nm ot f (stripL s)
def stripL:List PTerm→List PTerm
 | []=>[]
 | x :: l=>stripT x :: stripL l
end
end
section
open Gw
theorem un {i:Int} {n:Nat} (h0:0 ≤ i) (h1:i < n):inb i n=true:=by simp [inb,h0,h1]
theorem wrap_succ {i:Nat} (h:i < 1000000000000):IntKind.i64.wrap ((i:Int) + 1)=((i + 1:Nat):Int):=by rw [wrap_small ⟨by omega,by omega⟩]; omega
theorem forS_inv {σ:Type} {b:Int→σ→Option σ} {inv:Nat→σ} : ∀ (n i:Nat),(∀ j:Nat,i ≤ j→j < i + n→b j (inv j)=some (inv (j + 1)))→forS b n i (inv i)=some (inv (i + n))
 | 0,i,_=>rfl
 | n + 1,i,h=>by
  have ih:=forS_inv (b:=b) (inv:=inv) n (i + 1) (fun j h1 h2=>h j zan zan)
  simp only [forS,h i (Nat.le_refl _) zan,zar]
  rw [show ((i:Int) + 1)=((i + 1:Nat):Int) by omega,ih,show i + 1 + n=i + (n + 1) by omega]
theorem iter_brk {σ ρ:Type} {b:σ→Option (Stp σ ρ)} {inv:Nat→σ} {s:σ} : ∀ (n i k:Nat),n < k→(∀ j:Nat,i ≤ j→j < i + n→b (inv j)=some (.go (inv (j + 1))))→b (inv (i + n))=some (.brk s)→iter b k (inv i)=some (.inl s)
 | n,i,0,hk,_,_=>by omega
 | 0,i,k + 1,_,_,h=>by simp only [iter]; rw [show i + 0=i from rfl] at h; rw [h]; rfl
 | n + 1,i,k + 1,hk,h,he=>by
  simp only [iter,h i (Nat.le_refl _) zan,zar]
  exact iter_brk n (i + 1) k zan (fun j h1 h2=>h j zan zan) (by rw [show i + 1 + n=i + (n + 1) by omega]; exact he)
theorem iter_ret {σ ρ:Type} {b:σ→Option (Stp σ ρ)} {inv:Nat→σ} {r:ρ} : ∀ (n i k:Nat),n < k→(∀ j:Nat,i ≤ j→j < i + n→b (inv j)=some (.go (inv (j + 1))))→b (inv (i + n))=some (.ret r)→iter b k (inv i)=some (.inr r)
 | n,i,0,hk,_,_=>by omega
 | 0,i,k + 1,_,_,h=>by simp only [iter]; rw [show i + 0=i from rfl] at h; rw [h]; rfl
 | n + 1,i,k + 1,hk,h,he=>by
  simp only [iter,h i (Nat.le_refl _) zan,zar]
  exact iter_ret n (i + 1) k zan (fun j h1 h2=>h j zan zan) (by rw [show i + 1 + n=i + (n + 1) by omega]; exact he)
theorem jZ : ∀ l:List PTerm,l.length ≤ sizeL l
 | []=>Nat.le_refl _
 | y :: l=>by have:=uU y; have:=jZ l; simp only [sizeL,List.length_cons]; omega
theorem copy12 : ∀ (K:Nat) (x:PTerm),sizeT x + 2 ≤ K→sizeT x ≤ 1000000000000→zcc.f K x=some x
 | 0,x,h,_=>by omega
 | K + 1,x,h,hb=>by
  have hs:=x9 x
  have hl:=jZ x.sub
  show zcc.g (zcc.f K) K x=_
  unfold zcc.g
  have hloop:=iter_brk (b:=fun s=>zcc.b0 x (zcc.f K) s.1 s.2) (inv:=fun i=>((i:Int),(⟨x.kind,x.name,x.other,x.form,x.sub.take i⟩ : PTerm))) (s:=((x.sub.length:Int),x)) x.sub.length 0 K zan (fun j _ hj=>by
   have hj:j < x.sub.length:=by omega
   have hm:sizeT x.sub[j] ≤ sizeL x.sub:=yO (List.getElem_mem hj)
   show zcc.b0 x (zcc.f K) (j:Int) (⟨x.kind,x.name,x.other,x.form,x.sub.take j⟩ : PTerm)=_
   unfold zcc.b0
   rw [if_pos (by simp; omega),chk,if_pos (un zan zan),jz hj,copy12 K _ zan zan]
   simp only [zar]
   rw [chk,if_pos (by show decide ((((x.sub.take j).length + 1) * 72) ≤ _)=true; rw [List.length_take]; simp; omega),wrap_succ zan]
   show some (Stp.go (((j + 1:Nat):Int),PTerm.mk x.kind x.name x.other x.form (x.sub.take j ++ [x.sub[j]])))=_
   rw [← List.take_succ_eq_append_getElem hj]) (by
   show zcc.b0 x (zcc.f K) ((0 + x.sub.length:Nat):Int) (⟨x.kind,x.name,x.other,x.form,x.sub.take (0 + x.sub.length)⟩ : PTerm)=_
   unfold zcc.b0
   rw [Nat.zero_add,if_neg zao,List.take_length,PTerm.eta])
  have hloop:iter (fun s=>zcc.b0 x (zcc.f K) s.1 s.2) K (0,(⟨x.kind,x.name,x.other,x.form,([]:List PTerm)⟩ : PTerm))=some (.inl ((x.sub.length:Int),x)):=hloop
  rw [hloop]
  show some (⟨x.kind,x.name,x.other,x.form,x.sub⟩ : PTerm)=some x
  rw [PTerm.eta]
theorem bind14 (x:PTerm) (i:Nat):zbl.f x (i:Int)=some (zO x i):=by
 unfold zbl.f zO ye
 have e1:((i:Int)=1)=(i=1):=by apply propext; omega
 have e2:((i:Int)=2)=(i=2):=by apply propext; omega
 simp only [e1,e2]
 by_cases h2:x.kind=2
 ·simp [h2]
 ·by_cases h1:i=1
  ·by_cases h3:x.kind=12∨x.kind=9
   ·simp [h1,h3]
   ·have a:=(not_or.1 h3).1; have b:=(not_or.1 h3).2
    simp [h1,h2,a,b]
  ·by_cases h9:x.kind=9 <;> by_cases h4:i=2 <;> simp [h1,h2,h9,h4]
end
section
open Gw
end
section
open Gw
def idxN (x:PTerm):Nat:=if x.kind=2 then 0 else 1
def nmJ (x:PTerm) (n:ByteArray) (y:PTerm) (j:Nat):ByteArray:=if idxN x < j then nmC x n y else x.name
def otJ (x:PTerm) (n:ByteArray) (y:PTerm) (j:Nat):ByteArray:=if 2 < j then otC x n y else x.other
theorem getD_at {l:List PTerm} {j:Nat} (h:j < l.length):l.getD j PTerm.z=l[j]:=by rw [List.getD_eq_getElem?_getD,List.getElem?_eq_getElem h]; rfl
theorem parts_le {k:Int} (h:k ≠ 9):yD k ≤ 2:=by
 unfold yD
 by_cases h1:k=1
 ·rw [if_pos h1]; decide
 rw [if_neg h1,if_neg h]
 by_cases h2:k=3∨k=4∨k=12
 ·rw [if_pos h2]; decide
 rw [if_neg h2]
 by_cases h3:k=2∨k=5∨k=6∨k=7∨k=8∨k=10∨k=11
 ·rw [if_pos h3]; decide
 rw [if_neg h3]; decide
theorem third {x:PTerm} (hr:rightT x=true) (h:2 < x.sub.length):x.kind=9:=by
 apply Classical.byContradiction
 intro q
 have h1:=(yi hr).len
 have h2:=parts_le q
 omega
theorem ren_bind {x:PTerm} {n:ByteArray} {y:PTerm} {j:Nat} {p:PTerm} (h:renC x n y j p):x.kind=2∨(j=1∧(x.kind=12∨x.kind=9))∨(x.kind=9∧j=2):=by
 have hb:ye x.kind x.name x.other j ≠ ⟨#[]⟩ := h.2.1
 unfold ye at hb
 by_cases c:x.kind=2∨j=1∧(x.kind=12∨x.kind=9)
 ·rcases c with c | c
  ·exact .inl c
  ·exact .inr (.inl c)
 ·rw [if_neg c] at hb
  by_cases c2:x.kind=9∧j=2
  ·exact .inr (.inr c2)
  ·rw [if_neg c2] at hb; exact absurd rfl hb
theorem nmJ_end {x:PTerm} (hr:rightT x=true) (n:ByteArray) (y:PTerm):nmJ x n y x.sub.length=nmC x n y:=by
 obtain ⟨_,l2,l12,l9,_⟩ := xM hr
 unfold nmJ
 by_cases h:idxN x < x.sub.length
 ·rw [if_pos h]
 ·rw [if_neg h,nmC_neg]
  intro q
  unfold idxN at h
  rcases q.1 with k | k | k
  ·rw [if_pos k] at h; have:=l2 k; omega
  ·rw [if_neg zan] at h; have:=l12 k; omega
  ·rw [if_neg zan] at h; have:=l9 k; omega
theorem otJ_end {x:PTerm} (hr:rightT x=true) (n:ByteArray) (y:PTerm):otJ x n y x.sub.length=otC x n y:=by
 obtain ⟨_,l2,l12,l9,_⟩ := xM hr
 unfold otJ
 by_cases h:2 < x.sub.length
 ·rw [if_pos h]
 ·rw [if_neg h,otC_neg]
  intro q
  have:=l9 q.1; omega
theorem nmJ_succ {x:PTerm} (hr:rightT x=true) (n:ByteArray) (y:PTerm) {j:Nat} (hj:j < x.sub.length):nmJ x n y (j + 1)=if renC x n y j x.sub[j]∧¬ j=2 then xG x.sub[j] y n else nmJ x n y j:=by
 obtain ⟨_,l2,l12,l9,_⟩ := xM hr
 have hi1:idxN x ≤ 1:=by unfold idxN; split <;> omega
 by_cases hi:j=idxN x
 ·have e1:nmJ x n y (j + 1)=nmC x n y:=by unfold nmJ; rw [if_pos zan]
  have e2:nmJ x n y j=x.name:=by unfold nmJ; rw [if_neg zan]
  rw [e1,e2]
  have hg:x.sub.getD (if x.kind=2 then 0 else 1) PTerm.z=x.sub[j]:=by
   rw [show (if x.kind=2 then 0 else 1)=j from hi.symm]; exact getD_at hj
  have hidx:(if x.kind=2 then 0 else 1)=j:=hi.symm
  by_cases c:renC x n y j x.sub[j]
  ·have hk:x.kind=2∨x.kind=12∨x.kind=9:=by
    rcases ren_bind c with q | q | q
    ·exact .inl q
    ·exact .inr q.2
    ·exact .inr (.inr q.1)
   have cc:renC x n y (if x.kind=2 then 0 else 1) (x.sub.getD (if x.kind=2 then 0 else 1) PTerm.z):=by rw [hg,hidx]; exact c
   rw [if_pos ⟨c,by omega⟩,nmC_pos ⟨hk,cc⟩,hg]
  ·have cc:¬ renC x n y (if x.kind=2 then 0 else 1) (x.sub.getD (if x.kind=2 then 0 else 1) PTerm.z):=by rw [hg,hidx]; exact c
   rw [if_neg (fun q=>c q.1),nmC_neg (fun q=>cc q.2)]
 ·have e:nmJ x n y (j + 1)=nmJ x n y j:=by
   unfold nmJ
   by_cases q:idxN x < j
   ·rw [if_pos q,if_pos zan]
   ·rw [if_neg q,if_neg zan]
  rw [e,if_neg]
  intro q
  rcases ren_bind q.1 with k | k | k
  ·have:=l2 k; unfold idxN at hi; rw [if_pos k] at hi; omega
  ·have:x.kind ≠ 2:=by omega
   unfold idxN at hi; rw [if_neg this] at hi; omega
  ·exact q.2 k.2
theorem otJ_succ {x:PTerm} (hr:rightT x=true) (n:ByteArray) (y:PTerm) {j:Nat} (hj:j < x.sub.length):otJ x n y (j + 1)=if renC x n y j x.sub[j]∧j=2 then xG x.sub[j] y n else otJ x n y j:=by
 by_cases h2:j=2
 ·subst h2
  have k9:=third hr hj
  have e1:otJ x n y (2 + 1)=otC x n y:=by unfold otJ; rw [if_pos zan]
  have e2:otJ x n y 2=x.other:=by unfold otJ; rw [if_neg zan]
  rw [e1,e2]
  have hg:x.sub.getD 2 PTerm.z=x.sub[2]:=getD_at hj
  by_cases c:renC x n y 2 x.sub[2]
  ·rw [if_pos ⟨c,rfl⟩,otC_pos ⟨k9,by rw [hg]; exact c⟩,hg]
  ·rw [if_neg (fun q=>c q.1),otC_neg (fun q=>c (by have:=q.2; rw [hg] at this; exact this))]
 ·have e:otJ x n y (j + 1)=otJ x n y j:=by
   unfold otJ
   by_cases q:2 < j
   ·rw [if_pos q,if_pos zan]
   ·rw [if_neg q,if_neg zan]
  rw [e,if_neg (fun q=>h2 q.2)]
end
section
open Gw
def vL (m:List (ByteArray × Int)) (z:ByteArray):Int:=(Gw.look z m).getD 0
theorem look_insB (x y:ByteArray) (v:Int) : ∀ l:List (ByteArray × Int),Gw.look y (Gw.ins x v l)=if y=x then some v else Gw.look y l
 | []=>by by_cases e:y=x <;> simp [Gw.ins,Gw.look,e]
 | (k,w) :: l=>by
  by_cases e:x=k
  ·subst e
   by_cases e2:y=x <;> simp [Gw.ins,Gw.look,e2]
  ·by_cases e2:y=k
   ·have:y ≠ x:=fun q=>e (q.symm.trans e2)
    subst e2
    simp [Gw.ins,Gw.look,e,this]
   ·simp [Gw.ins,Gw.look,e,e2,look_insB x y v l]
theorem vL_ins (x:ByteArray) (v:Int) (l:List (ByteArray × Int)) (z:ByteArray):vL (Gw.ins x v l) z=if z=x then v else vL l z:=by
 unfold vL; rw [look_insB]; split <;> rfl
theorem cnt_le (z:ByteArray) (x:PTerm):cntT z x ≤ sizeT x:=by
 have:=cnt_sum x [z] zao
 simpa using this
theorem drop_at {l:List PTerm} {j:Nat} (h:j < l.length):l.drop j=l[j] :: l.drop (j + 1):=List.drop_eq_getElem_cons h
theorem names14 : ∀ (K:Nat) (x:PTerm) (B F:List (ByteArray × Int)),sizeT x + 2 ≤ K→(∀ z,0 ≤ vL B z∧vL B z + sizeT x ≤ 1000000000000)→(∀ z,0 ≤ vL F z∧vL F z + sizeT x ≤ 1000000000000) →
  ∃ B' F',zbn.f K x B F=some (B',F')∧(∀ z,vL B' z=vL B z) ∧ ∀ z,vL F' z=vL F z + (if vL B z=0 then (cntT z x:Int) else 0)
 | 0,x,B,F,h,_,_=>by omega
 | K + 1,x,B,F,h,hB,hF=>by
  have hs:=x9 x
  have hl:=jZ x.sub
  show ∃ B' F',zbn.g (zbn.f K) x B F=_∧_
  unfold zbn.g
  by_cases hk:x.kind=1
  ·rw [if_pos (by simpa using hk)]
   have hc : ∀ z,(cntT z x:Int)=if z=x.name then 1 else 0:=fun z=>by
    rw [vg,if_pos hk]
    by_cases e:x.name=z
    ·rw [if_pos e,if_pos e.symm]; rfl
    ·rw [if_neg e,if_neg (fun q=>e q.symm)]; rfl
   by_cases h0:vL B x.name=0
   ·refine ⟨B,Gw.ins x.name (IntKind.i64.wrap (vL F x.name + 1)) F,?_,fun _=>rfl,fun z=>?_⟩
    ·show ((if decide (vL B x.name=0) then some (Gw.ins x.name (IntKind.i64.wrap (vL F x.name + 1)) F) else some F).bind fun o4=>some (B,o4))=_
     rw [if_pos (by simpa using h0)]; rfl
    ·rw [vL_ins,wrap_small ⟨by have:=(hF x.name).1; omega,by have:=(hF x.name).2; omega⟩,hc]
     by_cases e:z=x.name
     ·rw [if_pos e,if_pos e,e,if_pos h0]
     ·rw [if_neg e,if_neg e]; split <;> omega
   ·refine ⟨B,F,?_,fun _=>rfl,fun z=>?_⟩
    ·show ((if decide (vL B x.name=0) then some (Gw.ins x.name (IntKind.i64.wrap (vL F x.name + 1)) F) else some F).bind fun o4=>some (B,o4))=_
     rw [if_neg (by simpa using h0)]; rfl
    ·rw [hc]
     by_cases e:z=x.name
     ·rw [e,if_neg h0]; omega
     ·rw [if_neg e]; split <;> omega
  rw [if_neg (by simpa using hk)]
  have loop : ∀ (m j:Nat) (B F:List (ByteArray × Int)),j + m=x.sub.length→(∀ z,0 ≤ vL B z∧vL B z + (1 + sizeL (x.sub.drop j)) ≤ 1000000000000)→(∀ z,0 ≤ vL F z∧vL F z + sizeL (x.sub.drop j) ≤ 1000000000000) →
    ∃ B' F',forS (fun i s=>zbn.b0 x (zbn.f K) i s.1 s.2) m (j:Int) (B,F)=some (B',F')∧(∀ z,vL B' z=vL B z) ∧ ∀ z,vL F' z=vL F z + (if vL B z=0 then (cntL z x.kind x.name x.other j (x.sub.drop j):Int) else 0):=by
   intro m
   induction m with
   | zero =>
    intro j B F hj _ _
    refine ⟨B,F,rfl,fun _=>rfl,fun z=>?_⟩
    rw [List.drop_of_length_le zan]
    simp [cntL]
   | succ m ih =>
    intro j B F hj hB hF
    have hjl:j < x.sub.length:=by omega
    have hd:=drop_at hjl
    have hsd:sizeL (x.sub.drop j)=sizeT x.sub[j] + sizeL (x.sub.drop (j + 1)):=by rw [hd]; rfl
    have hm:sizeT x.sub[j] ≤ sizeL x.sub:=yO (List.getElem_mem hjl)
    have hsp:=uU x.sub[j]
    have hw1:IntKind.i64.wrap (vL B (zO x j) + 1)=vL B (zO x j) + 1:=wrap_small ⟨by have:=(hB (zO x j)).1; omega,by have:=(hB (zO x j)).2; omega⟩
    have hB1 : ∀ z,vL (Gw.ins (zO x j) (vL B (zO x j) + 1) B) z=if z=zO x j then vL B (zO x j) + 1 else vL B z:=fun z=>vL_ins _ _ _ z
    obtain ⟨B2,F2,e1,e2,e3⟩ := names14 K x.sub[j] (Gw.ins (zO x j) (vL B (zO x j) + 1) B) F zan (fun z=>by
     rw [hB1]; have:=hB z; have:=hB (zO x j); split <;> omega) (fun z=>by have:=hF z; omega)
    have hb2:vL B2 (zO x j)=vL B (zO x j) + 1:=by rw [e2,hB1,if_pos rfl]
    have hw2:IntKind.i64.wrap (vL B2 (zO x j) - 1)=vL B (zO x j):=by
     rw [hb2,wrap_small ⟨by have:=(hB (zO x j)).1; omega,by have:=(hB (zO x j)).2; omega⟩]; omega
    have hB3 : ∀ z,vL (Gw.ins (zO x j) (vL B (zO x j)) B2) z=vL B z:=fun z=>by
     rw [vL_ins,e2,hB1]
     by_cases e:z=zO x j
     ·rw [if_pos e,e]
     ·rw [if_neg e,if_neg e]
    have hF2 : ∀ z,vL F2 z=vL F z + (if vL B z=0 then (if zO x j=z then 0 else (cntT z x.sub[j]:Int)) else 0):=fun z=>by
     rw [e3,hB1]
     by_cases e:z=zO x j
     ·have:=(hB (zO x j)).1
      rw [if_pos e,if_neg zan,if_pos e.symm]; split <;> omega
     ·have e':¬ zO x j=z:=fun q=>e q.symm
      simp only [if_neg e,if_neg e']
    obtain ⟨B4,F4,g1,g2,g3⟩ := ih (j + 1) (Gw.ins (zO x j) (vL B (zO x j)) B2) F2 zan (fun z=>by rw [hB3]; have:=hB z; omega) (fun z=>by
     have h1:=hF z; have h2:=cnt_le z x.sub[j]; rw [hF2]; split
     ·split <;> omega
     ·omega)
    refine ⟨B4,F4,?_,fun z=>by rw [g2,hB3],fun z=>?_⟩
    ·have hbody:zbn.b0 x (zbn.f K) (j:Int) B F=some (Gw.ins (zO x j) (vL B (zO x j)) B2,F2):=by
      unfold zbn.b0
      rw [bind14,zar,jz hjl]
      show ((zbn.f K x.sub[j] (Gw.ins (zO x j) (IntKind.i64.wrap (vL B (zO x j) + 1)) B) F).bind fun r21=>some (Gw.ins (zO x j) (IntKind.i64.wrap (vL r21.1 (zO x j) - 1)) r21.1,r21.2))=_
      rw [hw1,e1,zar,hw2]
     simp only [forS,hbody,zar]
     rw [show ((j:Int) + 1)=((j + 1:Nat):Int) by omega]
     exact g1
    ·rw [g3,hB3,hF2,hd]
     have hcl:cntL z x.kind x.name x.other j (x.sub[j] :: x.sub.drop (j + 1))=(if zO x j=z then 0 else cntT z x.sub[j]) + cntL z x.kind x.name x.other (j + 1) (x.sub.drop (j + 1)):=by rw [cntL]
     rw [hcl]
     by_cases e:zO x j=z
     ·simp only [if_pos e]; split <;> omega
     ·simp only [if_neg e]; split <;> omega
  obtain ⟨B',F',e1,e2,e3⟩ := loop x.sub.length 0 B F zan (fun z=>by have:=hB z; rw [List.drop_zero]; omega) (fun z=>by have:=hF z; rw [List.drop_zero]; omega)
  refine ⟨B',F',?_,e2,fun z=>?_⟩
  ·rw [show ((x.sub.length:Int) - 0).toNat=x.sub.length by omega]
   have e1:forS (fun i s=>zbn.b0 x (zbn.f K) i s.1 s.2) x.sub.length 0 (B,F)=some (B',F'):=e1
   rw [e1]; rfl
  ·rw [e3,vg,if_neg hk,List.drop_zero]
theorem freely14 {K:Nat} {x:PTerm} (hK:sizeT x + 2 ≤ K) (hb:sizeT x ≤ 1000000000) : ∃ F,zbo.f K x=some F ∧ ∀ z,vL F z=cntT z x:=by
 obtain ⟨B',F',e1,_,e3⟩ := names14 K x [] [] hK (fun z=>⟨Int.le_refl _,by show (0:Int) + _ ≤ _; omega⟩) (fun z=>⟨Int.le_refl _,by show (0:Int) + _ ≤ _; omega⟩)
 refine ⟨F',by unfold zbo.f; rw [e1]; rfl,fun z=>?_⟩
 rw [e3]
 show (0:Int) + (if (0:Int)=0 then _ else _)=_
 rw [if_pos rfl]; omega
theorem fresh14 {K:Nat} {p y:PTerm} {n:ByteArray} {G F:List (ByteArray × Int)} (hG : ∀ z,vL G z=cntT z p) (hF : ∀ z,vL F z=cntT z y) (hK:sizeT p + sizeT y + 40 ≤ K) (hb:sizeT p + sizeT y ≤ 1000000000):zbq.f K G F n=some (xG p y n):=by
 obtain ⟨j,hj,hjb⟩ := not_blocked (p:=p) (y:=y) (n:=n) zan
 obtain ⟨g1,g2,g3⟩ := firstN_some (p:=fun k => !blocked p y n (vNm k)) (m:=sizeT p + sizeT y + 2) (i:=0) (j:=j) zan zan (by simpa using hjb)
 unfold zbq.f
 have body : ∀ i:Nat,i ≤ sizeT p + sizeT y + 2→zbq.b0 G F n (i:Int)=some (if blocked p y n (vNm i) then .go ((i + 1:Nat):Int) else .ret (vNm i)):=fun i hi=>by
  unfold zbq.b0 strconv_Itoa.f
  rw [chk,if_pos (by simp; omega),zar,chk,if_pos (dec_ok 118 zan)]
  rw [show (⟨#[118]⟩ : ByteArray) ++ decN (i:Int)=vNm i from rfl,wrap_succ zan]
  have q1:((Gw.look (vNm i) G).getD 0=0)=¬ xr (vNm i) p:=by
   apply propext; show vL G (vNm i)=0↔_; rw [hG]; unfold xr; omega
  have q2:((Gw.look (vNm i) F).getD 0=0)=¬ xr (vNm i) y:=by
   apply propext; show vL F (vNm i)=0↔_; rw [hF]; unfold xr; omega
  unfold blocked
  simp only [q1,q2]
  by_cases e:vNm i=n
  ·simp [e]
  ·by_cases f1:xr (vNm i) p
   ·simp [e,f1]
   ·by_cases f2:xr (vNm i) y <;> simp [e,f1,f2]
 have hr:=iter_ret (b:=fun s=>zbq.b0 G F n s) (inv:=fun i=>(i:Int)) (r:=xG p y n) (firstN (fun k => !blocked p y n (vNm k)) (sizeT p + sizeT y + 2) 0) 0 K zan (fun i _ hi=>by
  show zbq.b0 G F n (i:Int)=_
  have hbl:blocked p y n (vNm i)=true:=by simpa using g3 i zan zan
  rw [body i zan,if_pos hbl]) (by
  show zbq.b0 G F n ((0 + _:Nat):Int)=_
  have hbl:blocked p y n (xG p y n)=false:=by simpa [xG] using g1
  rw [Nat.zero_add,body _ zan]
  show some (if blocked p y n (xG p y n)=true then _ else Stp.ret (xG p y n))=_
  rw [if_neg (by rw [hbl]; decide)])
 have hr:iter (fun s=>zbq.b0 G F n s) K 0=_:=hr
 rw [hr]; rfl
end
section
open Gw
def setJ (l:List PTerm) (j:Nat):List PTerm:=l.take j ++ List.replicate (l.length - j) PTerm.z
theorem setJ_len (l:List PTerm) (j:Nat) (h:j ≤ l.length):(setJ l j).length=l.length:=by unfold setJ; simp; omega
theorem setJ_0 (l:List PTerm):setJ l 0=List.replicate l.length PTerm.z:=by simp [setJ]
theorem setJ_end (l:List PTerm):setJ l l.length=l:=by simp [setJ]
theorem setJ_succ {l:List PTerm} {j:Nat} (h:j < l.length):(setJ l j).set j l[j]=setJ l (j + 1):=by
 unfold setJ
 rw [show l.length - j=(l.length - (j + 1)) + 1 by omega,List.replicate_succ,List.set_append_right _ _ (by simp; omega),List.take_succ_eq_append_getElem h]
 have:j - (l.take j).length=0:=by simp; omega
 rw [this,List.set_cons_zero,List.append_assoc]
 rfl
theorem len3 {x:PTerm} (hr:rightT x=true):x.sub.length ≤ 3:=by
 have h1:=(yi hr).len
 by_cases k:x.kind=9
 ·rw [k] at h1; have:yD 9=3:=by decide
  omega
 ·have:=parts_le k; omega
theorem clone14 : ∀ (K:Nat) (x:PTerm),rightT x=true→sizeT x + 2 ≤ K→zbp.f K x=some x
 | 0,x,_,h=>by omega
 | K + 1,x,hr,h=>by
  have hs:=x9 x
  have h3:=len3 hr
  show zbp.g (zbp.f K) x=_
  unfold zbp.g
  rw [chk,if_pos (by simp; omega),show ((x.sub.length:Int) - 0).toNat=x.sub.length by omega,show Int.toNat (x.sub.length:Int)=x.sub.length from rfl]
  have hloop:=forS_inv (b:=fun i s=>zbp.b0 (zbp.f K) x i s) (inv:=fun i=>setJ x.sub i) x.sub.length 0 (fun j _ hj=>by
   have hj:j < x.sub.length:=by omega
   have hm:sizeT x.sub[j] ≤ sizeL x.sub:=yO (List.getElem_mem hj)
   show zbp.b0 (zbp.f K) x (j:Int) (setJ x.sub j)=_
   unfold zbp.b0
   rw [jz hj,clone14 K _ (vK hr hj) zan,zar,chk,if_pos (un zan (by rw [setJ_len _ _ zan]; omega))]
   show some ((setJ x.sub j).set j x.sub[j])=_
   rw [setJ_succ hj])
  rw [Nat.zero_add,setJ_end,setJ_0] at hloop
  have hloop:forS (fun i s=>zbp.b0 (zbp.f K) x i s) x.sub.length 0 (List.replicate x.sub.length PTerm.z)=some x.sub:=hloop
  rw [hloop,zar,PTerm.eta]
def plS (x:PTerm) (n:ByteArray) (y:PTerm):List PTerm:=x.sub.mapIdx fun i p=>putC putT x n y i p
theorem plS_len (x:PTerm) (n:ByteArray) (y:PTerm):(plS x n y).length=x.sub.length:=by unfold plS; simp
theorem plS_at {x:PTerm} (n:ByteArray) (y:PTerm) {j:Nat} (hj:j < x.sub.length):(plS x n y)[j]'(by rw [plS_len]; exact hj)=putC putT x n y j x.sub[j]:=List.getElem_mapIdx ..
def stP (x:PTerm) (n:ByteArray) (y:PTerm) (j:Nat):PTerm:=⟨x.kind,nmJ x n y j,otJ x n y j,x.form,setJ (plS x n y) j⟩
theorem vL_one (w z:ByteArray):vL (Gw.ins w 1 ([]:List (ByteArray × Int))) z=cntT z (varT w):=by
 rw [vL_ins,vg]
 show _=(((if (1:Int)=1 then (if w=z then 1 else 0) else _):Nat):Int)
 rw [if_pos rfl]
 by_cases e:z=w
 ·rw [if_pos e,if_pos e.symm]; rfl
 ·rw [if_neg e,if_neg (fun q=>e q.symm)]; rfl
theorem put14 : ∀ (K:Nat) (x:PTerm) (n:ByteArray) (y:PTerm) (F:List (ByteArray × Int)),rightT x=true→rightT y=true→(∀ z,vL F z=cntT z y)→sizeT x + sizeT y + 60 ≤ K→sizeT x + sizeT y ≤ 1000000000→zbr.f K x n y F=some (putT x n y)
 | 0,x,n,y,F,_,_,_,h,_=>by omega
 | K + 1,x,n,y,F,hr,hy,hF,h,hb=>by
  have hs:=x9 x
  have hsy:=uU y
  have hl:=jZ x.sub
  have h3:=len3 hr
  show zbr.g (zbr.f K) K x n y F=_
  unfold zbr.g
  by_cases hk:x.kind=1
  ·rw [if_pos (by simpa using hk),put_var n y hk]
   by_cases e:x.name=n
   ·rw [if_pos (by simpa using e),if_pos e,clone14 K y hy zan]; rfl
   ·rw [if_neg (by simpa using e),if_neg e]
  rw [if_neg (by simpa using hk),chk,if_pos (by simp; omega),show ((x.sub.length:Int) - 0).toNat=x.sub.length by omega,show Int.toNat (x.sub.length:Int)=x.sub.length from rfl]
  have hloop:=forS_inv (b:=fun i s=>zbr.b0 x K n F (zbr.f K) y i s) (inv:=fun i=>stP x n y i) x.sub.length 0 (fun j _ hj=>by
   have hj:j < x.sub.length:=by omega
   have hm:sizeT x.sub[j] ≤ sizeL x.sub:=yO (List.getElem_mem hj)
   have hrp:=vK hr hj
   obtain ⟨G,hG,hG2⟩ := freely14 (K:=K) (x:=x.sub[j]) zan zan
   show zbr.b0 x K n F (zbr.f K) y (j:Int) (stP x n y j)=some (stP x n y (j + 1))
   unfold zbr.b0
   have hck:inb (j:Int) (setJ (plS x n y) j).length=true:=un zan (by rw [setJ_len _ _ (by rw [plS_len]; omega),plS_len]; omega)
   rw [jz hj,bind14,zar,hG,zar]
   have e3:=nmJ_succ hr n y hj
   have e4:=otJ_succ hr n y hj
   have hst:stP x n y (j + 1)=⟨x.kind,nmJ x n y (j + 1),otJ x n y (j + 1),x.form,(setJ (plS x n y) j).set (Int.toNat (j:Int)) (putC putT x n y j x.sub[j])⟩ := by
    unfold stP
    rw [← plS_at n y hj,show Int.toNat (j:Int)=j from rfl,setJ_succ (by rw [plS_len]; exact hj)]
   have q1:((Gw.look n G).getD 0=0)=¬ xr n x.sub[j]:=by
    apply propext; show vL G n=0↔_; rw [hG2]; unfold xr; omega
   have q2:(0 < (Gw.look (zO x j) F).getD 0)=xr (zO x j) y:=by
    apply propext; show 0 < vL F (zO x j)↔_; rw [hF]; unfold xr; omega
   simp only [q1,q2]
   by_cases c1:zO x j=n∨¬ xr n x.sub[j]
   ·have hren:¬ renC x n y j x.sub[j]:=fun q=>c1.elim q.1.1 (fun r=>r q.1.2)
    have hp:putC putT x n y j x.sub[j]=x.sub[j]:=by rw [putC,if_pos c1]
    have n1:nmJ x n y (j + 1)=nmJ x n y j:=by rw [e3,if_neg (fun q=>hren q.1)]
    have o1:otJ x n y (j + 1)=otJ x n y j:=by rw [e4,if_neg (fun q=>hren q.1)]
    rw [hst,n1,o1,hp]
    rw [if_pos (by
     rcases c1 with e | e
     ·simp [e]
     ·simp [e]),clone14 K _ hrp zan,zar]
    show chk (inb (j:Int) (setJ (plS x n y) j).length) _=_
    rw [chk,if_pos hck]
    rfl
   have c1':zO x j ≠ n∧xr n x.sub[j]:=⟨fun q=>c1 (.inl q),Classical.byContradiction fun q=>c1 (.inr q)⟩
   rw [if_neg (by simp [c1'.1,c1'.2])]
   by_cases c3:zO x j ≠ ⟨#[]⟩ ∧ xr (zO x j) y
   ·have hren:renC x n y j x.sub[j]:=⟨c1',c3⟩
    have hp:putC putT x n y j x.sub[j]=putT (putT x.sub[j] (zO x j) (varT (xG x.sub[j] y n))) n y:=by rw [putC,if_neg c1,if_pos c3]
    have hww:=uN x.sub[j] y n
    have hvr:rightT (varT (xG x.sub[j] y n))=true:=kk hww
    have hv1:sizeT (varT (xG x.sub[j] y n))=1:=rfl
    have hq:rightT (putT x.sub[j] (zO x j) (varT (xG x.sub[j] y n)))=true:=kj _ _ (Nat.le_refl _) hrp _ _ hvr
    have hsr:=size_ren x.sub[j] (zO x j) (xG x.sub[j] y n)
    rw [if_pos (by simp [c3.1,c3.2]),fresh14 hG2 hF zan zan,zar]
    have hrec:zbr.f K x.sub[j] (zO x j) (⟨1,xG x.sub[j] y n,ByteArray.empty,0,[]⟩ : PTerm) (Gw.ins (xG x.sub[j] y n) 1 ([]:List (ByteArray × Int)))=some (putT x.sub[j] (zO x j) (varT (xG x.sub[j] y n))):=put14 K x.sub[j] (zO x j) (varT (xG x.sub[j] y n)) _ hrp hvr (fun z=>vL_one _ z) zan zan
    rw [hrec,zar]
    have hrec2:=put14 K _ n y F hq hy hF zan zan
    by_cases h2:j=2
    ·have n1:nmJ x n y (j + 1)=nmJ x n y j:=by rw [e3,if_neg (fun q=>q.2 h2)]
     have o1:otJ x n y (j + 1)=xG x.sub[j] y n:=by rw [e4,if_pos ⟨hren,h2⟩]
     rw [if_pos (by simp [h2]),zar]
     dsimp only
     rw [hrec2,zar]
     show chk (inb (j:Int) (setJ (plS x n y) j).length) _=_
     rw [chk,if_pos hck,hst,n1,o1,hp]
     rfl
    ·have n1:nmJ x n y (j + 1)=xG x.sub[j] y n:=by rw [e3,if_pos ⟨hren,h2⟩]
     have o1:otJ x n y (j + 1)=otJ x n y j:=by rw [e4,if_neg (fun q=>h2 q.2)]
     rw [if_neg (by simp; omega),zar]
     dsimp only
     rw [hrec2,zar]
     show chk (inb (j:Int) (setJ (plS x n y) j).length) _=_
     rw [chk,if_pos hck,hst,n1,o1,hp]
     rfl
   ·have hren:¬ renC x n y j x.sub[j]:=fun q=>c3 q.2
    have hp:putC putT x n y j x.sub[j]=putT x.sub[j] n y:=by rw [putC,if_neg c1,if_neg c3]
    have n1:nmJ x n y (j + 1)=nmJ x n y j:=by rw [e3,if_neg (fun q=>hren q.1)]
    have o1:otJ x n y (j + 1)=otJ x n y j:=by rw [e4,if_neg (fun q=>hren q.1)]
    rw [if_neg (by simpa using c3),zar]
    dsimp only
    rw [put14 K _ n y F hrp hy hF zan zan,zar]
    show chk (inb (j:Int) (setJ (plS x n y) j).length) _=_
    rw [chk,if_pos hck,hst,n1,o1,hp]
    rfl)
  have h0:stP x n y 0=⟨x.kind,x.name,x.other,x.form,List.replicate x.sub.length PTerm.z⟩ := by
   unfold stP nmJ otJ; rw [if_neg zan,if_neg zan,setJ_0,plS_len]
  have h1:stP x n y (0 + x.sub.length)=putT x n y:=by
   unfold stP
   rw [Nat.zero_add,nmJ_end hr,otJ_end hr,zai n y hk]
   have:=setJ_end (plS x n y)
   rw [plS_len] at this
   rw [this]; rfl
  rw [h0,h1] at hloop
  have hloop:forS (fun i s=>zbr.b0 x K n F (zbr.f K) y i s) x.sub.length 0 (⟨x.kind,x.name,x.other,x.form,List.replicate x.sub.length PTerm.z⟩ : PTerm)=some (putT x n y):=hloop
  rw [hloop,zar,PTerm.eta]
end
section
open Gw
mutual
def gD (b:Bool) (n:ByteArray) (a:Nat):PTerm→Nat
 | .mk k nm ot _ s=>if k=1 then (if nm=n then a else 1) else 1 + gDL b n a k nm ot 0 s
def gDL (b:Bool) (n:ByteArray) (a:Nat) (k:Int) (nm ot:ByteArray):Nat→List PTerm→Nat
 | _,[]=>0
 | i,y :: l=>max (if ye k nm ot i=n then (if b then depT y else 0) else gD b n a y) (gDL b n a k nm ot (i + 1) l)
end
theorem gD_eq (b:Bool) (n:ByteArray) (a:Nat) (x:PTerm):gD b n a x=if x.kind=1 then (if x.name=n then a else 1) else 1 + gDL b n a x.kind x.name x.other 0 x.sub:=by cases x; simp only [gD]; rfl
theorem gDL_take (b:Bool) (n:ByteArray) (a:Nat) (k:Int) (nm ot:ByteArray) : ∀ {l:List PTerm} {i j:Nat} {x:PTerm},l[j]? = some x→gDL b n a k nm ot i (l.take (j + 1))=max (gDL b n a k nm ot i (l.take j)) (if ye k nm ot (i + j)=n then (if b then depT x else 0) else gD b n a x)
 | [],_,_,_,h=>by simp at h
 | y :: l,i,0,x,h=>by simp at h; subst h; simp [gDL]
 | y :: l,i,j + 1,x,h=>by
  have:=gDL_take b n a k nm ot (l:=l) (i:=i + 1) (j:=j) (by simpa using h)
  simp only [List.take_succ_cons,gDL]
  rw [this,show i + 1 + j=i + (j + 1) by omega]; omega
mutual
theorem gD_le (n:ByteArray) (a:Nat) : ∀ x,gD false n a x ≤ gD true n a x∧gD true n a x ≤ max (gD false n a x) (depT x)
 | .mk k nm ot f s=>by
  simp only [gD,depT]
  by_cases hk:k=1
  ·simp only [if_pos hk]; omega
  ·simp only [if_neg hk]
   have:=gDL_le n a k nm ot 0 s
   omega
theorem gDL_le (n:ByteArray) (a:Nat) (k:Int) (nm ot:ByteArray) : ∀ (i:Nat) (l:List PTerm),gDL false n a k nm ot i l ≤ gDL true n a k nm ot i l∧gDL true n a k nm ot i l ≤ max (gDL false n a k nm ot i l) (depL l)
 | _,[]=>by simp [gDL]
 | i,y :: l=>by
  have h1:=gD_le n a y
  have h2:=gDL_le n a k nm ot (i + 1) l
  simp only [gDL,depL]
  by_cases e:ye k nm ot i=n
  ·simp only [if_pos e]
   simp only [if_true,Bool.false_eq_true,if_false]; omega
  ·simp only [if_neg e]; omega
end
theorem gD_low {b:Bool} {n:ByteArray} {a:Nat} {x:PTerm} (hb:gD b n a x ≤ gD true n a x) (ha:a ≤ 1024) : ∀ (d:Nat) (y:PTerm),depT y ≤ d→gD true n a y ≤ d + 1024
 | 0,y,h=>by have:=vd y; omega
 | d + 1,y,h=>by
  have hd:=yL y
  rw [gD_eq]
  by_cases hk:y.kind=1
  ·rw [if_pos hk]; split <;> omega
  rw [if_neg hk]
  have key : ∀ (l:List PTerm) (i:Nat),(∀ z ∈ l,depT z ≤ d)→gDL true n a y.kind y.name y.other i l ≤ d + 1024:=by
   intro l
   induction l with
   | nil=>intro i _; simp [gDL]
   | cons z l ih =>
    intro i hz
    have h1:=ih (i + 1) (fun w hw=>hz w (by simp [hw]))
    have h2:=gD_low hb ha d z (hz z zao)
    have h3:=hz z zao
    simp only [gDL]
    split
    ·simp only [if_true]; omega
    ·omega
  have:=key y.sub 0 (fun z hz=>by have:=yV _ hz; omega)
  omega
theorem cntL_le (n:ByteArray) (k:Int) (nm ot:ByteArray) : ∀ (l:List PTerm) (i:Nat),cntL n k nm ot i l ≤ sizeL l
 | [],i=>by simp [cntL,sizeL]
 | y :: l,i=>by
  have h1:=cntL_le n k nm ot l (i + 1)
  have h2:=cnt_le n y
  simp only [cntL,sizeL]; split <;> omega
theorem max_int (a b:Nat):(if (a:Int) < (b:Int) then (b:Int) else (a:Int))=((max a b:Nat):Int):=by
 split <;> omega
theorem grown14 : ∀ (K:Nat) (x:PTerm) (n:ByteArray) (a e:Nat),rightT x=true→sizeT x + 1100 ≤ K→sizeT x ≤ 65536→depT x ≤ 1024→1 ≤ a→a ≤ 65536→e ≤ 1024 →
  zbm.f K x n (a:Int) (e:Int)=some (((sizeT x + cntT n x * (a - 1):Nat):Int),((gD true n e x:Nat):Int))
 | 0,x,n,a,e,_,h,_,_,_,_,_=>by omega
 | K + 1,x,n,a,e,hr,h,hb,hdp,ha,ha2,he=>by
  have hs:=x9 x
  have hd:=yL x
  have hl:=jZ x.sub
  show zbm.g (zbm.f K) K x n a e=_
  unfold zbm.g
  by_cases hk:x.kind=1
  ·rw [if_pos (by simpa using hk),gD_eq,if_pos hk,vg,if_pos hk]
   have h0:x.sub=[]:=(xM hr).1 hk
   have hs1:sizeT x=1:=by rw [hs,h0]; rfl
   by_cases q:x.name=n
   ·rw [if_pos (by simpa using q),if_pos q,if_pos q,hs1]
    congr 2; omega
   ·rw [if_neg (by simpa using q),if_neg q,if_neg q,hs1]
    simp
  rw [if_neg (by simpa using hk),show ((x.sub.length:Int) - 0).toNat=x.sub.length by omega]
  have hmul : ∀ c:Nat,c ≤ 65536→c * (a - 1) ≤ 4294967296:=fun c hc=>Nat.le_trans (Nat.mul_le_mul hc (show a - 1 ≤ 65536 by omega)) zam
  have hloop:=forS_inv (b:=fun i (s:Int × Int)=>zbm.b0 x K n (zbm.f K) a e i s.1 s.2) (inv:=fun i=>(((1 + sizeL (x.sub.take i) + cntL n x.kind x.name x.other 0 (x.sub.take i) * (a - 1):Nat):Int),((gDL true n e x.kind x.name x.other 0 (x.sub.take i):Nat):Int))) x.sub.length 0 (fun j _ hj=>by
   have hj:j < x.sub.length:=by omega
   have hjo:x.sub[j]? = some x.sub[j]:=List.getElem?_eq_getElem hj
   have hm:sizeT x.sub[j] ≤ sizeL x.sub:=yO (List.getElem_mem hj)
   have hmd:depT x.sub[j] ≤ depL x.sub:=yV _ (List.getElem_mem hj)
   have hst:=sizeL_take hjo
   have hct:=cntL_take n x.kind x.name x.other (i:=0) hjo
   have hdt:=gDL_take true n e x.kind x.name x.other (i:=0) hjo
   rw [Nat.zero_add] at hct hdt
   have hsl:=sizeL_le (l:=x.sub) (j + 1)
   have hcl:=cntL_le n x.kind x.name x.other (x.sub.take j) 0
   have hm1:=hmul (cntL n x.kind x.name x.other 0 (x.sub.take j)) zan
   have hc2:=cnt_le n x.sub[j]
   have hm2:=hmul (cntT n x.sub[j]) zan
   show zbm.b0 x K n (zbm.f K) a e (j:Int) _ _=_
   unfold zbm.b0 zaB.f zaF.f
   rw [jz hj,zar,show (1025:Int)=((1025:Nat):Int) from rfl,deep_some K x.sub[j] 1025 zan zan zan zan]
   simp only [zar]
   rw [bind14,zar]
   by_cases q:zO x j=n
   ·have q':ye x.kind x.name x.other j=n:=q
    rw [if_neg (by simpa using q)]
    rw [hst,hct,hdt,if_pos q',if_pos q']
    have e1:(if true=true then depT x.sub[j] else 0)=depT x.sub[j]:=rfl
    rw [e1,show min (sizeT x.sub[j]) 65537=sizeT x.sub[j] by omega,show min (depT x.sub[j]) 1025=depT x.sub[j] by omega,max_int,Nat.add_zero]
    rw [wrap_small ⟨by omega,by omega⟩]
    congr 2; omega
   ·have q':¬ ye x.kind x.name x.other j=n:=q
    rw [if_pos (by simpa using q),grown14 K x.sub[j] n a e (vK hr hj) zan zan zan ha ha2 he,zar]
    rw [hst,hct,hdt,if_neg q',if_neg q',max_int]
    rw [wrap_small ⟨by omega,by omega⟩]
    rw [Nat.add_mul]
    congr 2; omega)
  have h0:(((1 + sizeL (x.sub.take 0) + cntL n x.kind x.name x.other 0 (x.sub.take 0) * (a - 1):Nat):Int),((gDL true n e x.kind x.name x.other 0 (x.sub.take 0):Nat):Int))=((1:Int),(0:Int)):=by
   rw [List.take_zero]; simp [sizeL,cntL,gDL]
  rw [h0,Nat.zero_add,List.take_length] at hloop
  have hloop:forS (fun i (s:Int × Int)=>zbm.b0 x K n (zbm.f K) a e i s.1 s.2) x.sub.length 0 (1,0)=_:=hloop
  rw [hloop,zar,gD_eq,if_neg hk,vg,if_neg hk,hs]
  have hlow:=gD_low (b:=true) (n:=n) (a:=e) (x:=x) (Nat.le_refl _) he _ x (Nat.le_refl _)
  rw [gD_eq,if_neg hk] at hlow
  rw [wrap_small ⟨by omega,by omega⟩]
  congr 2; omega
end
section
open Gw
end
section
open Gw
end
section
open Gw
def err:TR→Option (Int × List Int)
 | .ok _=>none
 | .no c w=>some (c,w.reverse)
abbrev Tc:Type:=PChecker→PTerm→List (ByteArray × Int)→Option (Int × Option (Int × List Int))
abbrev Cc:Type:=PChecker→PTerm→List (ByteArray × Int)→Int→Option (Option (Int × List Int))
def Sok (M:List Nd) (s:Sc):Prop := ∀ q ∈ s,inb q.2 M.length=true
def Tells (M:List Nd) (r:Option (Int × Option (Int × List Int))) (t:TR):Prop := ∃ i,r=some (i,err t) ∧ ∀ f,t = .ok f→i=f∧inb f M.length=true
section
variable {M:List Nd} {x:PTerm} {k:Nat} {T:Tc} {C:Cc}
structure Parts (M:List Nd) (k:Nat) (x:PTerm) (T:Tc) (C:Cc):Prop where
 told : ∀ i,inb i x.sub.length=true → ∀ s,Sok M s→Tells M (T ⟨some M⟩ (at_ PTerm.z x.sub i) s) (tyS M k (at_ PTerm.z x.sub i) s none)
 chkd : ∀ i,inb i x.sub.length=true → ∀ s,Sok M s → ∀ id,inb id M.length=true→C ⟨some M⟩ (at_ PTerm.z x.sub i) s id=some (err (tyS M k (at_ PTerm.z x.sub i) s (some id)))
end
end
section
open Gw
end
section
open Gw
-- nodes,levels,what is right,as the document tells them
end
section
open Gw
set_option maxRecDepth 4000
theorem xY {x:PTerm}:xB x=0↔sizeT x ≤ 65536∧depT x ≤ 1024∧rightT x=true:=by
 unfold xB
 by_cases h:65536 < sizeT x∨1024 < depT x
 ·rw [if_pos h]; constructor
  ·intro q; exact absurd q zam
  ·intro q; omega
 ·rw [if_neg h]
  by_cases r:rightT x=true
  ·rw [if_pos r]; exact ⟨fun _=>⟨by omega,by omega,r⟩,fun _=>rfl⟩
  ·rw [if_neg r]; exact ⟨fun q=>absurd q zam,fun q=>absurd q.2.2 r⟩
def putV (x:PTerm) (n:ByteArray) (y:PTerm):PTerm × Int :=
 if xB x ≠ 0 then (PTerm.z,xB x) else if xB y ≠ 0 then (PTerm.z,xB y) else if ¬ isWord n then (PTerm.z,32)
 else if 65536 < sizeT x + cntT n x * (sizeT y - 1)∨1024 < gD true n (depT y) x then (PTerm.z,121) else (putT x n y,0)
theorem Put14 {K:Nat} {x:PTerm} {n:ByteArray} {y:PTerm} (hK:200000 ≤ K) (hx:nmT x) (hy:nmT y) (hn:n.size < 9223372036854775808):zbs.f K x n y=some (putV x n y):=by
 unfold zbs.f putV
 rw [ko zan hx,zar]
 by_cases cx:xB x=0
 rotate_left
 ·rw [if_pos (by simpa using cx),if_pos cx]; rfl
 rw [if_neg (by simpa using cx),if_neg (by simpa using cx),ko zan hy,zar]
 by_cases cy:xB y=0
 rotate_left
 ·rw [if_pos (by simpa using cy),if_pos cy]; rfl
 rw [if_neg (by simpa using cy),if_neg (by simpa using cy)]
 unfold zaw.f
 rw [chk,if_pos (by simpa using hn),zar]
 by_cases w:isWord n
 rotate_left
 ·rw [if_pos (by simpa using w),if_pos w]; rfl
 obtain ⟨x1,x2,x3⟩ := xY.1 cx
 obtain ⟨y1,y2,y3⟩ := xY.1 cy
 have ys:=uU y
 rw [if_neg (by simpa using w),if_neg (by simpa using w)]
 unfold zaB.f zaF.f
 rw [zar,show (1025:Int)=((1025:Nat):Int) from rfl,deep_some K y 1025 zan zan zan zan]
 simp only [zar]
 rw [show min (sizeT y) 65537=sizeT y by omega,show min (depT y) 1025=depT y by omega,grown14 K x n (sizeT y) (depT y) x3 zan x1 x2 ys y1 y2,zar]
 obtain ⟨F,hF,hF2⟩ := freely14 (K:=K) (x:=y) zan zan
 by_cases c:65536 < sizeT x + cntT n x * (sizeT y - 1)∨1024 < gD true n (depT y) x
 ·rw [if_pos c,if_pos]
  ·rfl
  ·rw [Bool.or_eq_true_iff]
   rcases c with c | c
   ·exact .inl (decide_eq_true zan)
   ·exact .inr (decide_eq_true zan)
 ·rw [if_neg c,if_neg,hF,zar,put14 K x n y F x3 y3 hF2 zan zan]
  ·rfl
  ·rw [Bool.or_eq_true_iff]
   rintro (q | q)
   ·have q:=of_decide_eq_true q; exact c (.inl zan)
   ·have q:=of_decide_eq_true q; exact c (.inr zan)
end
section
open Gw
end
section
open Gw
abbrev kid (x:PTerm) (i:Int):PTerm:=at_ PTerm.z x.sub i
def besV (M:List Nd) (p:PTerm) (k f:Int):Int:=if p.kind=k then 1 else if p.kind=11∧(kid p 0).kind=k∧(nd M p.form).kind=f then 2 else 0
def rowV (M:List Nd) (x:PTerm):Int :=
 if x.kind=3 then besV M (kid x 0) 2 5
 else if x.kind=5∨x.kind=6 then (if besV M (kid x 0) 4 3=0 then 0 else 2 + besV M (kid x 0) 4 3)
 else if x.kind=9 then (if besV M (kid x 0) 7 4 ≠ 0 then 4 + besV M (kid x 0) 7 4 else if besV M (kid x 0) 8 4 ≠ 0 then 4 + besV M (kid x 0) 8 4 else 0)
 else if x.kind=12 then 7
 else if x.kind=11 then (if (kid x 0).kind=1∨(kid x 0).kind=3∨(kid x 0).kind=5∨(kid x 0).kind=6∨(kid x 0).kind=11 then 8 else 0)
 else 0
theorem uo {x:PTerm} (hr:rightT x=true):(x.sub.length:Int)=yD x.kind:=(yi hr).len.symm
theorem kid_at {x:PTerm} {i:Nat} (h:i < x.sub.length):kid x (i:Int)=x.sub[i]:=jz h
theorem kid_right {x:PTerm} (hr:rightT x=true) {i:Nat} (h:i < x.sub.length):rightT (kid x (i:Int))=true:=by rw [kid_at h]; exact vK hr h
theorem vM {x:PTerm} {k:Int} (h:0 < x.sub.length):zaN.f x k=some (decide ((kid x 0).kind=k)):=by
 unfold zaN.f
 have hin:inb 0 x.sub.length=true:=un zan zan
 rw [chk,if_pos (by rw [hin]; simp)]
 have:decide (0 < (x.sub.length:Int))=true:=decide_eq_true zan
 rw [this]; rfl
theorem uj {M:List Nd} {x:PTerm} (hl:0 < x.sub.length) (hr:rightT (kid x 0)=true) (hf:(kid x 0).kind=11→inb (kid x 0).form M.length=true) {k f:Int} (hk:k ≠ 11):zaO.f (some M) x k f=some (decide (besV M (kid x 0) k f=2)):=by
 unfold zaO.f besV
 have hin:inb 0 x.sub.length=true:=un zan zan
 rw [vM hl,zar,chk,if_pos (by rw [hin]; simp)]
 by_cases h11:(kid x 0).kind=11
 ·have hl1:(kid x 0).sub.length=1:=(xM hr).2.2.2.2 h11
  have hne:¬ (kid x 0).kind=k:=by rw [h11]; exact fun q=>hk q.symm
  rw [if_neg hne,if_pos (by simp [h11])]
  rw [show zaN.f (at_ PTerm.z x.sub 0) k=some (decide ((kid (kid x 0) 0).kind=k)) from vM (x:=kid x 0) zan,zar]
  by_cases c:(kid (kid x 0) 0).kind=k
  ·rw [if_neg (by simp [h11,c]),chk,if_pos hin]
   have hi:=hf h11
   unfold zas.f
   simp only [Option.map_some,zar]
   show some (decide ((nd M (kid x 0).form).kind=f))=_
   by_cases q:(nd M (kid x 0).form).kind=f
   ·rw [if_pos ⟨h11,c,q⟩]; simp [q]
   ·rw [if_neg (fun z=>q z.2.2)]; simp [q]
  ·rw [if_pos (by simp [c]),if_neg (fun z=>c z.2.1)]; rfl
 ·rw [if_neg (by simp [h11]),zar,if_pos (by simp [h11])]
  by_cases c:(kid x 0).kind=k
  ·rw [if_pos c]; rfl
  ·rw [if_neg c,if_neg (fun z=>h11 z.1)]; rfl
end
section
open Gw
theorem bes_vals (M:List Nd) (p:PTerm) (k f:Int):besV M p k f=0∨besV M p k f=1∨besV M p k f=2:=by
 unfold besV; split
 ·exact .inr (.inl rfl)
 ·split
  ·exact .inr (.inr rfl)
  ·exact .inl rfl
section
variable {M:List Nd} {x:PTerm}
theorem kids {hr:rightT x=true}:(x.kind=3∨x.kind=12→x.sub.length=2)∧(x.kind=5∨x.kind=6∨x.kind=11→x.sub.length=1)∧(x.kind=9→x.sub.length=3):=by
 have h:=uo hr
 refine ⟨fun k=>?_,fun k=>?_,fun k=>?_⟩
 ·rcases k with k | k <;> rw [k] at h <;> simp [yD] at h <;> omega
 ·rcases k with k | k | k <;> rw [k] at h <;> simp [yD] at h <;> omega
 ·rw [k] at h; simp [yD] at h; omega
theorem row_iff:(rowV M x=1↔x.kind=3∧(kid x 0).kind=2)∧(rowV M x=2↔x.kind=3∧besV M (kid x 0) 2 5=2)∧(rowV M x=3↔(x.kind=5∨x.kind=6)∧(kid x 0).kind=4)∧(rowV M x=4↔(x.kind=5∨x.kind=6)∧besV M (kid x 0) 4 3=2) ∧
  (rowV M x=5↔x.kind=9∧((kid x 0).kind=7∨(kid x 0).kind=8))∧(rowV M x=6↔x.kind=9∧(besV M (kid x 0) 8 4=2∨besV M (kid x 0) 7 4=2))∧(rowV M x=7↔x.kind=12) ∧
  (rowV M x=8↔x.kind=11∧((kid x 0).kind=1∨(kid x 0).kind=3∨(kid x 0).kind=5∨(kid x 0).kind=6∨(kid x 0).kind=11))∧0 ≤ rowV M x∧rowV M x ≤ 8:=by
 have v25:=bes_vals M (kid x 0) 2 5
 have v43:=bes_vals M (kid x 0) 4 3
 have v74:=bes_vals M (kid x 0) 7 4
 have v84:=bes_vals M (kid x 0) 8 4
 have one : ∀ k f,(besV M (kid x 0) k f=1↔(kid x 0).kind=k):=fun k f=>by
  unfold besV
  by_cases h:(kid x 0).kind=k
  ·rw [if_pos h]; simp [h]
  ·rw [if_neg h]; constructor
   ·intro q; split at q <;> omega
   ·intro q; exact absurd q h
 have two : ∀ k f,besV M (kid x 0) k f=2→(kid x 0).kind=11∧(kid (kid x 0) 0).kind=k:=fun k f q=>by
  unfold besV at q
  split at q
  ·omega
  ·split at q
   ·rename_i z; exact ⟨z.1,z.2.1⟩
   ·omega
 have o25:=one 2 5; have o43:=one 4 3; have o74:=one 7 4; have o84:=one 8 4
 have t74:=two 7 4; have t84:=two 8 4
 by_cases k3:x.kind=3
 ·clear v43 v74 v84 o43 o74 o84 t74 t84
  have e:rowV M x=besV M (kid x 0) 2 5:=by unfold rowV; rw [if_pos k3]
  refine ⟨?_,?_,?_,?_,?_,?_,?_,?_,?_,?_⟩ <;> omega
 by_cases k56:x.kind=5∨x.kind=6
 ·clear v25 v74 v84 o25 o74 o84 t74 t84
  by_cases z:besV M (kid x 0) 4 3=0
  ·have e:rowV M x=0:=by unfold rowV; rw [if_neg k3,if_pos k56,if_pos z]
   refine ⟨?_,?_,?_,?_,?_,?_,?_,?_,?_,?_⟩ <;> omega
  ·have e:rowV M x=2 + besV M (kid x 0) 4 3:=by unfold rowV; rw [if_neg k3,if_pos k56,if_neg z]
   refine ⟨?_,?_,?_,?_,?_,?_,?_,?_,?_,?_⟩ <;> omega
 by_cases k9:x.kind=9
 ·clear v25 v43 o25 o43
  have t74:=fun q=>(t74 q).1
  have t84:=fun q=>(t84 q).1
  by_cases z:besV M (kid x 0) 7 4=0
  ·by_cases z8:besV M (kid x 0) 8 4=0
   ·have e:rowV M x=0:=by unfold rowV; rw [if_neg k3,if_neg k56,if_pos k9,if_neg (fun c=>c z),if_neg (fun c=>c z8)]
    refine ⟨?_,?_,?_,?_,?_,?_,?_,?_,?_,?_⟩ <;> omega
   ·have e:rowV M x=4 + besV M (kid x 0) 8 4:=by unfold rowV; rw [if_neg k3,if_neg k56,if_pos k9,if_neg (fun c=>c z),if_pos z8]
    refine ⟨?_,?_,?_,?_,?_,?_,?_,?_,?_,?_⟩ <;> omega
  ·have e:rowV M x=4 + besV M (kid x 0) 7 4:=by unfold rowV; rw [if_neg k3,if_neg k56,if_pos k9,if_pos z]
   refine ⟨?_,?_,?_,?_,?_,?_,?_,?_,?_,?_⟩ <;> omega
 clear v25 v43 v74 v84 o25 o43 o74 o84 t74 t84
 by_cases k12:x.kind=12
 ·have e:rowV M x=7:=by unfold rowV; rw [if_neg k3,if_neg k56,if_neg k9,if_pos k12]
  refine ⟨?_,?_,?_,?_,?_,?_,?_,?_,?_,?_⟩ <;> omega
 by_cases k11:x.kind=11
 ·by_cases z:(kid x 0).kind=1∨(kid x 0).kind=3∨(kid x 0).kind=5∨(kid x 0).kind=6∨(kid x 0).kind=11
  ·have e:rowV M x=8:=by unfold rowV; rw [if_neg k3,if_neg k56,if_neg k9,if_neg k12,if_pos k11,if_pos z]
   refine ⟨?_,?_,?_,?_,?_,?_,?_,?_,?_,?_⟩ <;> omega
  ·have e:rowV M x=0:=by unfold rowV; rw [if_neg k3,if_neg k56,if_neg k9,if_neg k12,if_pos k11,if_neg z]
   refine ⟨?_,?_,?_,?_,?_,?_,?_,?_,?_,?_⟩ <;> omega
 ·have e:rowV M x=0:=by unfold rowV; rw [if_neg k3,if_neg k56,if_neg k9,if_neg k12,if_neg k11]
  refine ⟨?_,?_,?_,?_,?_,?_,?_,?_,?_,?_⟩ <;> omega
theorem dec_of {p q:Prop} [Decidable p] [Decidable q] (h:p↔q):decide p=decide q:=by rw [Bool.eq_iff_iff,decide_eq_true_eq,decide_eq_true_eq]; exact h
theorem rules14 (hr:rightT x=true) (hf:(kid x 0).kind=11→inb (kid x 0).form M.length=true) :
  zaU.f (some M) x=some (decide (rowV M x=1))∧zaV.f (some M) x=some (decide (rowV M x=2))∧zaW.f (some M) x=some (decide (rowV M x=3))∧zaY.f (some M) x=some (decide (rowV M x=4)) ∧
  zba.f (some M) x=some (decide (rowV M x=5))∧zbb.f (some M) x=some (decide (rowV M x=6))∧zbc.f (some M) x=some (decide (rowV M x=7))∧zbd.f (some M) x=some (decide (rowV M x=8)):=by
 obtain ⟨l2,l1,l3⟩ := kids (hr:=hr)
 obtain ⟨r1,r2,r3,r4,r5,r6,r7,r8,_⟩ := row_iff (M:=M) (x:=x)
 have hk0:0 < x.sub.length→rightT (kid x 0)=true:=fun h=>kid_right hr (i:=0) h
 rw [dec_of r1,dec_of r2,dec_of r3,dec_of r4,dec_of r5,dec_of r6,dec_of r7,dec_of r8]
 refine ⟨?_,?_,?_,?_,?_,?_,?_,?_⟩
 ·unfold zaU.f
  by_cases k:x.kind=3
  ·rw [if_pos (by simpa using k),vM (by have:=l2 (.inl k); omega),zar]; simp [k]
  ·rw [if_neg (by simpa using k),zar]; simp [k]
 ·unfold zaV.f
  by_cases k:x.kind=3
  ·have hl:=l2 (.inl k)
   rw [if_pos (by simpa using k),uj zan (hk0 zan) hf zam,zar]; simp [k]
  ·rw [if_neg (by simpa using k),zar]; simp [k]
 ·unfold zaW.f zaQ.f
  rw [zar]
  by_cases k:x.kind=5∨x.kind=6
  ·have hl:=l1 zan
   have kb:((decide (x.kind=5)) || (decide (x.kind=6)))=true:=by simpa using k
   rw [kb,if_pos rfl,vM zan,zar]; simp [k]
  ·have kb:((decide (x.kind=5)) || (decide (x.kind=6)))=false:=by simpa using k
   rw [kb,if_neg zam,zar]; simp [k]
 ·unfold zaY.f zaQ.f
  rw [zar]
  by_cases k:x.kind=5∨x.kind=6
  ·have hl:=l1 zan
   have kb:((decide (x.kind=5)) || (decide (x.kind=6)))=true:=by simpa using k
   rw [kb,if_pos rfl,uj zan (hk0 zan) hf zam,zar]; simp [k]
  ·have kb:((decide (x.kind=5)) || (decide (x.kind=6)))=false:=by simpa using k
   rw [kb,if_neg zam,zar]; simp [k]
 ·unfold zba.f zaS.f
  by_cases k:x.kind=9
  ·have hl:=l3 k
   rw [vM zan,zar,if_pos (by simpa using k),vM zan,zar]
   by_cases c7:(kid x 0).kind=7
   ·rw [if_neg (by simp [c7]),zar,zar]; simp [k,c7]
   ·rw [if_pos (by simp [k,c7]),zar,zar]; simp [k,c7]
  ·have hh : ∃ b,zaN.f x 8=some b:=by
    unfold zaN.f
    by_cases hl:0 < x.sub.length
    ·rw [chk,if_pos (by rw [show inb 0 x.sub.length=true from un zan zan]; simp)]; exact ⟨_,rfl⟩
    ·rw [chk,if_pos (by rw [show decide (0 < (x.sub.length:Int))=false from decide_eq_false zan]; rfl)]; exact ⟨_,rfl⟩
   obtain ⟨b,hb⟩ := hh
   rw [hb,zar,if_neg (by simpa using k),zar,if_neg (by simp [k]),zar,zar]; simp [k]
 ·unfold zbb.f zaT.f
  by_cases k:x.kind=9
  ·have hl:=l3 k
   rw [uj zan (hk0 zan) hf zam,zar]
   by_cases c8:besV M (kid x 0) 8 4=2
   ·rw [if_neg (by simp [c8]),zar,zar]; simp [k,c8]
   ·rw [if_pos (by simp [k,c8]),uj zan (hk0 zan) hf zam,zar,zar]; simp [k,c8]
  ·have hh : ∃ b,zaO.f (some M) x 8 4=some b:=by
    by_cases hl:0 < x.sub.length
    ·exact ⟨_,uj hl (hk0 hl) hf zam⟩
    ·unfold zaO.f zaN.f
     have d0:decide (0 < (x.sub.length:Int))=false:=decide_eq_false zan
     rw [d0]
     exact ⟨false,rfl⟩
   obtain ⟨b,hb⟩ := hh
   rw [hb,zar,if_neg (by simp [k]),zar,zar]; simp [k]
 ·rfl
 ·unfold zbd.f
  by_cases k:x.kind=11
  ·have hl:=l1 zan
   rw [if_neg (by simpa using k),chk,if_pos (by rw [hl]; rfl),show at_ PTerm.z x.sub 0=kid x 0 from rfl]
   by_cases c1:(kid x 0).kind=1
   ·simp [k,c1]
   by_cases c3:(kid x 0).kind=3
   ·simp [k,c3]
   by_cases c5:(kid x 0).kind=5
   ·simp [k,c5]
   by_cases c6:(kid x 0).kind=6
   ·simp [k,c6]
   by_cases c11:(kid x 0).kind=11
   ·simp [k,c11]
   ·simp [k,c1,c3,c5,c6,c11]
  ·rw [if_pos (by simpa using k)]; simp [k]
theorem fits14 (hr:rightT x=true) (hf:(kid x 0).kind=11→inb (kid x 0).form M.length=true):zbA.f (some M) x=some (if rowV M x=0 then (8,false) else (rowV M x - 1,true)):=by
 obtain ⟨e1,e2,e3,e4,e5,e6,e7,e8⟩ := rules14 (M:=M) hr hf
 have hb:=(row_iff (M:=M) (x:=x)).2.2.2.2.2.2.2.2
 unfold zbA.f
 rw [e1,e2,e3,e4,e5,e6,e7,e8]
 simp only [zar]
 generalize rowV M x=r at *
 have:r=0∨r=1∨r=2∨r=3∨r=4∨r=5∨r=6∨r=7∨r=8:=by omega
 rcases this with rfl | rfl | rfl | rfl | rfl | rfl | rfl | rfl | rfl <;> rfl
end
end
section
open Gw
theorem at_or {l:List PTerm} (i:Int):at_ PTerm.z l i ∈ l∨at_ PTerm.z l i=PTerm.z:=by
 unfold at_
 rw [List.getD_eq_getElem?_getD]
 by_cases h:i.toNat < l.length
 ·left; rw [List.getElem?_eq_getElem h]; exact List.getElem_mem h
 ·right; rw [List.getElem?_eq_none zan]; rfl
end
end Go.Proofs.YtmggdbbmmkkplaaGreatDoor
