/- Texts put together. -/
import Derived.Test.YtmggdbbmmkkplaaGreatDoorMRErases3
import Derived.Laws.BytesArg
set_option linter.unusedVariables false
set_option linter.unusedSimpArgs false
namespace Go.Proofs.YtmggdbbmmkkplaaGreatDoor
section
open Gw Go.RowKit
set_option maxHeartbeats 4000000
set_option maxRecDepth 20000
variable {A:Nat→Prop} {N:Oth} {w:World}
theorem formula_From_st {a0:List Nd} {s_0:SlV} (S:St A N w w [] [fS 4 Nd.C s_0 a0]) {r:Tb × Int} (H:zck.f a0=some r) :
  Calls PP F_formula_From #[s_0.v] w <| Rt fun v w'=>(∃ ao0:Option Addr,v = .tuple #[.pointer ao0,.int .i64 r.2]∧St A N w w' [oT ao0 r.1] []):=by
 unfold zck.f at H
 refine zz (n:=35) Tryz.func64 rfl rfl zaK (zb (za ?_))
 replace S:=S.add (Ext.refl _) (oT.nil _) (fun _ x=>x.elim)
 refine wd (xd rfl) (wd (zi rfl) (zd (zb (za ?_))))
 obtain ⟨r1,er1,H⟩ := zp H
 obtain ⟨_,_,T,bk⟩ := S.calln 0 ((.nil))
 refine zB (zy jt) zaI (jz T er1) ?_
 rintro _ w2 ⟨a4,rfl,S2⟩
 replace S:=bk _ _ _ _ S2 rfl
 refine wd (xd rfl) (zd (zb (zb (za (wd (zN rfl) (wd (xL xe rfl (S.rd 0)) (wd (zj rfl) (zd ?_))))))))
 obtain ⟨o5,e5,Ho5⟩ := zp H
 clear H
 refine xT ([2,3,5,6,7,8] ++ rg 12 22) (fun fr W => ∃ s5:Tb,o5 = .inl s5∧St A N w W [oT a4 s5,oT none none] [fS 4 Nd.C s_0 a0]) ?_ ?_
 ·refine zM ?_
  refine xN (α:=Nat × Int × Tb) ([2,3,5,6,7,8] ++ rg 12 22) (fun x fr W=>(x.1:Int)=(a0.length:Int) - x.2.1∧0 ≤ x.2.1∧forN (fun i s=>zck.b0 a0 i s) x.1 x.2.1 x.2.2=some o5∧fr 12 = .int .i64 x.2.1∧St A N w W [oT a4 (x.2.2),oT none none] [fS 4 Nd.C s_0 a0]) (fun x=>x.1) (((a0.length:Int) - 0).toNat,0,r1) ⟨(by dsimp only; have hle:=Int.natCast_nonneg (a0.length); omega),(Int.le_refl _),(by dsimp only; exact e5),rfl,S⟩ ?_
  rintro ⟨m5,i5,x5_0⟩ g5 u5 ⟨hm5,hl5,e5,q5_i,S⟩
  try dsimp only at hm5
  try dsimp only at hl5
  try dsimp only at e5
  try dsimp only at S
  try dsimp only at q5_i
  refine zb (za (wd (xw q5_i rfl) (zd (zb ?_))))
  refine zI rfl (fun hc6=>?_) (fun hc6=>?_)
  rotate_left
  ·refine x4 ?_
   have hge:(a0.length:Int) ≤ i5:=Int.not_lt.1 (of_decide_eq_false hc6)
   obtain rfl:m5=0:=by omega
   replace e5:=zap e5
   exact ⟨rfl,df,x5_0,e5,S⟩
  refine zw ?_
  have hlt5:i5 < (a0.length:Int):=of_decide_eq_true hc6
  obtain ⟨m5,rfl⟩ : ∃ m,m5=m + 1:=⟨m5 - 1,by omega⟩
  obtain ⟨q5,H,e5⟩ := zaq e5
  unfold zck.b0 at H
  try dsimp only at H
  have hb5:=(S.len 0)
  refine zb ?_
  refine zM (zb (za (wd (zj q5_i) (wd (xf xe rfl q5_i (S.rd 0) (And.intro (show 0 ≤ i5 by omega) (show i5 < (a0.length:Int) from hlt5)).1 (And.intro (show 0 ≤ i5 by omega) (show i5 < (a0.length:Int) from hlt5)).2) (wd (zq yV rfl ((S.rd 0).at (yB Nd.z (And.intro (show 0 ≤ i5 by omega) (show i5 < (a0.length:Int) from hlt5)))) (Nd.len _)) ?_)))))
  refine zP ze_Nd zaI fun b9 w8 hw8=>?_
  replace S:=S.new hw8
  refine wd (zi rfl) ?_
  refine zU yV rfl rfl (S.blk 0) (Nd.len _) (by rw [Nd.len]; decide) (Nd.one _) (xg (Nd.len _)) fun w10 B hw10 zw10=>?_
  replace S:=S.store 0 B hw10
  refine zd (zb (za (wd (zC rfl) (wd (zq yV rfl ((S.blk 0).all _ (Nd.len _)) (Nd.len _)) ?_))))
  obtain ⟨r11,er11,H⟩ := zp H
  replace S:=S.front 1
  obtain ⟨_,_,T,bk⟩ := S.calln 1 ((.nil))
  refine zB (zy ux) zaI (kj T er11) ?_
  rintro _ w12 ⟨rfl,S2⟩
  replace S:=bk _ _ _ _ S2 rfl
  refine wd (xb rfl) (wd (zo rfl rfl) (wd (zo rfl rfl) (wd (zi rfl) (wd (zi rfl) (zd (zb (zb (za ?_))))))))
  refine wd (zj rfl) (wd (zS rfl rfl) (wd (zA rfl) ?_))
  refine wg (fun hg=>zj rfl) ?_
  refine wg (fun hg=>zj rfl) ?_
  refine wg (fun hg=>xt (zn hg) (zn hg)) (wd (z7 rfl (fun hp=>(zn (xr hp)))) (zd ?_))
  refine zI rfl (fun hc14=>?_) (fun hc14=>?_)
  ·replace H:=if_t hc14 H
   refine za (wd (zi rfl) (zd (zb (za (wd (zj rfl) (wd (xt rfl rfl) (zd ?_)))))))
   refine zI rfl (fun hc15=>?_) (fun hc15=>?_)
   ·replace H:=if_t hc15 H
    refine zb (za (wd (zj rfl) ?_))
    replace S:=S.add (Ext.refl _) (oT.nil _) (fun _ x=>x.elim)
    refine wd (xd rfl) (wd (zi rfl) (zd (zt ?_)))
    refine ⟨_,(xB (zg rfl) (zg rfl)),?_⟩
    replace S:=S.arr [0] []
    obtain rfl:=zaM H
    obtain rfl:=e5
    obtain rfl:=v7 Ho5
    exact ⟨none,rfl,S⟩
   replace H:=if_f hc15 H
   refine zw (za (wd (xp q5_i rfl (c:=i5 + 1) rfl zaJ zaJ) (wd (zj rfl) (zd ?_))))
   replace S:=S.arr [0,2] [0]
   obtain rfl:=zaM H
   exact ⟨rfl,df,(m5,i5 + 1,r11.1),⟨(by dsimp only; omega),(by dsimp only; omega),e5,rfl,S⟩,by dsimp only; omega⟩
  ·replace H:=if_f hc14 H
   refine zw (zb (za (wd (zj rfl) (wd (xt rfl rfl) (zd ?_)))))
   refine zI rfl (fun hc16=>?_) (fun hc16=>?_)
   ·replace H:=if_t hc16 H
    refine zb (za (wd (zj rfl) ?_))
    replace S:=S.add (Ext.refl _) (oT.nil _) (fun _ x=>x.elim)
    refine wd (xd rfl) (wd (zi rfl) (zd (zt ?_)))
    refine ⟨_,(xB (zg rfl) (zg rfl)),?_⟩
    replace S:=S.arr [0] []
    obtain rfl:=zaM H
    obtain rfl:=e5
    obtain rfl:=v7 Ho5
    exact ⟨none,rfl,S⟩
   replace H:=if_f hc16 H
   refine zw (za (wd (xp q5_i rfl (c:=i5 + 1) rfl zaJ zaJ) (wd (zj rfl) (zd ?_))))
   replace S:=S.arr [0,2] [0]
   obtain rfl:=zaM H
   exact ⟨rfl,df,(m5,i5 + 1,r11.1),⟨(by dsimp only; omega),(by dsimp only; omega),e5,rfl,S⟩,by dsimp only; omega⟩
 rintro g17 u18 ⟨s5,rfl,S⟩
 have H:=Ho5
 dsimp only [aft] at H
 refine zb (za (wd (zC rfl) (wd (xd rfl) (wd (zi rfl) (zd (zt ?_))))))
 refine ⟨_,(xB (zg rfl) (zg rfl)),?_⟩
 replace S:=S.arr [0] []
 obtain rfl:=zaM H
 exact ⟨a4,rfl,S⟩
theorem ref03_Ints_st {a0:List Int} {s_0:SlV} {a1:List Int} {s_1:SlV} (S:St A N w w [] [fS 1 IC s_0 a0,fS 1 IC s_1 a1]) {r:Bool} (H:zcl.f a0 a1=some r) :
  Calls PP F_ref03_Ints #[s_0.v,s_1.v] w <| Rt fun v w'=>(v = .bool r∧St A N w w' [] []):=by
 unfold zcl.f at H
 refine zz (n:=26) Tryz.func21 rfl rfl zaK (zb (za (wd (zh rfl) (zd (zb (zb (za (wd (zN rfl) ?_))))))))
 refine wd (xL xK rfl (S.rd 0)) (wd (zN rfl) (wd (xL xK rfl (S.rd 1)) (wd (xt rfl rfl) (zd ?_))))
 refine zI rfl (fun hc1=>?_) (fun hc1=>?_)
 ·replace H:=if_t hc1 H
  refine zb (za (wd (zh rfl) (zd (zt ?_))))
  refine ⟨_,(zO (zg rfl)),?_⟩
  replace S:=S.arr [] []
  obtain rfl:=zaM H
  exact ⟨rfl,S⟩
 replace H:=if_f hc1 H
 refine zw (zb (zb (za (wd (zi rfl) (zd ?_)))))
 obtain ⟨o2,e2,Ho2⟩ := zp H
 clear H
 refine xT ([4,5] ++ rg 11 15) (fun fr W => ∃ s2:Unit,o2 = .inl s2∧St A N w W [] [fS 1 IC s_0 a0,fS 1 IC s_1 a1]) ?_ ?_
 ·refine zM ?_
  refine xN (α:=Nat × Int × Unit) ([4,5] ++ rg 11 15) (fun x fr W=>(x.1:Int)=(a0.length:Int) - x.2.1∧0 ≤ x.2.1∧forN (fun i s=>zcl.b0 a1 a0 i) x.1 x.2.1 x.2.2=some o2∧fr 5 = .int .i64 x.2.1∧St A N w W [] [fS 1 IC s_0 a0,fS 1 IC s_1 a1]) (fun x=>x.1) (((a0.length:Int) - 0).toNat,0,()) ⟨(by dsimp only; have hle:=Int.natCast_nonneg (a0.length); omega),(Int.le_refl _),(by dsimp only; exact e2),rfl,S⟩ ?_
  rintro ⟨m2,i2,_⟩ g2 u2 ⟨hm2,hl2,e2,q2_i,S⟩
  try dsimp only at hm2
  try dsimp only at hl2
  try dsimp only at e2
  try dsimp only at S
  try dsimp only at q2_i
  refine zb (zb (za (wd (zj q2_i) (wd (zN rfl) (wd (xL xK rfl (S.rd 0)) (wd (xw rfl rfl) (zd ?_)))))))
  refine zI rfl (fun hc3=>?_) (fun hc3=>?_)
  rotate_left
  ·refine x4 ?_
   have hge:(a0.length:Int) ≤ i2:=Int.not_lt.1 (of_decide_eq_false hc3)
   obtain rfl:m2=0:=by omega
   replace e2:=zap e2
   exact ⟨rfl,df,(),e2,S⟩
  refine zw ?_
  have hlt2:i2 < (a0.length:Int):=of_decide_eq_true hc3
  obtain ⟨m2,rfl⟩ : ∃ m,m2=m + 1:=⟨m2 - 1,by omega⟩
  obtain ⟨q2,H,e2⟩ := zaq e2
  unfold zcl.b0 at H
  try dsimp only at H
  have hb2:=(S.len 0)
  refine zb ?_
  refine zM (zb ?_)
  refine xQ 8 (Ext u2) hmix zaL zaL (Ext.drawn _) (zx (fun v K=>zN rfl) (zx (fun v K=>zj q2_i) (zx (fun v K=>xf xK rfl rfl ((S.ext K).rd 0) (And.intro (show 0 ≤ i2 by omega) (show i2 < (a0.length:Int) from hlt2)).1 (And.intro (show 0 ≤ i2 by omega) (show i2 < (a0.length:Int) from hlt2)).2) (zx (fun v K=>zm xD rfl (((S.ext K).rd 0).one (yB (0:Int) (And.intro (show 0 ≤ i2 by omega) (show i2 < (a0.length:Int) from hlt2))) rfl)) (zx (fun v K=>zN rfl) ?_)))))
  refine zx (fun v K=>zj q2_i) ?_
  obtain ⟨hi5,H⟩ := zV H
  refine zx (fun v K=>xf xK rfl rfl ((S.ext K).rd 1) (zD hi5).1 (zD hi5).2) (zx (fun v K=>zm xD rfl (((S.ext K).rd 1).one (yB (0:Int) (zD hi5)) rfl)) ?_)
  refine yH fun w6 K=>?_
  replace S:=S.ext K
  clear K
  refine wd (xt rfl rfl) (zd ?_)
  refine zI rfl (fun hc7=>?_) (fun hc7=>?_)
  ·replace H:=if_t hc7 H
   refine zb (za (wd (zh rfl) (zd (zt ?_))))
   refine ⟨_,(zO (zg rfl)),?_⟩
   replace S:=S.arr [] []
   obtain rfl:=zaM H
   obtain rfl:=e2
   obtain rfl:=v7 Ho2
   exact ⟨rfl,S⟩
  replace H:=if_f hc7 H
  refine zw (za (wd (zj q2_i) (wd (xp rfl rfl (c:=i2 + 1) rfl zaJ zaJ) (wd (zi rfl) (zd ?_)))))
  obtain rfl:=zaM H
  exact ⟨rfl,df,(m2,i2 + 1,()),⟨(by dsimp only; omega),(by dsimp only; omega),e2,rfl,S⟩,by dsimp only; omega⟩
 rintro g8 u9 ⟨s2,rfl,S⟩
 have H:=Ho2
 dsimp only [aft] at H
 refine zb (za (wd (zh rfl) (zd (zt ?_))))
 refine ⟨_,(zO (zg rfl)),?_⟩
 replace S:=S.arr [] []
 obtain rfl:=zaM H
 exact ⟨rfl,S⟩
theorem ref03_T_Has_st {a0:Tb} {a_0:Option Addr} {a1:Int} (S:St A N w w [] [oR a_0 a0]) {r:Bool} (H:zcm.f a0 a1=some r) :
  Calls PP F_ref03_T_Has #[.pointer a_0,.int .i64 a1] w <| Rt fun v w'=>(v = .bool r∧St A N w w' [] []):=by
 unfold zcm.f at H
 refine zz (n:=16) Tryz.func31 rfl rfl zaK (zb (za (wd (zh rfl) (zd (zb (za (wd (zj rfl) ?_)))))))
 refine wd (uF rfl rfl) (wd (zA rfl) ?_)
 refine wg (fun hg=>zj rfl) ?_
 refine wg (fun hg=>zC rfl) ?_
 obtain ⟨ht1,H⟩ := zV H
 obtain ⟨p2,s3,hp4,S⟩ := S.seeR 0 ht1
 replace S:=S
 refine wg (fun hg=>zW (((zn hg):_=Value.pointer a_0).trans (congrArg Value.pointer hp4))) ?_
 refine wg (fun hg=>zf ue (zn hg) (o':=0) rfl) ?_
 refine wg (fun hg=>zm xC (zn hg) ((S.blkZ 0).cell (RTab.get_n _))) ?_
 refine wg (fun hg=>xL xe (zn hg) (S.rd 1)) ?_
 refine wg (fun hg=>xw (zn hg) (zn hg)) (wd (z7 rfl (fun hp=>(zn (xr hp)))) (wd (zh rfl) ?_))
 replace S:=S.zs [2]
 refine zd (zt ?_)
 refine ⟨_,(zO (zg rfl)),?_⟩
 replace S:=S.arr [] []
 obtain rfl:=zaM H
 exact ⟨rfl,S⟩
theorem ref03_T_Find_st {a0:Tb} {a_0:Option Addr} {a1:Nd} (S:St A N w w [] [oR a_0 a0]) {r:Int × Bool} (H:zcn.f a0 a1=some r) :
  Calls PP F_ref03_T_Find #[.pointer a_0,.agg (Nd.C a1).toArray] w <| Rt fun v w'=>(v = .tuple #[.int .i64 r.1,.bool r.2]∧St A N w w' [] []):=by
 unfold zcn.f at H
 refine zz (n:=26) Tryz.func161 rfl rfl zaK (zb (za ?_))
 refine zJ rfl zaI fun b2 w1 hw1=>?_
 replace S:=S.new hw1
 refine wd (zi rfl) (wd (zh rfl) (zd (zb (zb (za (wd (zi rfl) (zd ?_)))))))
 obtain ⟨ht3,H⟩ := zV H
 obtain ⟨o4,e4,Ho4⟩ := zp H
 clear H
 refine xT (rg 4 22) (fun fr W => ∃ s4:Unit,o4 = .inl s4∧St A N w W [oB b2 T_Nd (Nd.C a1)] [oR a_0 a0]) ?_ ?_
 ·refine zM ?_
  refine xN (α:=Nat × Int × Unit) (rg 4 22) (fun x fr W=>(x.1:Int)=((a0.getD []).length:Int) - x.2.1∧0 ≤ x.2.1∧forN (fun i s=>zcn.b0 a0 a1 i) x.1 x.2.1 x.2.2=some o4∧fr 6 = .int .i64 x.2.1∧St A N w W [oB b2 T_Nd (Nd.C a1)] [oR a_0 a0]) (fun x=>x.1) ((((a0.getD []).length:Int) - 0).toNat,0,()) ⟨(by dsimp only; have hle:=Int.natCast_nonneg ((a0.getD []).length); omega),(Int.le_refl _),(by dsimp only; exact e4),rfl,S⟩ ?_
  rintro ⟨m4,i4,_⟩ g4 u4 ⟨hm4,hl4,e4,q4_i,S⟩
  try dsimp only at hm4
  try dsimp only at hl4
  try dsimp only at e4
  try dsimp only at S
  try dsimp only at q4_i
  refine zb (zb (za (wd (zj q4_i) (wd (zC rfl) ?_))))
  obtain ⟨p5,s6,hp7,S⟩ := S.seeR 0 ht3
  replace S:=S
  refine wd (zW (congrArg Value.pointer hp7)) (wd (zf ue rfl (o':=0) rfl) (wd (zm xC rfl ((S.blkZ 0).cell (RTab.get_n _))) (wd (xL xe rfl (S.rd 1)) (wd (xw rfl rfl) ?_))))
  replace S:=S.zs [2]
  refine zd ?_
  refine zI rfl (fun hc8=>?_) (fun hc8=>?_)
  rotate_left
  ·refine x4 ?_
   have hge:((a0.getD []).length:Int) ≤ i4:=Int.not_lt.1 (of_decide_eq_false hc8)
   obtain rfl:m4=0:=by omega
   replace e4:=zap e4
   exact ⟨rfl,df,(),e4,S⟩
  refine zw ?_
  have hlt4:i4 < ((a0.getD []).length:Int):=of_decide_eq_true hc8
  obtain ⟨m4,rfl⟩ : ∃ m,m4=m + 1:=⟨m4 - 1,by omega⟩
  obtain ⟨q4,H,e4⟩ := zaq e4
  unfold zcn.b0 at H
  try dsimp only at H
  have hb4:=(S.lenRZ 0)
  refine zb ?_
  refine zM (zb ?_)
  refine xQ 8 (Ext u4) hmix zaL zaL (Ext.drawn _) (zx (fun v K=>zC rfl) ?_)
  obtain ⟨p9,s10,hp11,S⟩ := S.seeR 0 ht3
  replace S:=S
  refine zx (fun v K=>zW (congrArg Value.pointer hp11)) (zx (fun v K=>zf ue rfl (o':=0) rfl) (zx (fun v K=>zm xC rfl (((S.ext K).blkZ 0).cell (RTab.get_n _))) (zx (fun v K=>zj q4_i) (zx (fun v K=>xf xe rfl rfl ((S.ext K).rd 1) (And.intro (show 0 ≤ i4 by omega) (show i4 < ((a0.getD []).length:Int) from hlt4)).1 (And.intro (show 0 ≤ i4 by omega) (show i4 < ((a0.getD []).length:Int) from hlt4)).2) (zx (fun v K=>zq yV rfl (((S.ext K).rd 1).at (yB Nd.z (And.intro (show 0 ≤ i4 by omega) (show i4 < ((a0.getD []).length:Int) from hlt4)))) (Nd.len _)) ?_)))))
  refine zx (fun v K=>zq yV rfl (((S.ext K).blk 0).all _ (Nd.len _)) (Nd.len _)) ?_
  refine yH fun w13 K=>?_
  replace S:=S.ext K
  clear K
  refine wd (does_eqv eg_Nd (eq_Nd _ _) zaI rfl rfl) ?_
  replace S:=S.zs [2]
  refine zd ?_
  refine zI rfl (fun hc14=>?_) (fun hc14=>?_)
  ·replace H:=if_t hc14 H
   refine zb (za (wd (zj q4_i) (wd (zi rfl) (wd (zh rfl) (zd (zt ?_))))))
   refine ⟨_,(xB (zg rfl) (zg rfl)),?_⟩
   replace S:=S.arr [] []
   obtain rfl:=zaM H
   obtain rfl:=e4
   obtain rfl:=v7 Ho4
   exact ⟨rfl,S⟩
  replace H:=if_f hc14 H
  refine zw (za (wd (zj q4_i) (wd (xp rfl rfl (c:=i4 + 1) rfl zaJ zaJ) (wd (zi rfl) (zd ?_)))))
  obtain rfl:=zaM H
  exact ⟨rfl,df,(m4,i4 + 1,()),⟨(by dsimp only; omega),(by dsimp only; omega),e4,rfl,S⟩,by dsimp only; omega⟩
 rintro g15 u16 ⟨s4,rfl,S⟩
 have H:=Ho4
 dsimp only [aft] at H
 refine zb (za (wd (zi rfl) (wd (zh rfl) (zd (zt ?_)))))
 refine ⟨_,(xB (zg rfl) (zg rfl)),?_⟩
 replace S:=S.arr [] []
 obtain rfl:=zaM H
 exact ⟨rfl,S⟩
theorem ref03_T_Put_st {a0:Tb} {a_0:Option Addr} {a1:Nd} (S:St A N w w [oR a_0 a0] []) {r:Tb × Int × Int} (H:zco.f a0 a1=some r) :
  Calls PP F_ref03_T_Put #[.pointer a_0,.agg (Nd.C a1).toArray] w <| Rt fun v w'=>(v = .tuple #[.int .i64 r.2.1,.int .i64 r.2.2]∧St A N w w' [oR a_0 r.1] []):=by
 unfold zco.f at H
 refine zz (n:=90) Tryz.func99 rfl rfl zaK (zb (za ?_))
 refine zJ rfl zaI fun b2 w1 hw1=>?_
 replace S:=S.new hw1
 refine wd (zi rfl) (wd (zi rfl) (zd (zb (zb (za (wd (zf fl_Nd_kind rfl (o':=0) rfl) (wd (zm jd rfl ((S.blk 0).cell (Nd.get_kind _))) (zd ?_))))))))
 obtain ⟨o3,e3,Ho3⟩ := zp H
 replace H:=e3; clear e3
 refine xT ([4,5] ++ rg 10 50) (fun fr W => ∃ s3:Tb,o3 = .inl s3∧St A N w W [oB b2 T_Nd (Nd.C a1),oR a_0 s3] []) ?_ ?_
 ·refine zM (zb (za (wd (zS rfl rfl) (wd (zh rfl) (zd ?_)))))
  refine zI rfl (fun hc4=>?_) (fun hc4=>?_)
  ·replace H:=if_t hc4 H
   refine zb (zb (za (wd (zf zaj rfl (o':=2) rfl) (wd (zm xD rfl ((S.blk 0).cell (Nd.get_l _))) (wd (xt rfl rfl) (wd (zA rfl) ?_))))))
   refine wg (fun hg=>zf zak rfl (o':=3) rfl) ?_
   refine wg (fun hg=>zm xD (zn hg) ((S.blk 0).cell (Nd.get_r _))) ?_
   refine wg (fun hg=>xt (zn hg) rfl) (wd (xy rfl (fun hp=>(zn (xr hp)))) (zd ?_))
   refine zI rfl (fun hc5=>?_) (fun hc5=>?_)
   ·replace H:=if_t hc5 H
    refine zb (za (wd (zi rfl) (wd (zi rfl) (zd (zt ?_)))))
    refine ⟨_,(xB (zg rfl) (zg rfl)),?_⟩
    replace S:=S.arr [1] []
    obtain rfl:=zaM H
    obtain rfl:=v7 Ho3
    exact ⟨rfl,S⟩
   replace H:=if_f hc5 H
   refine zw (zb (za (wd (zf uZ rfl (o':=1) rfl) (wd (zm xu rfl ((S.blk 0).cell (Nd.get_name _))) ?_))))
   obtain ⟨r6,er6,H⟩ := zp H
   obtain ⟨_,_,T,bk⟩ := S.calln 0 ((.nil))
   refine zB (zy ca_ref03_Word) zaI (ref03_Word_st T er6) ?_
   rintro _ w7 ⟨rfl,S2⟩
   replace S:=bk _ _ _ _ S2 rfl
   refine wd (xj rfl) (zd ?_)
   refine zI rfl (fun hc9=>?_) (fun hc9=>?_)
   ·replace H:=if_t hc9 H
    refine zb (za (wd (zi rfl) (wd (zi rfl) (zd (zt ?_)))))
    refine ⟨_,(xB (zg rfl) (zg rfl)),?_⟩
    replace S:=S.arr [1] []
    obtain rfl:=zaM H
    obtain rfl:=v7 Ho3
    exact ⟨rfl,S⟩
   replace H:=if_f hc9 H
   refine zw ?_
   obtain rfl:=zaM H
   exact ⟨rfl,df,a0,rfl,S⟩
  ·replace H:=if_f hc4 H
   refine zb (za (wd (zS rfl rfl) (wd (zh rfl) (zd ?_))))
   refine zI rfl (fun hc10=>?_) (fun hc10=>?_)
   ·replace H:=if_t hc10 H
    refine zb (za (wd (zf uZ rfl (o':=1) rfl) (wd (zm xu rfl ((S.blk 0).cell (Nd.get_name _))) (wd (uz rfl rfl) (wd (zA rfl) ?_)))))
    refine wg (fun hg=>zf zaj rfl (o':=2) rfl) ?_
    refine wg (fun hg=>zm xD (zn hg) ((S.blk 0).cell (Nd.get_l _))) ?_
    refine wg (fun hg=>xt (zn hg) rfl) (wd (xy rfl (fun hp=>(zn (xr hp)))) (wd (zA rfl) ?_))
    refine wg (fun hg=>zf zak rfl (o':=3) rfl) ?_
    refine wg (fun hg=>zm xD (zn hg) ((S.blk 0).cell (Nd.get_r _))) ?_
    refine wg (fun hg=>xt (zn hg) rfl) (wd (xy rfl (fun hp=>(zn (xr hp)))) (zd ?_))
    refine zI rfl (fun hc11=>?_) (fun hc11=>?_)
    ·replace H:=if_t hc11 H
     refine zb (za (wd (zi rfl) (wd (zi rfl) (zd (zt ?_)))))
     refine ⟨_,(xB (zg rfl) (zg rfl)),?_⟩
     replace S:=S.arr [1] []
     obtain rfl:=zaM H
     obtain rfl:=v7 Ho3
     exact ⟨rfl,S⟩
    replace H:=if_f hc11 H
    refine zw ?_
    obtain rfl:=zaM H
    exact ⟨rfl,df,a0,rfl,S⟩
   ·replace H:=if_f hc10 H
    refine zb (zb (za (wd (zS rfl rfl) (wd (zh rfl) (zd ?_)))))
    obtain ⟨o12,e12,Ho12⟩ := zp H
    replace H:=e12; clear e12
    refine xT [39,41,42] (fun fr W=>fr 39 = .bool o12∧St A N w W [oB b2 T_Nd (Nd.C a1),oR a_0 a0] []) ?_ ?_
    ·refine zI rfl (fun hc13=>?_) (fun hc13=>?_)
     ·replace H:=if_t hc13 H
      refine zw ?_
      obtain rfl:=zaM H
      exact ⟨rfl,df,rfl,S⟩
     ·replace H:=if_f hc13 H
      refine zb (za (wd (zS rfl rfl) (wd (zh rfl) (zd ?_))))
      refine zI rfl (fun hc14=>?_) (fun hc14=>?_)
      ·replace H:=if_t hc14 H
       refine zw ?_
       obtain rfl:=zaM H
       exact ⟨rfl,df,rfl,S⟩
      ·replace H:=if_f hc14 H
       refine za (wd (zS rfl rfl) (wd (zh rfl) (zd ?_)))
       obtain rfl:=zaM H
       exact ⟨rfl,df,rfl,S⟩
    rintro g15 u16 ⟨p12_39,S⟩
    have H:=Ho12
    refine zI p12_39 (fun hc17=>?_) (fun hc17=>?_)
    rotate_left
    ·replace H:=if_f hc17 H
     refine zb (za (wd (zi rfl) (wd (zi rfl) (zd (zt ?_)))))
     refine ⟨_,(xB (zg rfl) (zg rfl)),?_⟩
     replace S:=S.arr [1] []
     obtain rfl:=zaM H
     obtain rfl:=v7 Ho3
     exact ⟨rfl,S⟩
    replace H:=if_t hc17 H
    refine zb (za (wd (zf uZ rfl (o':=1) rfl) (wd (zm xu rfl ((S.blk 0).cell (Nd.get_name _))) (wd (uz rfl rfl) (wd (zA rfl) ?_)))))
    refine wg (fun hg=>zC rfl) ?_
    refine wg (fun hg=>zf zaj rfl (o':=2) rfl) ?_
    refine wg (fun hg=>zm xD (zn hg) ((S.blk 0).cell (Nd.get_l _))) ?_
    obtain ⟨r18,er18,H⟩ := zp H
    refine xW (j:=3) (pol:=false) rfl rfl rfl zaI (fun hg=>zK ca_ref03_T_Has (zQ (zn hg) (zQ (zn hg) rfl))) zaI (fun hg=>(have ⟨M,SS⟩ := S.lend ((.o 1 rfl .nil)); quiet (ref03_T_Has_st SS (if_t (by simpa using hg) er18)) (fun v w' h=>⟨h.1,_,_,h.2⟩))) fun w19 hw19=>?_
    replace S:=S.ext hw19
    refine wg (fun hg=>xj (zn hg)) (wd (xy rfl (fun hp=>(zn (xr hp)))) (wd (zA rfl) ?_))
    refine wg (fun hg=>zC rfl) ?_
    refine wg (fun hg=>zf zak rfl (o':=3) rfl) ?_
    refine wg (fun hg=>zm xD (zn hg) ((S.blk 0).cell (Nd.get_r _))) ?_
    obtain ⟨r20,er20,H⟩ := zp H
    refine xW (j:=10) (pol:=false) rfl rfl rfl zaI (fun hg=>zK ca_ref03_T_Has (zQ (zn hg) (zQ (zn hg) rfl))) zaI (fun hg=>(have ⟨M,SS⟩ := S.lend ((.o 1 rfl .nil)); quiet (ref03_T_Has_st SS (if_t (by simpa using hg) er20)) (fun v w' h=>⟨h.1,_,_,h.2⟩))) fun w21 hw21=>?_
    replace S:=S.ext hw21
    refine wg (fun hg=>xj (zn hg)) (wd (xy rfl (fun hp=>(zn (xr hp)))) (zd ?_))
    refine zI rfl (fun hc22=>?_) (fun hc22=>?_)
    ·replace H:=if_t hc22 H
     refine zb (za (wd (zi rfl) (wd (zi rfl) (zd (zt ?_)))))
     refine ⟨_,(xB (zg rfl) (zg rfl)),?_⟩
     replace S:=S.arr [1] []
     obtain rfl:=zaM H
     obtain rfl:=v7 Ho3
     exact ⟨rfl,S⟩
    replace H:=if_f hc22 H
    refine zw ?_
    obtain rfl:=zaM H
    exact ⟨rfl,df,a0,rfl,S⟩
 rintro g23 u24 ⟨s3,rfl,S⟩
 have H:=Ho3
 dsimp only [aft] at H
 refine zb (za (wd (zC rfl) (wd (zq yV rfl ((S.blk 0).all _ (Nd.len _)) (Nd.len _)) ?_)))
 obtain ⟨r25,er25,H⟩ := zp H
 obtain ⟨_,_,T,bk⟩ := S.calln 0 ((.o 1 rfl .nil))
 refine zB (zy ca_ref03_T_Find) zaI (ref03_T_Find_st T er25) ?_
 rintro _ w26 ⟨rfl,S2⟩
 replace S:=bk _ _ _ _ S2 rfl
 refine wd (xb rfl) (wd (zo rfl rfl) (wd (zo rfl rfl) (wd (zi rfl) (wd (zh rfl) (zd (zb (zb (za ?_))))))))
 refine wd (zA rfl) (zd ?_)
 refine zI rfl (fun hc28=>?_) (fun hc28=>?_)
 ·replace H:=if_t hc28 H
  refine zb (za (wd (zj rfl) (wd (zi rfl) (wd (zi rfl) (zd (zt ?_))))))
  refine ⟨_,(xB (zg rfl) (zg rfl)),?_⟩
  replace S:=S.arr [1] []
  obtain rfl:=zaM H
  exact ⟨rfl,S⟩
 replace H:=if_f hc28 H
 refine zw (zb (zb (za (wd (zC rfl) ?_))))
 obtain ⟨ht29,H⟩ := zV H
 obtain ⟨p30,s31,hp32,S⟩ := S.openR 1 ht29
 replace S:=S
 refine wd (zW (congrArg Value.pointer hp32)) (wd (zf ue rfl (o':=0) rfl) (wd (zm xC rfl ((S.blk 0).cell (RTab.get_n _))) (wd (xL xe rfl (S.rdO 1)) (wd (uF rfl rfl) ?_))))
 replace S:=((S.front 1).front 1).shutR hp32
 refine zd ?_
 refine zI rfl (fun hc33=>?_) (fun hc33=>?_)
 ·replace H:=if_t hc33 H
  refine zb (za (wd (zi rfl) (wd (zi rfl) (zd (zt ?_)))))
  refine ⟨_,(xB (zg rfl) (zg rfl)),?_⟩
  replace S:St A N w w26 [oR a_0 (some (s3.getD []))] []:=S.arr [0] []
  obtain rfl:=zaM H
  exact ⟨rfl,S⟩
 replace H:=if_f hc33 H
 refine zw (zb ?_)
 obtain ⟨p34,s35,hp36,S⟩ := S.openR 0 rfl
 replace S:St A N w w26 [oB p34 T_RTab (RTab.C ⟨s35⟩),oS T_Nd 4 Nd.C s35 (s3.getD []),oB b2 T_Nd (Nd.C a1)] []:=S
 obtain ⟨ha37,H⟩ := zV H
 have ha37:=of_decide_eq_true ha37
 have hSO:=S.sl 1
 have hSlt:=hSO.lt
 have SH : ∀ v,Chg s35.fp w26 v→St A (N.or s35.fp) w v [oB p34 T_RTab (RTab.C ⟨s35⟩),oB b2 T_Nd (Nd.C a1)] []:=fun v hc=>S.away 1 (hc:=hc)
 refine wc_draw 8 ⟨fun L v=>Chg s35.fp w26 v∧(L 7=false→Ext w26 v),fun L a b=>Chg s35.fp a b∧(L 7=true→Ext a b),fun i v u=>match i with
  | 0=>v=Value.pointer a_0
  | 1=>v=Value.pointer a_0
  | 2=>v=Value.pointer (some ⟨p34,0,none⟩)
  | 3=>v=Value.pointer (some ⟨p34,0,none⟩)
  | 4=>v=s35.v
  | 5=>v=Value.agg (Nd.C a1).toArray
  | 6 => ∃ b sl,v=SlV.v sl∧sl=⟨some ⟨b,0,none⟩,1,1⟩ ∧ Blk u b T_Nd (Nd.C a1)∧¬ s35.fp b
  | 7 => ∃ s',v=SlV.v s'∧Own u 0 T_Nd 4 s' (((s3.getD []) ++ [a1]).map Nd.C) ∧ ∀ i,s'.fp i→s35.fp i∨w26.heap.size ≤ i
  | _=>True⟩ hmix zaL ?_ ⟨(Ext.drawn _).mono (fun _ _ x=>x.elim),fun _=>Ext.drawn _⟩ ⟨?_,?_,?_,?_,?_,?_,?_,?_,trivial⟩ ?_
 ·intro L i v a b hLi hle hv
  match i,hLi,hv with
  | 0,_,hv=>exact hv
  | 1,_,hv=>exact hv
  | 2,_,hv=>exact hv
  | 3,_,hv=>exact hv
  | 4,_,hv=>exact hv
  | 5,_,hv=>exact hv
  | 6,_,⟨b,sl,e1,e2,hb,hn⟩ => exact ⟨b,sl,e1,e2,hb.chg hle.1 hn,hn⟩
  | 7,hLi,⟨s',e1,ho,hg⟩ => exact ⟨s',e1,ho.ext (hle.2 hLi),hg⟩
  | _ + 8,_,_=>exact trivial
 ·rintro L g v hL hT 
  refine wd (zC rfl) (zd (ob ⟨hT.1,fun h=>hT.2 h⟩ ⟨Chg.refl _ _,fun _=>Ext.refl _⟩ rfl))
 ·rintro L g v hL hT 
  refine wd (zC rfl) (zd (ob ⟨hT.1,fun h=>hT.2 h⟩ ⟨Chg.refl _ _,fun _=>Ext.refl _⟩ rfl))
 ·rintro L g v hL hT hv1
  refine wd (zW ((hv1:_=Value.pointer a_0).trans (congrArg Value.pointer hp36))) (zd (ob ⟨hT.1,fun h=>hT.2 h⟩ ⟨Chg.refl _ _,fun _=>Ext.refl _⟩ rfl))
 ·rintro L g v hL hT hv2
  refine wd (zf ue hv2 (o':=0) rfl) (zd (ob ⟨hT.1,fun h=>hT.2 h⟩ ⟨Chg.refl _ _,fun _=>Ext.refl _⟩ rfl))
 ·rintro L g v hL hT hv3
  refine wd (zm xC hv3 (((SH v hT.1).blk 0).cell (RTab.get_n _))) (zd (ob ⟨hT.1,fun h=>hT.2 h⟩ ⟨Chg.refl _ _,fun _=>Ext.refl _⟩ rfl))
 ·rintro L g v hL hT 
  refine wd (zq yV rfl (((SH v hT.1).blk 1).all _ (Nd.len _)) (Nd.len _)) (zd (ob ⟨hT.1,fun h=>hT.2 h⟩ ⟨Chg.refl _ _,fun _=>Ext.refl _⟩ rfl))
 ·rintro L g v hL hT hv5
  refine wl_lit1 xe el_Nd.zero hv5 rfl (Nd.len _) zaI zaI fun b v' sl hn hq=>zd (ob ⟨hT.1.thenExt hn.ext,fun h=>(hT.2 h).trans hn.ext⟩ ⟨hn.ext.mono (fun _ _ x=>x.elim),fun _=>hn.ext⟩ ⟨b,sl,rfl,hq,hn.blk,fun e=>by have:=hSlt _ e; have:=hn.at_; have:=hT.1.size; omega⟩)
 ·rintro L g v hL hT hv4 ⟨b,sl,hv6,hq,hb,hnb⟩
  refine wl_push (C:=Nd.C) xe el_Nd hv4 hv6 (hSO.ext (hT.2 hL)) hb hq (Nd.len _) (Nd.one _) ha37 zaJ zaI fun s' v' ho hc hg=>zd (ob ⟨hT.1.trans hc,fun h=>(by cases h)⟩ ⟨hc,fun h=>(by rw [hL] at h; cases h)⟩ ⟨s',rfl,ho,fun i e=>(hg i e).imp id (fun h=>Nat.le_trans hT.1.size h)⟩)
 rintro L g w38 hLm hT hv40_0 hv40_1 hv40_2 hv40_3 hv40_4 hv40_5 ⟨b,sl,hv40_6,hq,hb,hnb⟩ ⟨s39,hv40_7,O,gO⟩
 replace S:=S.push 1 O (by rw [List.length_append,List.length_singleton]; omega) hT.1 gO
 clear O gO SH hSO hSlt
 refine wd (zW ((hv40_0:_=Value.pointer a_0).trans (congrArg Value.pointer hp36))) (wd (zf ue rfl (o':=0) rfl) ?_)
 refine yL xC rfl hv40_7 (S.blk 1) (by rw [RTab.len]; decide) (SlV.one _ _ rfl) (RTab.set_n _ _) fun w41 B hw41 zw41=>?_
 replace S:=S.store 1 B hw41
 replace S:=((S.front 1).front 1).shutR hp36
 refine zd (zb (za (wd (zC rfl) ?_)))
 obtain ⟨p42,s43,hp44,S⟩ := S.openR 0 rfl
 replace S:=S
 refine wd (zW (congrArg Value.pointer hp44)) (wd (zf ue rfl (o':=0) rfl) (wd (zm xC rfl ((S.blk 0).cell (RTab.get_n _))) (wd (xL xe rfl (S.rdO 1)) (wd (does_sub rfl rfl) (wd (zi rfl) ?_)))))
 refine wd (zi rfl) ?_
 replace S:=((S.front 1).front 1).shutR hp44
 refine zd (zt ?_)
 refine ⟨_,(xB (zg rfl) (zg rfl)),?_⟩
 replace S:=S.arr [0] []
 obtain rfl:=zaM H
 exact ⟨rfl,S⟩
theorem ref03_From_st {a0:List Nd} {s_0:SlV} (S:St A N w w [] [fS 4 Nd.C s_0 a0]) {r:Tb × Int} (H:zcp.f a0=some r) :
  Calls PP F_ref03_From #[s_0.v] w <| Rt fun v w'=>(∃ ao0:Option Addr,v = .tuple #[.pointer ao0,.int .i64 r.2]∧St A N w w' [oR ao0 r.1] []):=by
 unfold zcp.f at H
 refine zz (n:=32) Tryz.func63 rfl rfl zaK (zb (za ?_))
 replace S:=S.add (Ext.refl _) (oR.nil _) (fun _ x=>x.elim)
 refine wd (xd rfl) (wd (zi rfl) (zd (zb (za (wd (vr bu_RTab Bld.nil) ?_)))))
 refine zJ rfl zaI fun b2 w1 hw1=>?_
 replace S:St A N w w1 [oR (some ⟨b2,0,none⟩) (some []),oR none none] [fS 4 Nd.C s_0 a0]:=((S.nil T_Nd 4 Nd.C).new hw1).shutR rfl
 refine wd (xd rfl) (zd (zb (zb (za (wd (zi rfl) (zd ?_))))))
 obtain ⟨o3,e3,Ho3⟩ := zp H
 clear H
 refine xT ([2,3,5,6,7] ++ rg 10 21) (fun fr W => ∃ s3:Tb,o3 = .inl s3∧St A N w W [oR (some ⟨b2,0,none⟩) s3,oR none none] [fS 4 Nd.C s_0 a0]) ?_ ?_
 ·refine zM ?_
  refine xN (α:=Nat × Int × Tb) ([2,3,5,6,7] ++ rg 10 21) (fun x fr W=>(x.1:Int)=(a0.length:Int) - x.2.1∧0 ≤ x.2.1∧forN (fun i s=>zcp.b0 a0 i s) x.1 x.2.1 x.2.2=some o3∧fr 5 = .int .i64 x.2.1∧St A N w W [oR (some ⟨b2,0,none⟩) (x.2.2),oR none none] [fS 4 Nd.C s_0 a0]) (fun x=>x.1) (((a0.length:Int) - 0).toNat,0,(some [])) ⟨(by dsimp only; have hle:=Int.natCast_nonneg (a0.length); omega),(Int.le_refl _),(by dsimp only; exact e3),rfl,S⟩ ?_
  rintro ⟨m3,i3,x3_0⟩ g3 u3 ⟨hm3,hl3,e3,q3_i,S⟩
  try dsimp only at hm3
  try dsimp only at hl3
  try dsimp only at e3
  try dsimp only at S
  try dsimp only at q3_i
  refine zb (zb (za (wd (zj q3_i) (wd (zN rfl) (wd (xL xe rfl (S.rd 0)) (wd (xw rfl rfl) (zd ?_)))))))
  refine zI rfl (fun hc4=>?_) (fun hc4=>?_)
  rotate_left
  ·refine x4 ?_
   have hge:(a0.length:Int) ≤ i3:=Int.not_lt.1 (of_decide_eq_false hc4)
   obtain rfl:m3=0:=by omega
   replace e3:=zap e3
   exact ⟨rfl,df,x3_0,e3,S⟩
  refine zw ?_
  have hlt3:i3 < (a0.length:Int):=of_decide_eq_true hc4
  obtain ⟨m3,rfl⟩ : ∃ m,m3=m + 1:=⟨m3 - 1,by omega⟩
  obtain ⟨q3,H,e3⟩ := zaq e3
  unfold zcp.b0 at H
  try dsimp only at H
  have hb3:=(S.len 0)
  refine zb ?_
  refine zM (zb (za (wd (zC rfl) (wd (zN rfl) (wd (zj q3_i) (wd (xf xe rfl rfl (S.rd 0) (And.intro (show 0 ≤ i3 by omega) (show i3 < (a0.length:Int) from hlt3)).1 (And.intro (show 0 ≤ i3 by omega) (show i3 < (a0.length:Int) from hlt3)).2) ?_))))))
  refine wd (zq yV rfl ((S.rd 0).at (yB Nd.z (And.intro (show 0 ≤ i3 by omega) (show i3 < (a0.length:Int) from hlt3)))) (Nd.len _)) ?_
  obtain ⟨r6,er6,H⟩ := zp H
  obtain ⟨_,_,T,bk⟩ := S.calln 1 ((.nil))
  refine zB (zy ca_ref03_T_Put) zaI (ref03_T_Put_st T er6) ?_
  rintro _ w7 ⟨rfl,S2⟩
  replace S:=bk _ _ _ _ S2 rfl
  refine wd (xb rfl) (wd (zo rfl rfl) (wd (zo rfl rfl) (wd (zi rfl) (wd (zi rfl) (zd (zb (zb (za ?_))))))))
  refine wd (zj rfl) (wd (xt rfl rfl) (zd ?_))
  refine zI rfl (fun hc9=>?_) (fun hc9=>?_)
  ·replace H:=if_t hc9 H
   refine zb (za (wd (zj rfl) ?_))
   replace S:=S.add (Ext.refl _) (oR.nil _) (fun _ x=>x.elim)
   refine wd (xd rfl) (wd (zi rfl) (zd (zt ?_)))
   refine ⟨_,(xB (zg rfl) (zg rfl)),?_⟩
   replace S:=S.arr [0] []
   obtain rfl:=zaM H
   obtain rfl:=e3
   obtain rfl:=v7 Ho3
   exact ⟨none,rfl,S⟩
  replace H:=if_f hc9 H
  refine zw (zb (za (wd (zj rfl) (wd (zj q3_i) (wd (xt rfl rfl) (zd ?_))))))
  refine zI rfl (fun hc10=>?_) (fun hc10=>?_)
  ·replace H:=if_t hc10 H
   refine zb (za ?_)
   replace S:=S.add (Ext.refl _) (oR.nil _) (fun _ x=>x.elim)
   refine wd (xd rfl) (wd (zi rfl) (zd (zt ?_)))
   refine ⟨_,(xB (zg rfl) (zg rfl)),?_⟩
   replace S:=S.arr [0] []
   obtain rfl:=zaM H
   obtain rfl:=e3
   obtain rfl:=v7 Ho3
   exact ⟨none,rfl,S⟩
  replace H:=if_f hc10 H
  refine zw (za (wd (zj q3_i) (wd (xp rfl rfl (c:=i3 + 1) rfl zaJ zaJ) (wd (zi rfl) (zd ?_)))))
  obtain rfl:=zaM H
  exact ⟨rfl,df,(m3,i3 + 1,r6.1),⟨(by dsimp only; omega),(by dsimp only; omega),e3,rfl,S⟩,by dsimp only; omega⟩
 rintro g11 u12 ⟨s3,rfl,S⟩
 have H:=Ho3
 dsimp only [aft] at H
 refine zb (za (wd (zC rfl) (wd (xd rfl) (wd (zi rfl) (zd (zt ?_))))))
 refine ⟨_,(xB (zg rfl) (zg rfl)),?_⟩
 replace S:=S.arr [0] []
 obtain rfl:=zaM H
 exact ⟨(some ⟨b2,0,none⟩),rfl,S⟩
theorem law03_Both_st {a0:List Nd} {s_0:SlV} (S:St A N w w [] [fS 4 Nd.C s_0 a0]) {r:Tb × Tb × Bool} (H:zcq.f a0=some r) :
  Calls PP F_law03_Both #[s_0.v] w <| Rt fun v w'=>(∃ ao0:Option Addr,∃ ao1:Option Addr,v = .tuple #[.pointer ao0,.pointer ao1,.bool r.2.2]∧St A N w w' [oT ao0 r.1,oR ao1 r.2.1] []):=by
 unfold zcq.f at H
 refine zz (n:=27) Tryz.func34 rfl rfl zaK (zb (za ?_))
 replace S:=S.add (Ext.refl _) (oT.nil _) (fun _ x=>x.elim)
 refine wd (xd rfl) ?_
 replace S:=S.add (Ext.refl _) (oR.nil _) (fun _ x=>x.elim)
 refine wd (xd rfl) (wd (zh rfl) (zd (zb (za ?_))))
 refine vx (C:=Nd.C) (l:=([]:List Nd)) (vs:=[]) xe el_Nd.zero rfl rfl (fun a _=>Nd.len a) zaI rfl zaI fun b2 w1 s3 hBw1 hw1=>?_
 replace S:=S.lit hBw1 hw1 zaK
 refine wd (zN rfl) ?_
 obtain ⟨ha6,H⟩ := zV H
 have ha6:=of_decide_eq_true ha6
 refine wl_appendm (C:=Nd.C) xe el_Nd rfl rfl (S.sl 0) (S.rd 0) Nd.one ha6 zaJ zaI fun s5 w4 O hw4 gw4=>?_
 replace S:=S.push 0 O (by first | (simp; done) | (simp; omega)) hw4 gw4
 clear O
 refine wd (vo rfl) (zd (zb (za (wd (zN rfl) ?_))))
 obtain ⟨r7,er7,H⟩ := zp H
 obtain ⟨_,_,T,bk⟩ := S.calln 0 ((.z 0 rfl .nil))
 refine zB (zy ca_ref03_From) zaI (ref03_From_st T er7) ?_
 rintro _ w8 ⟨a10,rfl,S2⟩
 replace S:=bk _ _ _ _ S2 rfl
 refine wd (xb rfl) (wd (zo rfl rfl) (wd (zo rfl rfl) (wd (xd rfl) (wd (zi rfl) (zd (zb (zb (za ?_))))))))
 refine wd (zj rfl) (wd (xt rfl rfl) (zd ?_))
 refine zI rfl (fun hc11=>?_) (fun hc11=>?_)
 ·replace H:=if_t hc11 H
  refine zb (za ?_)
  replace S:=S.add (Ext.refl _) (oT.nil _) (fun _ x=>x.elim)
  refine wd (xd rfl) ?_
  replace S:=S.add (Ext.refl _) (oR.nil _) (fun _ x=>x.elim)
  refine wd (xd rfl) (wd (zh rfl) (zd (zt ?_)))
  refine ⟨_,(rets3 (zg rfl) (zg rfl) (zg rfl)),?_⟩
  replace S:=S.arr [1,0] []
  obtain rfl:=zaM H
  exact ⟨none,none,rfl,S⟩
 replace H:=if_f hc11 H
 refine zw (zb (za (wd (zN rfl) ?_)))
 obtain ⟨r12,er12,H⟩ := zp H
 obtain ⟨_,_,T,bk⟩ := S.calln 0 ((.s 1 rfl .nil))
 refine zB (zy ca_formula_From) zaI (formula_From_st T er12) ?_
 rintro _ w13 ⟨a15,rfl,S2⟩
 replace S:=bk _ _ _ _ S2 rfl
 refine wd (xb rfl) (wd (zo rfl rfl) (wd (zo rfl rfl) (wd (xd rfl) (wd (zi rfl) (zd (zb (za ?_)))))))
 refine wd (zC rfl) (wd (zC rfl) (wd (xd rfl) (wd (xd rfl) (wd (zh rfl) (zd (zt ?_))))))
 refine ⟨_,(rets3 (zg rfl) (zg rfl) (zg rfl)),?_⟩
 replace S:=S.arr [0,1] []
 obtain rfl:=zaM H
 exact ⟨a15,a10,rfl,S⟩
end
section
open Gw Go.RowKit
set_option maxHeartbeats 4000000
set_option maxRecDepth 20000
variable {A:Nat→Prop} {N:Oth} {w:World}
theorem formula_Table_Atom_st {a0:Tb} {a_0:Option Addr} {a1:ByteArray} (S:St A N w w [oT a_0 a0] []) {r:Tb × Int × Int} (H:zcr.f a0 a1=some r) :
  Calls PP j4 #[.pointer a_0,.string a1] w <| Rt fun v w'=>(v = .tuple #[.int .i64 r.2.1,.int .i64 r.2.2]∧St A N w w' [oT a_0 r.1] []):=by
 unfold zcr.f at H
 refine zz (n:=12) Tryz.func49 rfl rfl zaK (zb (za (wd (zi rfl) (wd (zi rfl) (zd (zb (za ?_)))))))
 refine wd (zC rfl) (wd (zX rfl) (wd (vr bu_Nd (Bld.one rfl rfl (by rw [Nd.len]; decide) (Nd.set_kind _ _) (Bld.one rfl rfl (by rw [Nd.len]; decide) (Nd.set_name _ _) Bld.nil))) ?_))
 obtain ⟨r1,er1,H⟩ := zp H
 obtain ⟨_,_,T,bk⟩ := S.calln 1 ((.nil))
 refine zB (zy ux) zaI (kj T er1) ?_
 rintro _ w2 ⟨rfl,S2⟩
 replace S:=bk _ _ _ _ S2 rfl
 refine wd (zo rfl rfl) (wd (zo rfl rfl) (wd (zi rfl) (wd (zi rfl) (zd (zt ?_)))))
 refine ⟨_,(xB (zg rfl) (zg rfl)),?_⟩
 obtain rfl:=zaM H
 exact ⟨rfl,S⟩
theorem yr {a0:Int} (S:St A N w w [] []) {r:Int} (H:zcs.f a0=some r) :
  Calls PP F_law14_num #[.int .i64 a0] w <| Rt fun v w'=>(v = .int .i64 r∧St A N w w' [] []):=by
 unfold zcs.f at H
 refine zz (n:=4) Tryz.func14 rfl rfl zaK (zb (za (wd (zi rfl) (zd (zb (za (wd (zj rfl) ?_)))))))
 refine wd (zi rfl) (zd (zt ?_))
 refine ⟨_,(zO (zg rfl)),?_⟩
 obtain rfl:=zaM H
 exact ⟨rfl,S⟩
theorem vK {a0:ByteArray} (S:St A N w w [] []) {r:PTerm} (H:zct.f a0=some r) :
  Calls PP F_law14_name #[.string a0] w <| Rt fun v w'=>(∃ so0:SlV,v = .agg (tmC r so0).toArray∧St A N w w' [] [ze so0 r.sub]):=by
 unfold zct.f at H
 refine zz (n:=5) Tryz.func51 rfl rfl zaK (zb (za ?_))
 refine zP xm zaI fun b2 w1 hw1=>?_
 replace S:=S.new hw1
 refine zd (zb (za (wd (zX rfl) (wd (Does.to (v' := .agg (Term.C (tmM 1 a0 SlV.nil)).toArray) (xh (vs:=[(0,.int .i64 1),(1,.string a0)]) yC (x5 rfl (x5 rfl rfl)) (Bld.one rfl rfl (by rw [Term.len]; decide) (Term.set_kind _ _) (Bld.one rfl rfl (by rw [Term.len]; decide) (Term.set_name _ _) Bld.nil))) rfl) ?_))))
 refine wsT rfl rfl (S.blk 0) fun w3 B hw3 zw3=>?_
 replace S:=S.store 0 B hw3
 refine zd (zt ?_)
 replace S:=S.nilTm
 refine ⟨_,(zO (rtT rfl (S.blk 0))),?_⟩
 replace S:=S.arr [] [0]
 obtain rfl:=zaM H
 exact ⟨SlV.nil,rfl,S⟩
theorem ref12_Same_gst {zdf:PTerm→PTerm→Option Bool} (zcQ : ∀ {A:Nat→Prop} {N:Oth} {w:World} {a0:PTerm} {s_0:SlV} {a1:PTerm} {s_1:SlV} (S:St A N w w [] [ze s_0 a0.sub,ze s_1 a1.sub]) {r:Bool} (H:zdf a0 a1=some r),Calls PP jj #[.agg (tmC a0 s_0).toArray,.agg (tmC a1 s_1).toArray] w <| Rt fun v w'=>(v = .bool r∧St A N w w' [] [])) {A:Nat→Prop} {N:Oth} {w:World} {a0:PTerm} {s_0:SlV} {a1:PTerm} {s_1:SlV} (S:St A N w w [] [ze s_0 a0.sub,ze s_1 a1.sub]) {k:Nat} {r:Bool} (H:zcu.g zdf k a0 a1=some r) :
  Calls PP jj #[.agg (tmC a0 s_0).toArray,.agg (tmC a1 s_1).toArray] w <| Rt fun v w'=>(v = .bool r∧St A N w w' [] []):=by
 unfold zcu.g at H
 refine zz (n:=60) Tryz.func20 rfl rfl zaK (zb (za ?_))
 refine zJ rfl zaI fun b2 w1 hw1=>?_
 replace S:=S.new hw1
 refine zJ rfl zaI fun b4 w3 hw3=>?_
 replace S:=S.new hw3
 refine wd (zh rfl) (zd (zb (zb (za (wd (zf zZ rfl (o':=0) rfl) (wd (zm zR rfl ((S.blk 1).cell (Term.get_kind _))) (wd (zf zZ rfl (o':=0) rfl) ?_)))))))
 refine wd (zm zR rfl ((S.blk 0).cell (Term.get_kind _))) (wd (xt rfl rfl) (wd (zA rfl) ?_))
 refine wg (fun hg=>zf xI rfl (o':=1) rfl) ?_
 refine wg (fun hg=>zm xu (zn hg) ((S.blk 1).cell (Term.get_name _))) ?_
 refine wg (fun hg=>zf xI rfl (o':=1) rfl) ?_
 refine wg (fun hg=>zm xu (zn hg) ((S.blk 0).cell (Term.get_name _))) ?_
 refine wg (fun hg=>uz (zn hg) (zn hg)) (wd (xy rfl (fun hp=>(zn (xr hp)))) (wd (zA rfl) ?_))
 refine wg (fun hg=>zf uf rfl (o':=2) rfl) ?_
 refine wg (fun hg=>zm xu (zn hg) ((S.blk 1).cell (Term.get_other _))) ?_
 refine wg (fun hg=>zf uf rfl (o':=2) rfl) ?_
 refine wg (fun hg=>zm xu (zn hg) ((S.blk 0).cell (Term.get_other _))) ?_
 refine wg (fun hg=>uz (zn hg) (zn hg)) (wd (xy rfl (fun hp=>(zn (xr hp)))) (wd (zA rfl) ?_))
 refine wg (fun hg=>zf yi rfl (o':=3) rfl) ?_
 refine wg (fun hg=>zm xD (zn hg) ((S.blk 1).cell (Term.get_form _))) ?_
 refine wg (fun hg=>zf yi rfl (o':=3) rfl) ?_
 refine wg (fun hg=>zm xD (zn hg) ((S.blk 0).cell (Term.get_form _))) ?_
 refine wg (fun hg=>xt (zn hg) (zn hg)) (wd (xy rfl (fun hp=>(zn (xr hp)))) (wd (zA rfl) ?_))
 refine wg (fun hg=>zf zE rfl (o':=4) rfl) ?_
 refine wg (fun hg=>zm zu (zn hg) ((S.blk 1).cell (Term.get_sub _))) ?_
 refine wg (fun hg=>does_lenF zr (zn hg) (S.onZ 0)) ?_
 refine wg (fun hg=>zf zE rfl (o':=4) rfl) ?_
 refine wg (fun hg=>zm zu (zn hg) ((S.blk 0).cell (Term.get_sub _))) ?_
 refine wg (fun hg=>does_lenF zr (zn hg) (S.onZ 1)) ?_
 refine wg (fun hg=>xt (zn hg) (zn hg)) (wd (xy rfl (fun hp=>(zn (xr hp)))) (zd ?_))
 refine zI rfl (fun hc5=>?_) (fun hc5=>?_)
 ·replace H:=if_t hc5 H
  refine zb (za (wd (zh rfl) (zd (zt ?_))))
  refine ⟨_,(zO (zg rfl)),?_⟩
  replace S:=S.arr [] []
  obtain rfl:=zaM H
  exact ⟨rfl,S⟩
 replace H:=if_f hc5 H
 refine zw (zb (zb (za (wd (zi rfl) (zd ?_)))))
 obtain ⟨o6,e6,Ho6⟩ := zp H
 clear H
 refine xT ([4,5] ++ rg 41 19) (fun fr W => ∃ s6:Int,o6 = .inl s6∧fr 5 = .int .i64 s6∧St A N w W [oB b4 zk (tmC a1 s_1),oB b2 zk (tmC a0 s_0)] [ze s_0 a0.sub,ze s_1 a1.sub]) ?_ ?_
 ·refine zM ?_
  refine xN (α:=Nat × Int) ([4,5] ++ rg 41 19) (fun x fr W=>iter (fun s=>zcu.b0 a0 a1 zdf s) x.1 x.2=some o6∧fr 5 = .int .i64 (x.2)∧St A N w W [oB b4 zk (tmC a1 s_1),oB b2 zk (tmC a0 s_0)] [ze s_0 a0.sub,ze s_1 a1.sub]) (fun x=>x.1) (k,0) ⟨(by dsimp only; exact e6),rfl,S⟩ ?_
  rintro ⟨m6,x6_0⟩ g6 u6 ⟨e6,q6_5,S⟩
  try dsimp only at e6
  try dsimp only at S
  try dsimp only at q6_5
  obtain ⟨m6,rfl⟩ : ∃ m,m6=m + 1:=⟨m6 - 1,by cases m6 with | zero=>cases e6 | succ m=>rfl⟩
  obtain ⟨q6,H,e6⟩ := iter_s e6
  unfold zcu.b0 at H
  try dsimp only at H
  refine zb (zb (za (wd (zj q6_5) (wd (zf zE rfl (o':=4) rfl) (wd (zm zu rfl ((S.blk 1).cell (Term.get_sub _))) (wd (does_lenF zr rfl (S.onZ 0)) (wd (xw rfl rfl) (zd ?_))))))))
  refine zI rfl (fun hc7=>?_) (fun hc7=>?_)
  rotate_left
  ·replace H:=if_f hc7 H
   refine x4 ?_
   obtain rfl:=zaM H
   exact ⟨rfl,df,x6_0,e6,q6_5,S⟩
  replace H:=if_t hc7 H
  refine zw (zb ?_)
  refine zM (zb ?_)
  refine xQ 10 (Ext u6) hmix zaL zaL (Ext.drawn _) (zx (fun v K=>zf zE rfl (o':=4) rfl) (zx (fun v K=>zm zu rfl (((S.ext K).blk 1).cell (Term.get_sub _))) (zx (fun v K=>zj q6_5) ?_)))
  obtain ⟨hi8,H⟩ := zV H
  refine zx (fun v K=>does_indexF zr rfl rfl ((S.ext K).onZ 0) (zD hi8).1 (zD hi8).2) ?_
  obtain ⟨s9,hc10,S⟩ := S.viewTerm 0 (zD hi8)
  replace S:=S
  refine zx (fun v K=>zq zT rfl (hc10.chg K (fun x=>x)) (Term.len _)) (zx (fun v K=>zf zE rfl (o':=4) rfl) (zx (fun v K=>zm zu rfl (((S.ext K).blk 0).cell (Term.get_sub _))) (zx (fun v K=>zj q6_5) ?_)))
  obtain ⟨hi11,H⟩ := zV H
  refine zx (fun v K=>does_indexF zr rfl rfl ((S.ext K).onZ 2) (zD hi11).1 (zD hi11).2) ?_
  obtain ⟨s12,hc13,S⟩ := S.viewTerm 2 (zD hi11)
  replace S:=S
  refine zx (fun v K=>zq zT rfl (hc13.chg K (fun x=>x)) (Term.len _)) ?_
  refine yH fun w14 K=>?_
  replace S:=S.ext K
  clear K
  obtain ⟨r15,er15,H⟩ := zp H
  obtain ⟨_,_,T,bk⟩ := S.calln 0 ((.z 1 rfl (.z 0 rfl .nil)))
  refine zB (zy j1) zaI (zcQ (a0:=(kd a0 x6_0)) (a1:=(kd a1 x6_0)) T er15) ?_
  rintro _ w16 ⟨rfl,S2⟩
  replace S:=bk _ _ _ _ S2 rfl
  refine wd (xj rfl) (zd ?_)
  refine zI rfl (fun hc18=>?_) (fun hc18=>?_)
  ·replace H:=if_t hc18 H
   refine zb (za (wd (zh rfl) (zd (zt ?_))))
   refine ⟨_,(zO (zg rfl)),?_⟩
   replace S:=S.arr [] []
   obtain rfl:=zaM H
   obtain rfl:=e6
   obtain rfl:=v7 Ho6
   exact ⟨rfl,S⟩
  replace H:=if_f hc18 H
  refine zw (za (wd (zj q6_5) (wd (yW rfl rfl) (wd (zi rfl) (zd ?_)))))
  replace S:=S.arr [0,1] [2,3]
  obtain rfl:=zaM H
  exact ⟨rfl,df,(m6,IntKind.i64.wrap (x6_0 + 1)),⟨e6,rfl,S⟩,by dsimp only; omega⟩
 rintro g19 u20 ⟨s6,rfl,p6_5,S⟩
 have H:=Ho6
 dsimp only [aft] at H
 refine zb (za (wd (zh rfl) (zd (zt ?_))))
 refine ⟨_,(zO (zg rfl)),?_⟩
 replace S:=S.arr [] []
 obtain rfl:=zaM H
 exact ⟨rfl,S⟩
theorem zat {a0:PTerm} {s_0:SlV} {a1:PTerm} {s_1:SlV} (S:St A N w w [] [ze s_0 a0.sub,ze s_1 a1.sub]) {k:Nat} {r:Bool} (H:zcu.f k a0 a1=some r) :
  Calls PP jj #[.agg (tmC a0 s_0).toArray,.agg (tmC a1 s_1).toArray] w <| Rt fun v w'=>(v = .bool r∧St A N w w' [] []):=by
 have main : ∀ (k:Nat) {A:Nat→Prop} {N:Oth} {w:World} {a0:PTerm} {s_0:SlV} {a1:PTerm} {s_1:SlV} (S:St A N w w [] [ze s_0 a0.sub,ze s_1 a1.sub]) {r:Bool} (H:zcu.f k a0 a1=some r),Calls PP jj #[.agg (tmC a0 s_0).toArray,.agg (tmC a1 s_1).toArray] w <| Rt fun v w'=>(v = .bool r∧St A N w w' [] []):=by
  intro k
  induction k with
  | zero=>intro A N w a0 s_0 a1 s_1 S r H; cases H
  | succ k ih=>intro A N w a0 s_0 a1 s_1 S r H; exact ref12_Same_gst ih S H
 exact main k S H
theorem ref14_Ways_st {a0:List (List Int)} {s_0:SlV} {a1:List (List Int)} {s_1:SlV} (S:St A N w w [] [zF s_0 a0,zF s_1 a1]) {r:Bool} (H:zcv.f a0 a1=some r) :
  Calls PP F_ref14_Ways #[s_0.v,s_1.v] w <| Rt fun v w'=>(v = .bool r∧St A N w w' [] []):=by
 unfold zcv.f at H
 refine zz (n:=27) Tryz.func13 rfl rfl zaK (zb (za (wd (zh rfl) (zd (zb (zb (za (wd (zN rfl) ?_))))))))
 refine wd (jP yv rfl (S.onZ 0)) (wd (zN rfl) (wd (jP yv rfl (S.onZ 1)) (wd (xt rfl rfl) (zd ?_))))
 refine zI rfl (fun hc1=>?_) (fun hc1=>?_)
 ·replace H:=if_t hc1 H
  refine zb (za (wd (zh rfl) (zd (zt ?_))))
  refine ⟨_,(zO (zg rfl)),?_⟩
  replace S:=S.arr [] []
  obtain rfl:=zaM H
  exact ⟨rfl,S⟩
 replace H:=if_f hc1 H
 refine zw (zb (zb (za (wd (zi rfl) (zd ?_)))))
 obtain ⟨o2,e2,Ho2⟩ := zp H
 clear H
 refine xT ([4,5] ++ rg 11 16) (fun fr W => ∃ s2:Unit,o2 = .inl s2∧St A N w W [] [zF s_0 a0,zF s_1 a1]) ?_ ?_
 ·refine zM ?_
  refine xN (α:=Nat × Int × Unit) ([4,5] ++ rg 11 16) (fun x fr W=>(x.1:Int)=(a0.length:Int) - x.2.1∧0 ≤ x.2.1∧forN (fun i s=>zcv.b0 a1 a0 i) x.1 x.2.1 x.2.2=some o2∧fr 5 = .int .i64 x.2.1∧St A N w W [] [zF s_0 a0,zF s_1 a1]) (fun x=>x.1) (((a0.length:Int) - 0).toNat,0,()) ⟨(by dsimp only; have hle:=Int.natCast_nonneg (a0.length); omega),(Int.le_refl _),(by dsimp only; exact e2),rfl,S⟩ ?_
  rintro ⟨m2,i2,_⟩ g2 u2 ⟨hm2,hl2,e2,q2_i,S⟩
  try dsimp only at hm2
  try dsimp only at hl2
  try dsimp only at e2
  try dsimp only at S
  try dsimp only at q2_i
  refine zb (zb (za (wd (zj q2_i) (wd (zN rfl) (wd (jP yv rfl (S.onZ 0)) (wd (xw rfl rfl) (zd ?_)))))))
  refine zI rfl (fun hc3=>?_) (fun hc3=>?_)
  rotate_left
  ·refine x4 ?_
   have hge:(a0.length:Int) ≤ i2:=Int.not_lt.1 (of_decide_eq_false hc3)
   obtain rfl:m2=0:=by omega
   replace e2:=zap e2
   exact ⟨rfl,df,(),e2,S⟩
  refine zw ?_
  have hlt2:i2 < (a0.length:Int):=of_decide_eq_true hc3
  obtain ⟨m2,rfl⟩ : ∃ m,m2=m + 1:=⟨m2 - 1,by omega⟩
  obtain ⟨q2,H,e2⟩ := zaq e2
  unfold zcv.b0 at H
  try dsimp only at H
  have hb2:=(S.lenDZ 0)
  refine zb ?_
  refine zM (zb ?_)
  refine xQ 8 (Ext u2) hmix zaL zaL (Ext.drawn _) (zx (fun v K=>zN rfl) (zx (fun v K=>zj q2_i) (zx (fun v K=>kf yv rfl rfl ((S.ext K).onZ 0) (And.intro (show 0 ≤ i2 by omega) (show i2 < (a0.length:Int) from hlt2)).1 (And.intro (show 0 ≤ i2 by omega) (show i2 < (a0.length:Int) from hlt2)).2) ?_)))
  obtain ⟨s5,hc6,S⟩ := S.viewL_int 0 (And.intro (show 0 ≤ i2 by omega) (show i2 < (a0.length:Int) from hlt2))
  replace S:=S
  refine zx (fun v K=>zm zab rfl ((hc6.chg K (fun x=>x)).get (i:=0) rfl)) (zx (fun v K=>zN rfl) (zx (fun v K=>zj q2_i) ?_))
  obtain ⟨hi7,H⟩ := zV H
  refine zx (fun v K=>kf yv rfl rfl ((S.ext K).onZ 2) (zD hi7).1 (zD hi7).2) ?_
  obtain ⟨s8,hc9,S⟩ := S.viewL_int 2 (zD hi7)
  replace S:=S
  refine zx (fun v K=>zm zab rfl ((hc9.chg K (fun x=>x)).get (i:=0) rfl)) ?_
  refine yH fun w10 K=>?_
  replace S:=S.ext K
  clear K
  obtain ⟨r11,er11,H⟩ := zp H
  obtain ⟨_,_,T,bk⟩ := S.calln 0 ((.z 1 rfl (.z 0 rfl .nil)))
  refine zB (zy ca_ref03_Ints) zaI (ref03_Ints_st T er11) ?_
  rintro _ w12 ⟨rfl,S2⟩
  replace S:=bk _ _ _ _ S2 rfl
  refine wd (xj rfl) (zd ?_)
  refine zI rfl (fun hc14=>?_) (fun hc14=>?_)
  ·replace H:=if_t hc14 H
   refine zb (za (wd (zh rfl) (zd (zt ?_))))
   refine ⟨_,(zO (zg rfl)),?_⟩
   replace S:=S.arr [] []
   obtain rfl:=zaM H
   obtain rfl:=e2
   obtain rfl:=v7 Ho2
   exact ⟨rfl,S⟩
  replace H:=if_f hc14 H
  refine zw (za (wd (zj q2_i) (wd (xp rfl rfl (c:=i2 + 1) rfl zaJ zaJ) (wd (zi rfl) (zd ?_)))))
  replace S:=S.arr [] [2,3]
  obtain rfl:=zaM H
  exact ⟨rfl,df,(m2,i2 + 1,()),⟨(by dsimp only; omega),(by dsimp only; omega),e2,rfl,S⟩,by dsimp only; omega⟩
 rintro g15 u16 ⟨s2,rfl,S⟩
 have H:=Ho2
 dsimp only [aft] at H
 refine zb (za (wd (zh rfl) (zd (zt ?_))))
 refine ⟨_,(zO (zg rfl)),?_⟩
 replace S:=S.arr [] []
 obtain rfl:=zaM H
 exact ⟨rfl,S⟩
end
section
open Gw Go.RowKit
set_option maxHeartbeats 4000000
set_option maxRecDepth 20000
theorem law14_heads_st {A:Nat→Prop} {N:Oth} {w:World}  (S:St A N w w [] [oPw]) {k:Nat} {r:Bool} (H:zcw.f k  = some r) :
  Calls PP F_law14_heads #[] w <| Rt fun v w'=>(v = .bool r∧St A N w w' [] []):=by
 unfold zcw.f at H
 refine zz (n:=152) Tryz.func23 rfl rfl zaK (zb (za (wd (zh rfl) (zd (zb (za ?_))))))
 obtain ⟨r1,er1,H⟩ := zp H
 obtain ⟨_,_,T,bk⟩ := S.calln 0 ((.nil))
 refine zB (zy jt) zaI (jz T er1) ?_
 rintro _ w2 ⟨a4,rfl,S2⟩
 replace S:=bk _ _ _ _ S2 rfl
 refine wd (xd rfl) (zd (zb (za (wd (zC rfl) ?_))))
 obtain ⟨r5,er5,H⟩ := zp H
 obtain ⟨_,_,T,bk⟩ := S.calln 1 ((.nil))
 refine zB (zy ca_formula_Table_Atom) zaI (formula_Table_Atom_st T er5) ?_
 rintro _ w6 ⟨rfl,S2⟩
 replace S:=bk _ _ _ _ S2 rfl
 refine wd (xb rfl) (wd (zo rfl rfl) (wd (zo rfl rfl) (wd (zi rfl) (wd (zi rfl) (zd (zb (za ?_)))))))
 refine wd (zC rfl) (wd (zj rfl) (wd (zj rfl) ?_))
 obtain ⟨r8,er8,H⟩ := zp H
 obtain ⟨_,_,T,bk⟩ := S.calln 1 ((.nil))
 refine zB (zy ca_formula_Table_Imp) zaI (formula_Table_Imp_st T er8) ?_
 rintro _ w9 ⟨rfl,S2⟩
 replace S:=bk _ _ _ _ S2 rfl
 refine wd (xb rfl) (wd (zo rfl rfl) (wd (zo rfl rfl) (wd (zi rfl) (wd (zi rfl) (zd (zb (za ?_)))))))
 obtain ⟨r11,er11,H⟩ := zp H
 obtain ⟨_,_,T,bk⟩ := S.sub [] [] [oT a4 r8.1]
 refine zB (zy vH) zaI (vK T er11) ?_
 rintro _ w12 ⟨s14,rfl,S2⟩
 replace S:=bk _ _ _ _ _ S2 rfl rfl
 refine vx (C:=Term.C) (l:=[(tmT r11 s14)]) (vs:=[.agg (tmC r11 s14).toArray]) zr uG.zero rfl rfl (fun a _=>Term.len a) zaI rfl zaI fun b16 w15 s17 hBw15 hw15=>?_
 replace S:=((S.lit hBw15 hw15 zaK).bigTm).consTm (x:=r11) 0
 replace S:=(S.frzTm 0 0).zs [0,2,3]
 refine wd (Does.to (v' := .agg (Term.C (tmM 2 (bA #[120]) s17)).toArray) (xh (vs:=[(0,.int .i64 2),(1,.string (bA #[120])),(4,s17.v)]) yC (x5 rfl (x5 rfl (x5 rfl rfl))) (Bld.one rfl rfl (by rw [Term.len]; decide) (Term.set_kind _ _) (Bld.one rfl rfl (by rw [Term.len]; decide) (Term.set_name _ _) (Bld.one rfl (SlV.one _ _ rfl) (by rw [Term.len]; decide) (Term.set_sub _ _) Bld.nil)))) rfl) ?_
 refine zP xm zaI fun b19 w18 hw18=>?_
 replace S:=S.new hw18
 refine wsT rfl rfl (S.blk 0) fun w20 B hw20 zw20=>?_
 replace S:=S.store 0 B hw20
 refine zd (zb ?_)
 obtain ⟨r24,er24,H⟩ := zp H
 refine yw 8 ⟨fun _ _=>True,fun _ _ _=>True,fun i v _=>match i with
  | 0=>v=Value.int .i64 r8.2.1
  | 1=>v=Value.agg (Term.C (tmM 2 (bA #[120]) s17)).toArray
  | _=>True⟩ (fun L g v => ∃ b32:Nat,∃ O34:List OA,∃ Z33:List OA,(∀ z ∈ [ze s17 ([r11]),ze s14 r11.sub,oPw],z ∈ Z33)∧Made L g Z33 2 41 (fun (c:SlV)=>c.v) (fun (c:SlV)=>[ze c ([(ptM 2 (bA #[120]) [r11])])])∧Made L g Z33 3 42 (fun (c:SlV)=>Value.agg (Term.C (tmN 11 r8.2.1 c)).toArray) (fun (c:SlV)=>[ze c ([(ptM 2 (bA #[120]) [r11])])])∧Made L g Z33 4 43 (fun (c:SlV)=>Value.agg (tmC r24 c).toArray) (fun (c:SlV)=>[ze c r24.sub])∧Made L g Z33 5 44 (fun (c:SlV)=>c.v) (fun (c:SlV)=>[ze c ([(ptN 11 r8.2.1 [(ptM 2 (bA #[120]) [r11])]),r24])])∧Made L g Z33 6 45 (fun (c:SlV)=>Value.agg (Term.C (tmN 3 0 c)).toArray) (fun (c:SlV)=>[ze c ([(ptN 11 r8.2.1 [(ptM 2 (bA #[120]) [r11])]),r24])])∧(L 7=true→g 7=Value.pointer (some ⟨b32,0,none⟩))∧O34=((bif L 7 then [oB b32 zk (Term.C tmZ)] else []) ++ [oB b19 zk (Term.C (tmM 2 (bA #[120]) s17)),oT a4 r8.1])∧St A N w v O34 Z33) hmix zaL (fun _ _ _ _ _ _ _ hv=>hv) (fun g=>⟨0,_,_,fun _ h=>h,Made.no,Made.no,Made.no,Made.no,Made.no,(fun h=>by cases h),rfl,S.ext (Ext.drawn _)⟩) ⟨?_,?_,?_,?_,?_,?_,?_,?_,trivial⟩ ?_
 ·rintro L g v hL hcl hclo ⟨b32,O34,Z33,hZ,hm2,hm3,hm4,hm5,hm6,hk7,hO,S⟩ 
  have SR:St A N w v [oB b19 zk (Term.C (tmM 2 (bA #[120]) s17)),oT a4 r8.1] (ze s17 ([r11]) :: ze s14 r11.sub :: oPw :: Z33):=by
   have S2:=S.zneed hZ
   rw [hO] at S2
   exact S2.drops
  refine wd (zj rfl) ?_
  exact w4 rfl ⟨b32,O34,Z33,hZ,hm2.keep rfl rfl tl0,hm3.keep rfl rfl tl0,hm4.keep rfl rfl tl0,hm5.keep rfl rfl tl0,hm6.keep rfl rfl tl0,(kpU hk7),by rw [hO]; simp only [pN L 0 7],S⟩
 ·rintro L g v hL hcl hclo ⟨b32,O34,Z33,hZ,hm2,hm3,hm4,hm5,hm6,hk7,hO,S⟩ 
  have SR:St A N w v [oB b19 zk (Term.C (tmM 2 (bA #[120]) s17)),oT a4 r8.1] (ze s17 ([r11]) :: ze s14 r11.sub :: oPw :: Z33):=by
   have S2:=S.zneed hZ
   rw [hO] at S2
   exact S2.drops
  refine wd (ldT rfl (SR.blk 0)) ?_
  exact w4 rfl ⟨b32,O34,Z33,hZ,hm2.keep rfl rfl tl0,hm3.keep rfl rfl tl0,hm4.keep rfl rfl tl0,hm5.keep rfl rfl tl0,hm6.keep rfl rfl tl0,(kpU hk7),by rw [hO]; simp only [pN L 1 7],S⟩
 ·rintro L g v hL hcl hclo ⟨b32,O34,Z33,hZ,hm2,hm3,hm4,hm5,hm6,hk7,hO,S⟩ hv1
  replace S:=(S.zneed hZ)
  refine vx (C:=Term.C) (l:=[(tmM 2 (bA #[120]) s17)]) (vs:=[.agg (Term.C (tmM 2 (bA #[120]) s17)).toArray]) zr uG.zero (x5 hv1 rfl) rfl (fun a _=>Term.len a) zaI rfl zaI fun b36 w35 s37 hBw35 hw35=>?_
  replace S:=((S.lit hBw35 hw35 zaK).bigTm).consTm (x:=(ptM 2 (bA #[120]) [r11])) 0
  replace S:=S.frzTm 0 0
  exact w4 trivial ⟨b32,O34,_,(fun z h=>tl5 z (hZ z h)),Made.one (val:=(fun (c:SlV)=>c.v)) (ps:=(fun (c:SlV)=>[ze c ([(ptM 2 (bA #[120]) [r11])])])) s37 (xJ List.mem_cons_self x9),hm3.keep rfl rfl tl5,hm4.keep rfl rfl tl5,hm5.keep rfl rfl tl5,hm6.keep rfl rfl tl5,(kpU hk7),by rw [hO]; simp only [pN L 2 7],S⟩
 ·rintro L g v hL hcl hclo ⟨b32,O34,Z33,hZ,hm2,hm3,hm4,hm5,hm6,hk7,hO,S⟩ hv0 _
  obtain ⟨s23,he2,hp2⟩ := hm2 (hcl 2 zaL)
  replace S:=(S.zneed (xo (l1:=[ze s23 ([(ptM 2 (bA #[120]) [r11])])]) hp2 hZ))
  refine wd (Does.to (v' := .agg (Term.C (tmN 11 r8.2.1 s23)).toArray) (xh (vs:=[(0,.int .i64 11),(3,.int .i64 r8.2.1),(4,s23.v)]) yC (x5 rfl (x5 hv0 (x5 he2 rfl))) (Bld.one rfl rfl (by rw [Term.len]; decide) (Term.set_kind _ _) (Bld.one rfl rfl (by rw [Term.len]; decide) (Term.set_form _ _) (Bld.one rfl (SlV.one _ _ rfl) (by rw [Term.len]; decide) (Term.set_sub _ _) Bld.nil)))) rfl) ?_
  exact w4 trivial ⟨b32,O34,_,(fun z h=>tl4 z (hZ z h)),hm2.keep rfl rfl tl4,Made.one (val:=(fun (c:SlV)=>Value.agg (Term.C (tmN 11 r8.2.1 c)).toArray)) (ps:=(fun (c:SlV)=>[ze c ([(ptM 2 (bA #[120]) [r11])])])) s23 (xJ List.mem_cons_self x9),hm4.keep rfl rfl tl4,hm5.keep rfl rfl tl4,hm6.keep rfl rfl tl4,(kpU hk7),by rw [hO]; simp only [pN L 3 7],S⟩
 ·rintro L g v hL hcl hclo ⟨b32,O34,Z33,hZ,hm2,hm3,hm4,hm5,hm6,hk7,hO,S⟩ 
  replace S:=(S.zneed hZ)
  obtain ⟨_,_,T,bk⟩ := S.sub [] [] (O34)
  refine zB (zy vH) zaI (vK T er24) ?_
  rintro _ w39 ⟨s41,rfl,S2⟩
  replace S:=bk _ _ _ _ _ S2 rfl rfl
  exact w4 trivial ⟨b32,O34,_,(fun z h=>tl4 z (hZ z h)),hm2.keep rfl rfl tl4,hm3.keep rfl rfl tl4,Made.one (val:=(fun (c:SlV)=>Value.agg (tmC r24 c).toArray)) (ps:=(fun (c:SlV)=>[ze c r24.sub])) s41 (xJ List.mem_cons_self x9),hm5.keep rfl rfl tl4,hm6.keep rfl rfl tl4,(kpU hk7),by rw [hO]; simp only [pN L 4 7],S⟩
 ·rintro L g v hL hcl hclo ⟨b32,O34,Z33,hZ,hm2,hm3,hm4,hm5,hm6,hk7,hO,S⟩ _ _
  obtain ⟨s23,he3,hp3⟩ := hm3 (hcl 3 zaL)
  obtain ⟨s27,he4,hp4⟩ := hm4 (hcl 4 zaL)
  replace S:=(S.zneed (xo (l1:=[ze s23 ([(ptM 2 (bA #[120]) [r11])])]) hp3 (xo (l1:=[ze s27 r24.sub]) hp4 hZ)))
  refine vx (C:=Term.C) (l:=[(tmN 11 r8.2.1 s23),(tmT r24 s27)]) (vs:=[.agg (Term.C (tmN 11 r8.2.1 s23)).toArray,.agg (tmC r24 s27).toArray]) zr uG.zero (x5 he3 (x5 he4 rfl)) rfl (fun a _=>Term.len a) zaI rfl zaI fun b43 w42 s44 hBw42 hw42=>?_
  replace S:=((S.lit hBw42 hw42 zaK).bigTm).consTm (x:=r24) 1
  replace S:=(S.consTm (x:=(ptN 11 r8.2.1 [(ptM 2 (bA #[120]) [r11])])) 0).frzTm 0 0
  exact w4 trivial ⟨b32,O34,_,(fun z h=>tl7 z (hZ z h)),hm2.keep rfl rfl tl7,hm3.keep rfl rfl tl7,hm4.keep rfl rfl tl7,Made.one (val:=(fun (c:SlV)=>c.v)) (ps:=(fun (c:SlV)=>[ze c ([(ptN 11 r8.2.1 [(ptM 2 (bA #[120]) [r11])]),r24])])) s44 (xJ List.mem_cons_self x9),hm6.keep rfl rfl tl7,(kpU hk7),by rw [hO]; simp only [pN L 5 7],S⟩
 ·rintro L g v hL hcl hclo ⟨b32,O34,Z33,hZ,hm2,hm3,hm4,hm5,hm6,hk7,hO,S⟩ _
  obtain ⟨s30,he5,hp5⟩ := hm5 (hcl 5 zaL)
  replace S:=(S.zneed (xo (l1:=[ze s30 ([(ptN 11 r8.2.1 [(ptM 2 (bA #[120]) [r11])]),r24])]) hp5 hZ))
  refine wd (Does.to (v' := .agg (Term.C (tmN 3 0 s30)).toArray) (xh (vs:=[(0,.int .i64 3),(4,s30.v)]) yC (x5 rfl (x5 he5 rfl)) (Bld.one rfl rfl (by rw [Term.len]; decide) (Term.set_kind _ _) (Bld.one rfl (SlV.one _ _ rfl) (by rw [Term.len]; decide) (Term.set_sub _ _) Bld.nil))) rfl) ?_
  exact w4 trivial ⟨b32,O34,_,(fun z h=>tl4 z (hZ z h)),hm2.keep rfl rfl tl4,hm3.keep rfl rfl tl4,hm4.keep rfl rfl tl4,hm5.keep rfl rfl tl4,Made.one (val:=(fun (c:SlV)=>Value.agg (Term.C (tmN 3 0 c)).toArray)) (ps:=(fun (c:SlV)=>[ze c ([(ptN 11 r8.2.1 [(ptM 2 (bA #[120]) [r11])]),r24])])) s30 (xJ List.mem_cons_self x9),(kpU hk7),by rw [hO]; simp only [pN L 6 7],S⟩
 ·rintro L g v hL hcl hclo ⟨b32,O34,Z33,hZ,hm2,hm3,hm4,hm5,hm6,hk7,hO,S⟩ 
  have hl7:L 7=false:=hL
  have hOP : ∃ P Y,P=[]∧Y=[oB b19 zk (Term.C (tmM 2 (bA #[120]) s17)),oT a4 r8.1]∧O34=P ++ ([] ++ Y):=⟨_,_,rfl,rfl,by rw [hO]; simp only [hl7,cd2,la2]⟩
  obtain ⟨P,Y,hP,hY,hPY⟩ := hOP
  rw [hPY] at S
  replace S:=S
  refine zP xm zaI fun b46 w45 hw45=>?_
  replace S:=S.new hw45
  refine w4 trivial ⟨b46,P ++ ([oB b46 zk (Term.C tmZ)] ++ Y),_,hZ,hm2.keep rfl rfl tl0,hm3.keep rfl rfl tl0,hm4.keep rfl rfl tl0,hm5.keep rfl rfl tl0,hm6.keep rfl rfl tl0,(fun _=>upd_same _ _ _),?_,S.ins (P:=[oB b46 zk (Term.C tmZ)])⟩
  rw [hP,hY]; simp only [xM (L:=L) (i:=7),cd2,la2]
 rintro L g w47 hLm ⟨b32,O34,Z33,hZ,hm2,hm3,hm4,hm5,hm6,hk7,hO,S⟩ hv48_0 hv48_1 _ _ _ _ _ _
 have hLt : ∀ j,j < 8→L j=true:=fun j hj=>by rw [hLm]; exact decide_eq_true hj
 obtain ⟨s23,hv48_3,hp3⟩ := hm3 (hLt 3 zaI)
 obtain ⟨s27,hv48_4,hp4⟩ := hm4 (hLt 4 zaI)
 obtain ⟨s30,hv48_6,hp6⟩ := hm6 (hLt 6 zaI)
 have hv48_7:=hk7 (hLt 7 zaI)
 simp only [hLt 7 zaI,cond_true,List.nil_append,List.cons_append] at hO
 rw [hO] at S
 replace S:=S.pickZ (xo (l1:=[ze s23 ([(ptM 2 (bA #[120]) [r11])])]) hp3 (xo (l1:=[ze s27 r24.sub]) hp4 (xo (l1:=[ze s30 ([(ptN 11 r8.2.1 [(ptM 2 (bA #[120]) [r11])]),r24])]) hp6 hZ)))
 clear hp3 hp4 hp6 hZ hm2 hm3 hm4 hm5 hm6
 refine wsT hv48_7 hv48_6 (S.blk 0) fun w49 B hw49 zw49=>?_
 replace S:=S.store 0 B hw49
 refine zd (zb (za (wd (zC rfl) (wd (zq zT hv48_7 ((S.blk 0).all _ (Term.len _)) (Term.len _)) ?_))))
 replace S:=S.nilZ 1 IC
 obtain ⟨r50,er50,H⟩ := zp H
 replace S:=S.frzO 2
 let LT4:List OA:=[oB b32 zk (Term.C (tmN 3 0 s30)),oB b19 zk (Term.C (tmM 2 (bA #[120]) s17))]
 obtain ⟨_,_,T,bk⟩ := S.sub [0,4,1,7] [] LT4
 refine zB (zK kH (zQ rfl (zQ rfl (zQ SlV.nil_eq rfl)))) zaI (kJ (a1:=(ptN 3 0 [(ptN 11 r8.2.1 [(ptM 2 (bA #[120]) [r11])]),r24])) T er50) ?_
 rintro _ w51 ⟨s53,rfl,S2⟩
 replace S:=bk _ _ _ _ _ S2 rfl rfl
 refine wd (xb rfl) (wd (zo rfl rfl) (wd (zo rfl rfl) ?_))
 refine zP xm zaI fun b55 w54 hw54=>?_
 replace S:=S.new hw54
 refine wsT rfl rfl (S.blk 0) fun w56 B hw56 zw56=>?_
 replace S:=S.store 0 B hw56
 refine wd (zi rfl) (zd (zb (za (wd (zC rfl) (wd (ldT rfl (S.blk 0)) ?_)))))
 obtain ⟨r57,er57,H⟩ := zp H
 obtain ⟨_,_,T,bk⟩ := S.calln 0 ((.z 1 rfl (.z 0 rfl (.z 8 rfl .nil))))
 refine zB (zy ju) zaI (jD (a1:=r50.1) T er57) ?_
 rintro _ w58 ⟨s60,rfl,S2⟩
 replace S:=bk _ _ _ _ S2 rfl
 refine wd (xb rfl) (wd (zo rfl rfl) (wd (zo rfl rfl) (wd (vo rfl) (wd (zi rfl) (zd (zb (za ?_)))))))
 refine wd (zC rfl) (wd (zq zT hv48_7 ((S.blk 2).all _ (Term.len _)) (Term.len _)) ?_)
 obtain ⟨r61,er61,H⟩ := zp H
 obtain ⟨_,_,T,bk⟩ := S.sub [1,5,8] [] (zF s60 r57.1 :: oB b55 zk (tmC r50.1 s53) :: LT4)
 refine zB (zy ca_reduce_Run) zaI (reduce_Run_st (a1:=(ptN 3 0 [(ptN 11 r8.2.1 [(ptM 2 (bA #[120]) [r11])]),r24])) T er61) ?_
 rintro _ w62 ⟨s64,rfl,S2⟩
 replace S:=bk _ _ _ _ _ S2 rfl rfl
 refine wd (xb rfl) (wd (zo rfl rfl) (wd (zo rfl rfl) (wd (zo rfl rfl) (wd (zo rfl rfl) ?_))))
 refine zP xm zaI fun b66 w65 hw65=>?_
 replace S:=S.new hw65
 refine wsT rfl rfl (S.blk 0) fun w67 B hw67 zw67=>?_
 replace S:=S.store 0 B hw67
 refine wd (zi rfl) (wd (zh rfl) (wd (zi rfl) (zd (zb (za (wd (zq zT hv48_7 ((S.blk 3).all _ (Term.len _)) (Term.len _)) ?_))))))
 obtain ⟨r68,er68,H⟩ := zp H
 let LT3:List OA:=(oB b66 zk (tmC r61.1 s64) :: zF s60 r57.1 :: oB b55 zk (tmC r50.1 s53) :: LT4)
 obtain ⟨_,_,T,bk⟩ := S.sub [6] [] LT3
 refine zB (zy ko) zaI (kw (a0:=(ptN 3 0 [(ptN 11 r8.2.1 [(ptM 2 (bA #[120]) [r11])]),r24])) T er68) ?_
 rintro _ w69 ⟨s71,rfl,S2⟩
 replace S:=bk _ _ _ _ _ S2 rfl rfl
 refine wd (xb rfl) (wd (zo rfl rfl) (wd (zo rfl rfl) ?_))
 refine zP xm zaI fun b73 w72 hw72=>?_
 replace S:=S.new hw72
 refine wsT rfl rfl (S.blk 0) fun w74 B hw74 zw74=>?_
 replace S:=S.store 0 B hw74
 refine wd (zi rfl) (zd (zb (za (wd (zC rfl) ?_))))
 obtain ⟨r75,er75,H⟩ := zp H
 obtain ⟨_,_,T,bk⟩ := S.sub [] [] (oB b73 zk (tmC r68.1 s71) :: LT3)
 refine zB (zy vH) zaI (vK T er75) ?_
 rintro _ w76 ⟨s78,rfl,S2⟩
 replace S:=bk _ _ _ _ _ S2 rfl rfl
 obtain ⟨r79,er79,H⟩ := zp H
 obtain ⟨_,_,T,bk⟩ := S.calln 0 ((.z 4 rfl (.z 0 rfl (.z 11 rfl .nil))))
 refine zB (zy ca_reduce_Normal) zaI (reduce_Normal_st (a1:=r75) T er79) ?_
 rintro _ w80 ⟨rfl,S2⟩
 replace S:=bk _ _ _ _ S2 rfl
 refine wd (xb rfl) (wd (zo rfl rfl) (wd (zo rfl rfl) (wd (zh rfl) (wd (zi rfl) (zd (zb (za ?_)))))))
 refine wd (zC rfl) ?_
 obtain ⟨r82,er82,H⟩ := zp H
 obtain ⟨_,_,T,bk⟩ := S.sub [] [] (oB b73 zk (tmC r68.1 s71) :: LT3)
 refine zB (zy vH) zaI (vK T er82) ?_
 rintro _ w83 ⟨s85,rfl,S2⟩
 replace S:=bk _ _ _ _ _ S2 rfl rfl
 replace S:=S.nilZ 1 IC
 obtain ⟨r86,er86,H⟩ := zp H
 obtain ⟨_,_,T,bk⟩ := S.sub [6,1,0,13] [] (oB b73 zk (tmC r68.1 s71) :: LT3)
 refine zB (zK kH (zQ rfl (zQ rfl (zQ SlV.nil_eq rfl)))) zaI (kJ (a1:=r82) T er86) ?_
 rintro _ w87 ⟨s89,rfl,S2⟩
 replace S:=bk _ _ _ _ _ S2 rfl rfl
 refine wd (xb rfl) (wd (zo rfl rfl) (wd (zo rfl rfl) ?_))
 refine zP xm zaI fun b91 w90 hw90=>?_
 replace S:=S.new hw90
 refine wsT rfl rfl (S.blk 0) fun w92 B hw92 zw92=>?_
 replace S:=S.store 0 B hw92
 refine wd (zi rfl) (zd (zb (za (wd (zj rfl) (wd (zj rfl) ?_)))))
 obtain ⟨r93,er93,H⟩ := zp H
 obtain ⟨_,_,T,bk⟩ := S.sub [] [] (oB b91 zk (tmC r86.1 s89) :: oB b73 zk (tmC r68.1 s71) :: LT3)
 refine zB (zy vH) zaI (vK T er93) ?_
 rintro _ w94 ⟨s96,rfl,S2⟩
 replace S:=bk _ _ _ _ _ S2 rfl rfl
 refine vx (C:=Term.C) (l:=[(tmT r93 s96)]) (vs:=[.agg (tmC r93 s96).toArray]) zr uG.zero rfl rfl (fun a _=>Term.len a) zaI rfl zaI fun b98 w97 s99 hBw97 hw97=>?_
 replace S:=((S.lit hBw97 hw97 zaK).bigTm).consTm (x:=r93) 0
 replace S:=(S.frzTm 0 0).zs ([0] ++ rg 2 16)
 refine wd (Does.to (v' := .agg (Term.C (tmN 11 r5.2.1 s99)).toArray) (xh (vs:=[(0,.int .i64 11),(3,.int .i64 r5.2.1),(4,s99.v)]) yC (x5 rfl (x5 rfl (x5 rfl rfl))) (Bld.one rfl rfl (by rw [Term.len]; decide) (Term.set_kind _ _) (Bld.one rfl rfl (by rw [Term.len]; decide) (Term.set_form _ _) (Bld.one rfl (SlV.one _ _ rfl) (by rw [Term.len]; decide) (Term.set_sub _ _) Bld.nil)))) rfl) ?_
 refine vx (C:=Term.C) (l:=[(tmN 11 r5.2.1 s99)]) (vs:=[.agg (Term.C (tmN 11 r5.2.1 s99)).toArray]) zr uG.zero rfl rfl (fun a _=>Term.len a) zaI rfl zaI fun b101 w100 s102 hBw100 hw100=>?_
 replace S:=((S.lit hBw100 hw100 zaK).bigTm).consTm (x:=(ptN 11 r5.2.1 [r93])) 0
 replace S:=(S.frzTm 0 0).zs ([0] ++ rg 2 17)
 refine wd (Does.to (v' := .agg (Term.C (tmN 11 r5.2.1 s102)).toArray) (xh (vs:=[(0,.int .i64 11),(3,.int .i64 r5.2.1),(4,s102.v)]) yC (x5 rfl (x5 rfl (x5 rfl rfl))) (Bld.one rfl rfl (by rw [Term.len]; decide) (Term.set_kind _ _) (Bld.one rfl rfl (by rw [Term.len]; decide) (Term.set_form _ _) (Bld.one rfl (SlV.one _ _ rfl) (by rw [Term.len]; decide) (Term.set_sub _ _) Bld.nil)))) rfl) ?_
 refine zP xm zaI fun b104 w103 hw103=>?_
 replace S:=S.new hw103
 refine wsT rfl rfl (S.blk 0) fun w105 B hw105 zw105=>?_
 replace S:=S.store 0 B hw105
 refine zd (zb ?_)
 obtain ⟨r130,er130,H⟩ := zp H
 obtain ⟨hg133,H⟩ := zV H
 obtain ⟨r134,er134,H⟩ := zp H
 obtain ⟨hg137,H⟩ := zV H
 obtain ⟨r138,er138,H⟩ := zp H
 obtain ⟨hg141,H⟩ := zV H
 obtain ⟨r148,er148,H⟩ := zp H
 obtain ⟨hg151,H⟩ := zV H
 obtain ⟨r152,er152,H⟩ := zp H
 obtain ⟨hg155,H⟩ := zV H
 obtain ⟨hg156,H⟩ := zV H
 obtain ⟨hg157,H⟩ := zV H
 obtain ⟨r158,er158,H⟩ := zp H
 obtain ⟨r162,er162,H⟩ := zp H
 obtain ⟨hg165,H⟩ := zV H
 obtain ⟨r166,er166,H⟩ := zp H
 obtain ⟨hg169,H⟩ := zV H
 let LT1:List OA:=[ze s102 ([(ptN 11 r5.2.1 [r93])]),ze s99 ([r93]),ze s96 r93.sub,ze s89 r86.1.sub,fS 1 IC SlV.nil ([]),ze s85 r82.sub,ze s78 r75.sub,ze s71 r68.1.sub,ze s64 r61.1.sub,ze s53 r50.1.sub,oT a4 r8.1,fS 1 IC SlV.nil ([]),ze s23 ([(ptM 2 (bA #[120]) [r11])]),ze s27 r24.sub,ze s30 ([(ptN 11 r8.2.1 [(ptM 2 (bA #[120]) [r11])]),r24]),ze s17 ([r11]),ze s14 r11.sub,oPw]
 let LT2:List OA:=(oB b104 zk (Term.C (tmN 11 r5.2.1 s102)) :: oB b91 zk (tmC r86.1 s89) :: oB b73 zk (tmC r68.1 s71) :: LT3)
 refine yw 47 ⟨fun _ _=>True,fun _ _ _=>True,fun i v _=>match i with
  | 0=>v=Value.int .i64 r50.2
  | 1=>v=Value.int .i64 r130
  | 2=>v=Value.bool (decide (r130=0))
  | 3=>v=Value.bool (decide (r130=0))
  | 4=>v=Value.agg (tmC r50.1 s53).toArray
  | 5=>v=Value.agg (Term.C (tmN 11 r5.2.1 s102)).toArray
  | 6=>v=Value.bool r134
  | 7=>v=Value.bool ((decide (r130=0)) && r134)
  | 8=>v=Value.bool ((decide (r130=0)) && r134)
  | 9=>v=Value.int .i64 r57.2
  | 10=>v=Value.int .i64 r138
  | 11=>v=Value.bool (decide (r138=0))
  | 12=>v=Value.bool (((decide (r130=0)) && r134) && (decide (r138=0)))
  | 13=>v=Value.bool (((decide (r130=0)) && r134) && (decide (r138=0)))
  | 14=>v=s60.v
  | 17=>v=Value.bool r148
  | 18=>v=Value.bool ((((decide (r130=0)) && r134) && (decide (r138=0))) && r148)
  | 19=>v=Value.bool ((((decide (r130=0)) && r134) && (decide (r138=0))) && r148)
  | 20=>v=Value.int .i64 r61.2.2.2
  | 21=>v=Value.int .i64 r152
  | 22=>v=Value.bool (decide (r152=0))
  | 23=>v=Value.bool (((((decide (r130=0)) && r134) && (decide (r138=0))) && r148) && (decide (r152=0)))
  | 24=>v=Value.bool (((((decide (r130=0)) && r134) && (decide (r138=0))) && r148) && (decide (r152=0)))
  | 25=>v=Value.int .i64 r61.2.1
  | 26=>v=Value.bool (decide (r61.2.1=3))
  | 27=>v=Value.bool ((((((decide (r130=0)) && r134) && (decide (r138=0))) && r148) && (decide (r152=0))) && (decide (r61.2.1=3)))
  | 28=>v=Value.bool ((((((decide (r130=0)) && r134) && (decide (r138=0))) && r148) && (decide (r152=0))) && (decide (r61.2.1=3)))
  | 29=>v=Value.bool r61.2.2.1
  | 30=>v=Value.bool (((((((decide (r130=0)) && r134) && (decide (r138=0))) && r148) && (decide (r152=0))) && (decide (r61.2.1=3))) && r61.2.2.1)
  | 31=>v=Value.bool (((((((decide (r130=0)) && r134) && (decide (r138=0))) && r148) && (decide (r152=0))) && (decide (r61.2.1=3))) && r61.2.2.1)
  | 32=>v=Value.agg (tmC r61.1 s64).toArray
  | 34=>v=Value.bool r162
  | 35=>v=Value.bool ((((((((decide (r130=0)) && r134) && (decide (r138=0))) && r148) && (decide (r152=0))) && (decide (r61.2.1=3))) && r61.2.2.1) && r162)
  | 36=>v=Value.bool ((((((((decide (r130=0)) && r134) && (decide (r138=0))) && r148) && (decide (r152=0))) && (decide (r61.2.1=3))) && r61.2.2.1) && r162)
  | 37=>v=Value.int .i64 r68.2
  | 38=>v=Value.int .i64 r166
  | 39=>v=Value.bool (decide (r166=0))
  | 40=>v=Value.bool (((((((((decide (r130=0)) && r134) && (decide (r138=0))) && r148) && (decide (r152=0))) && (decide (r61.2.1=3))) && r61.2.2.1) && r162) && (decide (r166=0)))
  | 41=>v=Value.bool (((((((((decide (r130=0)) && r134) && (decide (r138=0))) && r148) && (decide (r152=0))) && (decide (r61.2.1=3))) && r61.2.2.1) && r162) && (decide (r166=0)))
  | 42=>v=Value.agg (tmC r68.1 s71).toArray
  | 43=>v=Value.agg (Term.C (tmM 2 (bA #[120]) s17)).toArray
  | _=>True⟩ (fun L g v=>bif L 45 then (∃ (s144:SlV) (s147:SlV) (s161:SlV) (s173:SlV) (s176:SlV),(L 15=true→g 105=s144.v)∧(L 16=true→g 106=s147.v)∧(L 33=true→g 123=Value.agg (tmC r158 s161).toArray)∧(L 44=true→g 134=Value.agg (tmC r158 s173).toArray)∧(L 45=true→g 135=s176.v)∧(L 46=true→g 136=Value.agg (Term.C (tmN 3 0 s176)).toArray)∧St A N w v (zF s147 ([([]:List Int),[0]]) :: LT2) (ze s176 ([(ptM 2 (bA #[120]) [r11]),r158]) :: ze s173 r158.sub :: ze s161 r158.sub :: LT1)) else bif L 44 then (∃ (s144:SlV) (s147:SlV) (s161:SlV) (s173:SlV),(L 15=true→g 105=s144.v)∧(L 16=true→g 106=s147.v)∧(L 33=true→g 123=Value.agg (tmC r158 s161).toArray)∧(L 44=true→g 134=Value.agg (tmC r158 s173).toArray)∧St A N w v (zF s147 ([([]:List Int),[0]]) :: LT2) (ze s173 r158.sub :: ze s161 r158.sub :: LT1)) else bif L 33 then (∃ (s144:SlV) (s147:SlV) (s161:SlV),(L 15=true→g 105=s144.v)∧(L 16=true→g 106=s147.v)∧(L 33=true→g 123=Value.agg (tmC r158 s161).toArray)∧St A N w v (zF s147 ([([]:List Int),[0]]) :: LT2) (ze s161 r158.sub :: LT1)) else bif L 17 then (∃ (s144:SlV) (s147:SlV),(L 15=true→g 105=s144.v)∧(L 16=true→g 106=s147.v)∧St A N w v (zF s147 ([([]:List Int),[0]]) :: LT2) LT1) else bif L 16 then (∃ (s144:SlV) (s147:SlV),(L 15=true→g 105=s144.v)∧(L 16=true→g 106=s147.v)∧St A N w v (oS xE 1 LC s147 ([SlV.nil,s144]) :: oS xF 1 IC s144 ([0]) :: LT2) LT1) else bif L 15 then (∃ (s144:SlV),(L 15=true→g 105=s144.v)∧St A N w v (oS xF 1 IC s144 ([0]) :: LT2) LT1) else (St A N w v LT2 LT1)) hmix zaL (fun _ _ _ _ _ _ _ hv=>hv) (fun g=>S.ext (Ext.drawn _)) ⟨?_,?_,?_,?_,?_,?_,?_,?_,?_,?_,?_,?_,?_,?_,?_,?_,?_,?_,?_,?_,?_,?_,?_,?_,?_,?_,?_,?_,?_,?_,?_,?_,?_,?_,?_,?_,?_,?_,?_,?_,?_,?_,?_,?_,?_,?_,?_,trivial⟩ ?_
 ·rintro L g v hL hcl hclo hT 
  have hl15:=clF hL (hclo 15 0 · zaL)
  have hl16:=clF hL (hclo 16 0 · zaL)
  have hl17:=clF hL (hclo 17 0 · zaL)
  have hl33:=clF hL (hclo 33 0 · zaL)
  have hl44:=clF hL (hclo 44 0 · zaL)
  have hl45:=clF hL (hclo 45 0 · zaL)
  simp only [hl15,hl16,hl17,hl33,hl44,hl45,cd2] at hT
  replace S:=hT
  refine wd (zj rfl) ?_
  exact w4 rfl (by simp only [pN L 0 15,pN L 0 16,pN L 0 17,pN L 0 33,pN L 0 44,pN L 0 45,hl15,hl16,hl17,hl33,hl44,hl45,cd2]; exact S)
 ·rintro L g v hL hcl hclo hT hv0
  have hl15:=clF hL (hclo 15 1 · zaL)
  have hl16:=clF hL (hclo 16 1 · zaL)
  have hl17:=clF hL (hclo 17 1 · zaL)
  have hl33:=clF hL (hclo 33 1 · zaL)
  have hl44:=clF hL (hclo 44 1 · zaL)
  have hl45:=clF hL (hclo 45 1 · zaL)
  simp only [hl15,hl16,hl17,hl33,hl44,hl45,cd2] at hT
  replace S:=hT
  obtain ⟨_,_,T,bk⟩ := S.calln 0 ((.nil))
  refine zB (zK yq (zQ hv0 rfl)) zaI (yr T er130) ?_
  rintro _ w178 ⟨rfl,S2⟩
  replace S:=bk _ _ _ _ S2 rfl
  exact w4 rfl (by simp only [pN L 1 15,pN L 1 16,pN L 1 17,pN L 1 33,pN L 1 44,pN L 1 45,hl15,hl16,hl17,hl33,hl44,hl45,cd2]; exact S)
 ·rintro L g v hL hcl hclo hT hv1
  have hl15:=clF hL (hclo 15 2 · zaL)
  have hl16:=clF hL (hclo 16 2 · zaL)
  have hl17:=clF hL (hclo 17 2 · zaL)
  have hl33:=clF hL (hclo 33 2 · zaL)
  have hl44:=clF hL (hclo 44 2 · zaL)
  have hl45:=clF hL (hclo 45 2 · zaL)
  simp only [hl15,hl16,hl17,hl33,hl44,hl45,cd2] at hT
  replace S:=hT
  refine wd (zS hv1 rfl) ?_
  exact w4 rfl (by simp only [pN L 2 15,pN L 2 16,pN L 2 17,pN L 2 33,pN L 2 44,pN L 2 45,hl15,hl16,hl17,hl33,hl44,hl45,cd2]; exact S)
 ·rintro L g v hL hcl hclo hT hv2
  have hl15:=clF hL (hclo 15 3 · zaL)
  have hl16:=clF hL (hclo 16 3 · zaL)
  have hl17:=clF hL (hclo 17 3 · zaL)
  have hl33:=clF hL (hclo 33 3 · zaL)
  have hl44:=clF hL (hclo 44 3 · zaL)
  have hl45:=clF hL (hclo 45 3 · zaL)
  simp only [hl15,hl16,hl17,hl33,hl44,hl45,cd2] at hT
  replace S:=hT
  refine wd (zA hv2) ?_
  exact w4 rfl (by simp only [pN L 3 15,pN L 3 16,pN L 3 17,pN L 3 33,pN L 3 44,pN L 3 45,hl15,hl16,hl17,hl33,hl44,hl45,cd2]; exact S)
 ·rintro L g v hL hcl hclo hT hv3
  refine yA (j:=3) (pol:=true) rfl rfl hv3 zaI (by simpa using hg133) ?_
  have hl15:=clF hL (hclo 15 4 · zaL)
  have hl16:=clF hL (hclo 16 4 · zaL)
  have hl17:=clF hL (hclo 17 4 · zaL)
  have hl33:=clF hL (hclo 33 4 · zaL)
  have hl44:=clF hL (hclo 44 4 · zaL)
  have hl45:=clF hL (hclo 45 4 · zaL)
  simp only [hl15,hl16,hl17,hl33,hl44,hl45,cd2] at hT
  replace S:=hT
  refine wd (ldT rfl (S.blk 5)) ?_
  exact w4 rfl (by simp only [pN L 4 15,pN L 4 16,pN L 4 17,pN L 4 33,pN L 4 44,pN L 4 45,hl15,hl16,hl17,hl33,hl44,hl45,cd2]; exact S)
 ·rintro L g v hL hcl hclo hT hv3
  refine yA (j:=3) (pol:=true) rfl rfl hv3 zaI (by simpa using hg133) ?_
  have hl15:=clF hL (hclo 15 5 · zaL)
  have hl16:=clF hL (hclo 16 5 · zaL)
  have hl17:=clF hL (hclo 17 5 · zaL)
  have hl33:=clF hL (hclo 33 5 · zaL)
  have hl44:=clF hL (hclo 44 5 · zaL)
  have hl45:=clF hL (hclo 45 5 · zaL)
  simp only [hl15,hl16,hl17,hl33,hl44,hl45,cd2] at hT
  replace S:=hT
  refine wd (ldT rfl (S.blk 0)) ?_
  exact w4 rfl (by simp only [pN L 5 15,pN L 5 16,pN L 5 17,pN L 5 33,pN L 5 44,pN L 5 45,hl15,hl16,hl17,hl33,hl44,hl45,cd2]; exact S)
 ·rintro L g v hL hcl hclo hT hv4 hv5 hv3
  refine yA (j:=3) (pol:=true) rfl rfl hv3 zaI (by simpa using hg133) ?_
  have hl15:=clF hL (hclo 15 6 · zaL)
  have hl16:=clF hL (hclo 16 6 · zaL)
  have hl17:=clF hL (hclo 17 6 · zaL)
  have hl33:=clF hL (hclo 33 6 · zaL)
  have hl44:=clF hL (hclo 44 6 · zaL)
  have hl45:=clF hL (hclo 45 6 · zaL)
  simp only [hl15,hl16,hl17,hl33,hl44,hl45,cd2] at hT
  replace S:=hT
  obtain ⟨_,_,T,bk⟩ := S.calln 0 ((.z 9 rfl (.z 0 rfl .nil)))
  refine zB (zK j1 (zQ hv4 (zQ hv5 rfl))) zaI (zat (a0:=r50.1) (a1:=(ptN 11 r5.2.1 [(ptN 11 r5.2.1 [r93])])) T er134) ?_
  rintro _ w181 ⟨rfl,S2⟩
  replace S:=bk _ _ _ _ S2 rfl
  exact w4 rfl (by simp only [pN L 6 15,pN L 6 16,pN L 6 17,pN L 6 33,pN L 6 44,pN L 6 45,hl15,hl16,hl17,hl33,hl44,hl45,cd2]; exact S)
 ·rintro L g v hL hcl hclo hT hv3 hv6
  have hl15:=clF hL (hclo 15 7 · zaL)
  have hl16:=clF hL (hclo 16 7 · zaL)
  have hl17:=clF hL (hclo 17 7 · zaL)
  have hl33:=clF hL (hclo 33 7 · zaL)
  have hl44:=clF hL (hclo 44 7 · zaL)
  have hl45:=clF hL (hclo 45 7 · zaL)
  simp only [hl15,hl16,hl17,hl33,hl44,hl45,cd2] at hT
  replace S:=hT
  refine wd (z7 hv3 (fun hp=>hv6)) ?_
  exact w4 rfl (by simp only [pN L 7 15,pN L 7 16,pN L 7 17,pN L 7 33,pN L 7 44,pN L 7 45,hl15,hl16,hl17,hl33,hl44,hl45,cd2]; exact S)
 ·rintro L g v hL hcl hclo hT hv7
  have hl15:=clF hL (hclo 15 8 · zaL)
  have hl16:=clF hL (hclo 16 8 · zaL)
  have hl17:=clF hL (hclo 17 8 · zaL)
  have hl33:=clF hL (hclo 33 8 · zaL)
  have hl44:=clF hL (hclo 44 8 · zaL)
  have hl45:=clF hL (hclo 45 8 · zaL)
  simp only [hl15,hl16,hl17,hl33,hl44,hl45,cd2] at hT
  replace S:=hT
  refine wd (zA hv7) ?_
  exact w4 rfl (by simp only [pN L 8 15,pN L 8 16,pN L 8 17,pN L 8 33,pN L 8 44,pN L 8 45,hl15,hl16,hl17,hl33,hl44,hl45,cd2]; exact S)
 ·rintro L g v hL hcl hclo hT hv8
  refine yA (j:=8) (pol:=true) rfl rfl hv8 zaI (by simpa using hg137) ?_
  have hl15:=clF hL (hclo 15 9 · zaL)
  have hl16:=clF hL (hclo 16 9 · zaL)
  have hl17:=clF hL (hclo 17 9 · zaL)
  have hl33:=clF hL (hclo 33 9 · zaL)
  have hl44:=clF hL (hclo 44 9 · zaL)
  have hl45:=clF hL (hclo 45 9 · zaL)
  simp only [hl15,hl16,hl17,hl33,hl44,hl45,cd2] at hT
  replace S:=hT
  refine wd (zj rfl) ?_
  exact w4 rfl (by simp only [pN L 9 15,pN L 9 16,pN L 9 17,pN L 9 33,pN L 9 44,pN L 9 45,hl15,hl16,hl17,hl33,hl44,hl45,cd2]; exact S)
 ·rintro L g v hL hcl hclo hT hv9 hv8
  refine yA (j:=8) (pol:=true) rfl rfl hv8 zaI (by simpa using hg137) ?_
  have hl15:=clF hL (hclo 15 10 · zaL)
  have hl16:=clF hL (hclo 16 10 · zaL)
  have hl17:=clF hL (hclo 17 10 · zaL)
  have hl33:=clF hL (hclo 33 10 · zaL)
  have hl44:=clF hL (hclo 44 10 · zaL)
  have hl45:=clF hL (hclo 45 10 · zaL)
  simp only [hl15,hl16,hl17,hl33,hl44,hl45,cd2] at hT
  replace S:=hT
  obtain ⟨_,_,T,bk⟩ := S.calln 0 ((.nil))
  refine zB (zK yq (zQ hv9 rfl)) zaI (yr T er138) ?_
  rintro _ w184 ⟨rfl,S2⟩
  replace S:=bk _ _ _ _ S2 rfl
  exact w4 rfl (by simp only [pN L 10 15,pN L 10 16,pN L 10 17,pN L 10 33,pN L 10 44,pN L 10 45,hl15,hl16,hl17,hl33,hl44,hl45,cd2]; exact S)
 ·rintro L g v hL hcl hclo hT hv10 hv8
  refine yA (j:=8) (pol:=true) rfl rfl hv8 zaI (by simpa using hg137) ?_
  have hl15:=clF hL (hclo 15 11 · zaL)
  have hl16:=clF hL (hclo 16 11 · zaL)
  have hl17:=clF hL (hclo 17 11 · zaL)
  have hl33:=clF hL (hclo 33 11 · zaL)
  have hl44:=clF hL (hclo 44 11 · zaL)
  have hl45:=clF hL (hclo 45 11 · zaL)
  simp only [hl15,hl16,hl17,hl33,hl44,hl45,cd2] at hT
  replace S:=hT
  refine wd (zS hv10 rfl) ?_
  exact w4 rfl (by simp only [pN L 11 15,pN L 11 16,pN L 11 17,pN L 11 33,pN L 11 44,pN L 11 45,hl15,hl16,hl17,hl33,hl44,hl45,cd2]; exact S)
 ·rintro L g v hL hcl hclo hT hv8 hv11
  have hl15:=clF hL (hclo 15 12 · zaL)
  have hl16:=clF hL (hclo 16 12 · zaL)
  have hl17:=clF hL (hclo 17 12 · zaL)
  have hl33:=clF hL (hclo 33 12 · zaL)
  have hl44:=clF hL (hclo 44 12 · zaL)
  have hl45:=clF hL (hclo 45 12 · zaL)
  simp only [hl15,hl16,hl17,hl33,hl44,hl45,cd2] at hT
  replace S:=hT
  refine wd (z7 hv8 (fun hp=>hv11)) ?_
  exact w4 rfl (by simp only [pN L 12 15,pN L 12 16,pN L 12 17,pN L 12 33,pN L 12 44,pN L 12 45,hl15,hl16,hl17,hl33,hl44,hl45,cd2]; exact S)
 ·rintro L g v hL hcl hclo hT hv12
  have hl15:=clF hL (hclo 15 13 · zaL)
  have hl16:=clF hL (hclo 16 13 · zaL)
  have hl17:=clF hL (hclo 17 13 · zaL)
  have hl33:=clF hL (hclo 33 13 · zaL)
  have hl44:=clF hL (hclo 44 13 · zaL)
  have hl45:=clF hL (hclo 45 13 · zaL)
  simp only [hl15,hl16,hl17,hl33,hl44,hl45,cd2] at hT
  replace S:=hT
  refine wd (zA hv12) ?_
  exact w4 rfl (by simp only [pN L 13 15,pN L 13 16,pN L 13 17,pN L 13 33,pN L 13 44,pN L 13 45,hl15,hl16,hl17,hl33,hl44,hl45,cd2]; exact S)
 ·rintro L g v hL hcl hclo hT hv13
  refine yA (j:=13) (pol:=true) rfl rfl hv13 zaI (by simpa using hg141) ?_
  have hl17:=clF hL (hclo 17 14 · zaL)
  have hl33:=clF hL (hclo 33 14 · zaL)
  have hl44:=clF hL (hclo 44 14 · zaL)
  have hl45:=clF hL (hclo 45 14 · zaL)
  cases hl16:L 16 with
  | true =>
   replace hT : ∃ (s144:SlV) (s147:SlV),(L 15=true→g 105=s144.v)∧(L 16=true→g 106=s147.v)∧St A N w v (oS xE 1 LC s147 ([SlV.nil,s144]) :: oS xF 1 IC s144 ([0]) :: LT2) LT1:=by simp only [hl16,hl17,hl33,hl44,hl45,cd2] at hT ⊢; exact hT
   obtain ⟨s144,s147,he15,he16,S⟩ := hT
   refine wd (zN rfl) ?_
   have hT2 : ∃ (s144':SlV) (s147':SlV),((plus L 14) 15=true→(upd g 104 (s60.v)) 105=s144'.v)∧((plus L 14) 16=true→(upd g 104 (s60.v)) 106=s147'.v)∧St A N w v (oS xE 1 LC s147' ([SlV.nil,s144']) :: oS xF 1 IC s144' ([0]) :: LT2) LT1:=⟨s144,s147,kpU he15,kpU he16,S⟩
   exact w4 rfl (by simp only [pN L 14 15,pN L 14 16,pN L 14 17,pN L 14 33,pN L 14 44,pN L 14 45,hl16,hl17,hl33,hl44,hl45,cd2] at hT2 ⊢; exact hT2)
  | false =>
   cases hl15:L 15 with
   | true =>
    replace hT : ∃ (s144:SlV),(L 15=true→g 105=s144.v)∧St A N w v (oS xF 1 IC s144 ([0]) :: LT2) LT1:=by simp only [hl15,hl16,hl17,hl33,hl44,hl45,cd2] at hT ⊢; exact hT
    obtain ⟨s144,he15,S⟩ := hT
    refine wd (zN rfl) ?_
    have hT2 : ∃ (s144':SlV),((plus L 14) 15=true→(upd g 104 (s60.v)) 105=s144'.v)∧St A N w v (oS xF 1 IC s144' ([0]) :: LT2) LT1:=⟨s144,kpU he15,S⟩
    exact w4 rfl (by simp only [pN L 14 15,pN L 14 16,pN L 14 17,pN L 14 33,pN L 14 44,pN L 14 45,hl15,hl16,hl17,hl33,hl44,hl45,cd2] at hT2 ⊢; exact hT2)
   | false =>
    simp only [hl15,hl16,hl17,hl33,hl44,hl45,cd2] at hT
    replace S:=hT
    refine wd (zN rfl) ?_
    exact w4 rfl (by simp only [pN L 14 15,pN L 14 16,pN L 14 17,pN L 14 33,pN L 14 44,pN L 14 45,hl15,hl16,hl17,hl33,hl44,hl45,cd2]; exact S)
 ·rintro L g v hL hcl hclo hT hv13
  refine yA (j:=13) (pol:=true) rfl rfl hv13 zaI (by simpa using hg141) ?_
  have hl15:L 15=false:=hL
  have hl16:=clF hL (hclo 16 15 · zaL)
  have hl17:=clF hL (hclo 17 15 · zaL)
  have hl33:=clF hL (hclo 33 15 · zaL)
  have hl44:=clF hL (hclo 44 15 · zaL)
  have hl45:=clF hL (hclo 45 15 · zaL)
  simp only [hl15,hl16,hl17,hl33,hl44,hl45,cd2] at hT
  replace S:=hT
  refine vx (C:=IC) (l:=[0]) (vs:=[.int .i64 0]) xK el_int.zero rfl rfl (fun _ _=>rfl) zaI rfl zaI fun b187 w186 s144 hBw186 hw186=>?_
  replace S:=S.lit hBw186 hw186 zaK
  have hT2 : ∃ (s144':SlV),((plus L 15) 15=true→(upd g 105 (s144.v)) 105=s144'.v)∧St A N w w186 (oS xF 1 IC s144' ([0]) :: LT2) LT1:=⟨s144,fun _=>upd_same _ _ _,S⟩
  exact w4 trivial (by simp only [pN L 15 16,pN L 15 17,pN L 15 33,pN L 15 44,pN L 15 45,xM (L:=L) (i:=15),hl16,hl17,hl33,hl44,hl45,cd2] at hT2 ⊢; exact hT2)
 ·rintro L g v hL hcl hclo hT hv15 hv13
  refine yA (j:=13) (pol:=true) rfl rfl hv13 zaI (by simpa using hg141) ?_
  have hl15:L 15=true:=hcl 15 zaL
  have hl16:L 16=false:=hL
  have hl17:=clF hL (hclo 17 16 · zaL)
  have hl33:=clF hL (hclo 33 16 · zaL)
  have hl44:=clF hL (hclo 44 16 · zaL)
  have hl45:=clF hL (hclo 45 16 · zaL)
  replace hT : ∃ (s144:SlV),(L 15=true→g 105=s144.v)∧St A N w v (oS xF 1 IC s144 ([0]) :: LT2) LT1:=by simp only [hl15,hl16,hl17,hl33,hl44,hl45,cd2] at hT ⊢; exact hT
  obtain ⟨s144,he15,S⟩ := hT
  refine vx (C:=LC) (l:=[SlV.nil,s144]) (vs:=[SlV.nil.v,s144.v]) yv el_L_int.zero (x5 SlV.nil_eq (x5 (he15 (hcl 15 zaL)) rfl)) (by simp only [List.map_cons,List.map_nil,SlV.cells,LC]) (fun _ _=>rfl) zaI rfl zaI fun b190 w189 s147 hBw189 hw189=>?_
  replace S:=S.lit hBw189 hw189 zaK
  have hT2 : ∃ (s144':SlV) (s147':SlV),((plus L 16) 15=true→(upd g 106 (s147.v)) 105=s144'.v)∧((plus L 16) 16=true→(upd g 106 (s147.v)) 106=s147'.v)∧St A N w w189 (oS xE 1 LC s147' ([SlV.nil,s144']) :: oS xF 1 IC s144' ([0]) :: LT2) LT1:=⟨s144,s147,kpU he15,fun _=>upd_same _ _ _,S⟩
  exact w4 trivial (by simp only [pN L 16 15,pN L 16 17,pN L 16 33,pN L 16 44,pN L 16 45,xM (L:=L) (i:=16),hl17,hl33,hl44,hl45,cd2] at hT2 ⊢; exact hT2)
 ·rintro L g v hL hcl hclo hT hv14 hv16 hv13
  refine yA (j:=13) (pol:=true) rfl rfl hv13 zaI (by simpa using hg141) ?_
  have hl16:L 16=true:=hcl 16 zaL
  have hl17:L 17=false:=hL
  have hl33:=clF hL (hclo 33 17 · zaL)
  have hl44:=clF hL (hclo 44 17 · zaL)
  have hl45:=clF hL (hclo 45 17 · zaL)
  replace hT : ∃ (s144:SlV) (s147:SlV),(L 15=true→g 105=s144.v)∧(L 16=true→g 106=s147.v)∧St A N w v (oS xE 1 LC s147 ([SlV.nil,s144]) :: oS xF 1 IC s144 ([0]) :: LT2) LT1:=by simp only [hl16,hl17,hl33,hl44,hl45,cd2] at hT ⊢; exact hT
  obtain ⟨s144,s147,he15,he16,S⟩ := hT
  replace S:=((S.nil xF 1 IC).putp trivial).front 3
  replace S:=((S.star.front 1).star).front 1
  replace S:St A N w v (zF s147 ([([]:List Int),[0]]) :: LT2) LT1:=St.shutD (ms:=[SlV.nil,s144]) S
  obtain ⟨_,_,T,bk⟩ := S.calln 0 ((.o 5 rfl (.o 0 rfl .nil)))
  refine zB (zK ca_ref14_Ways (zQ hv14 (zQ (he16 (hcl 16 zaL)) rfl))) zaI (ref14_Ways_st T er148) ?_
  rintro _ w193 ⟨rfl,S2⟩
  replace S:=bk _ _ _ _ S2 rfl
  have hT2 : ∃ (s144':SlV) (s147':SlV),((plus L 17) 15=true→(upd g 107 (Value.bool r148)) 105=s144'.v)∧((plus L 17) 16=true→(upd g 107 (Value.bool r148)) 106=s147'.v)∧St A N w w193 (zF s147' ([([]:List Int),[0]]) :: LT2) LT1:=⟨s144,s147,kpU he15,kpU he16,S⟩
  exact w4 rfl (by simp only [pN L 17 15,pN L 17 16,pN L 17 33,pN L 17 44,pN L 17 45,xM (L:=L) (i:=17),hl33,hl44,hl45,cd2] at hT2 ⊢; exact hT2)
 ·rintro L g v hL hcl hclo hT hv13 hv17
  have hl17:L 17=true:=hcl 17 zaL
  have hl33:=clF hL (hclo 33 18 · zaL)
  have hl44:=clF hL (hclo 44 18 · zaL)
  have hl45:=clF hL (hclo 45 18 · zaL)
  replace hT : ∃ (s144:SlV) (s147:SlV),(L 15=true→g 105=s144.v)∧(L 16=true→g 106=s147.v)∧St A N w v (zF s147 ([([]:List Int),[0]]) :: LT2) LT1:=by simp only [hl17,hl33,hl44,hl45,cd2] at hT ⊢; exact hT
  obtain ⟨s144,s147,he15,he16,S⟩ := hT
  refine wd (z7 hv13 (fun hp=>hv17)) ?_
  have hT2 : ∃ (s144':SlV) (s147':SlV),((plus L 18) 15=true→(upd g 108 (Value.bool ((((decide (r130=0)) && r134) && (decide (r138=0))) && r148))) 105=s144'.v)∧((plus L 18) 16=true→(upd g 108 (Value.bool ((((decide (r130=0)) && r134) && (decide (r138=0))) && r148))) 106=s147'.v)∧St A N w v (zF s147' ([([]:List Int),[0]]) :: LT2) LT1:=⟨s144,s147,kpU he15,kpU he16,S⟩
  exact w4 rfl (by simp only [pN L 18 15,pN L 18 16,pN L 18 17,pN L 18 33,pN L 18 44,pN L 18 45,hl17,hl33,hl44,hl45,cd2] at hT2 ⊢; exact hT2)
 ·rintro L g v hL hcl hclo hT hv18
  have hl17:L 17=true:=hcl 17 zaL
  have hl33:=clF hL (hclo 33 19 · zaL)
  have hl44:=clF hL (hclo 44 19 · zaL)
  have hl45:=clF hL (hclo 45 19 · zaL)
  replace hT : ∃ (s144:SlV) (s147:SlV),(L 15=true→g 105=s144.v)∧(L 16=true→g 106=s147.v)∧St A N w v (zF s147 ([([]:List Int),[0]]) :: LT2) LT1:=by simp only [hl17,hl33,hl44,hl45,cd2] at hT ⊢; exact hT
  obtain ⟨s144,s147,he15,he16,S⟩ := hT
  refine wd (zA hv18) ?_
  have hT2 : ∃ (s144':SlV) (s147':SlV),((plus L 19) 15=true→(upd g 109 (Value.bool ((((decide (r130=0)) && r134) && (decide (r138=0))) && r148))) 105=s144'.v)∧((plus L 19) 16=true→(upd g 109 (Value.bool ((((decide (r130=0)) && r134) && (decide (r138=0))) && r148))) 106=s147'.v)∧St A N w v (zF s147' ([([]:List Int),[0]]) :: LT2) LT1:=⟨s144,s147,kpU he15,kpU he16,S⟩
  exact w4 rfl (by simp only [pN L 19 15,pN L 19 16,pN L 19 17,pN L 19 33,pN L 19 44,pN L 19 45,hl17,hl33,hl44,hl45,cd2] at hT2 ⊢; exact hT2)
 ·rintro L g v hL hcl hclo hT hv19
  refine yA (j:=19) (pol:=true) rfl rfl hv19 zaI (by simpa using hg151) ?_
  have hl17:L 17=true:=hcl 17 zaL
  have hl33:=clF hL (hclo 33 20 · zaL)
  have hl44:=clF hL (hclo 44 20 · zaL)
  have hl45:=clF hL (hclo 45 20 · zaL)
  replace hT : ∃ (s144:SlV) (s147:SlV),(L 15=true→g 105=s144.v)∧(L 16=true→g 106=s147.v)∧St A N w v (zF s147 ([([]:List Int),[0]]) :: LT2) LT1:=by simp only [hl17,hl33,hl44,hl45,cd2] at hT ⊢; exact hT
  obtain ⟨s144,s147,he15,he16,S⟩ := hT
  refine wd (zj rfl) ?_
  have hT2 : ∃ (s144':SlV) (s147':SlV),((plus L 20) 15=true→(upd g 110 (Value.int .i64 r61.2.2.2)) 105=s144'.v)∧((plus L 20) 16=true→(upd g 110 (Value.int .i64 r61.2.2.2)) 106=s147'.v)∧St A N w v (zF s147' ([([]:List Int),[0]]) :: LT2) LT1:=⟨s144,s147,kpU he15,kpU he16,S⟩
  exact w4 rfl (by simp only [pN L 20 15,pN L 20 16,pN L 20 17,pN L 20 33,pN L 20 44,pN L 20 45,hl17,hl33,hl44,hl45,cd2] at hT2 ⊢; exact hT2)
 ·rintro L g v hL hcl hclo hT hv20 hv19
  refine yA (j:=19) (pol:=true) rfl rfl hv19 zaI (by simpa using hg151) ?_
  have hl17:L 17=true:=hcl 17 zaL
  have hl33:=clF hL (hclo 33 21 · zaL)
  have hl44:=clF hL (hclo 44 21 · zaL)
  have hl45:=clF hL (hclo 45 21 · zaL)
  replace hT : ∃ (s144:SlV) (s147:SlV),(L 15=true→g 105=s144.v)∧(L 16=true→g 106=s147.v)∧St A N w v (zF s147 ([([]:List Int),[0]]) :: LT2) LT1:=by simp only [hl17,hl33,hl44,hl45,cd2] at hT ⊢; exact hT
  obtain ⟨s144,s147,he15,he16,S⟩ := hT
  obtain ⟨_,_,T,bk⟩ := S.calln 0 ((.nil))
  refine zB (zK yq (zQ hv20 rfl)) zaI (yr T er152) ?_
  rintro _ w196 ⟨rfl,S2⟩
  replace S:=bk _ _ _ _ S2 rfl
  have hT2 : ∃ (s144':SlV) (s147':SlV),((plus L 21) 15=true→(upd g 111 (Value.int .i64 r152)) 105=s144'.v)∧((plus L 21) 16=true→(upd g 111 (Value.int .i64 r152)) 106=s147'.v)∧St A N w w196 (zF s147' ([([]:List Int),[0]]) :: LT2) LT1:=⟨s144,s147,kpU he15,kpU he16,S⟩
  exact w4 rfl (by simp only [pN L 21 15,pN L 21 16,pN L 21 17,pN L 21 33,pN L 21 44,pN L 21 45,hl17,hl33,hl44,hl45,cd2] at hT2 ⊢; exact hT2)
 ·rintro L g v hL hcl hclo hT hv21 hv19
  refine yA (j:=19) (pol:=true) rfl rfl hv19 zaI (by simpa using hg151) ?_
  have hl17:L 17=true:=hcl 17 zaL
  have hl33:=clF hL (hclo 33 22 · zaL)
  have hl44:=clF hL (hclo 44 22 · zaL)
  have hl45:=clF hL (hclo 45 22 · zaL)
  replace hT : ∃ (s144:SlV) (s147:SlV),(L 15=true→g 105=s144.v)∧(L 16=true→g 106=s147.v)∧St A N w v (zF s147 ([([]:List Int),[0]]) :: LT2) LT1:=by simp only [hl17,hl33,hl44,hl45,cd2] at hT ⊢; exact hT
  obtain ⟨s144,s147,he15,he16,S⟩ := hT
  refine wd (zS hv21 rfl) ?_
  have hT2 : ∃ (s144':SlV) (s147':SlV),((plus L 22) 15=true→(upd g 112 (Value.bool (decide (r152=0)))) 105=s144'.v)∧((plus L 22) 16=true→(upd g 112 (Value.bool (decide (r152=0)))) 106=s147'.v)∧St A N w v (zF s147' ([([]:List Int),[0]]) :: LT2) LT1:=⟨s144,s147,kpU he15,kpU he16,S⟩
  exact w4 rfl (by simp only [pN L 22 15,pN L 22 16,pN L 22 17,pN L 22 33,pN L 22 44,pN L 22 45,hl17,hl33,hl44,hl45,cd2] at hT2 ⊢; exact hT2)
 ·rintro L g v hL hcl hclo hT hv19 hv22
  have hl17:L 17=true:=hcl 17 zaL
  have hl33:=clF hL (hclo 33 23 · zaL)
  have hl44:=clF hL (hclo 44 23 · zaL)
  have hl45:=clF hL (hclo 45 23 · zaL)
  replace hT : ∃ (s144:SlV) (s147:SlV),(L 15=true→g 105=s144.v)∧(L 16=true→g 106=s147.v)∧St A N w v (zF s147 ([([]:List Int),[0]]) :: LT2) LT1:=by simp only [hl17,hl33,hl44,hl45,cd2] at hT ⊢; exact hT
  obtain ⟨s144,s147,he15,he16,S⟩ := hT
  refine wd (z7 hv19 (fun hp=>hv22)) ?_
  have hT2 : ∃ (s144':SlV) (s147':SlV),((plus L 23) 15=true→(upd g 113 (Value.bool (((((decide (r130=0)) && r134) && (decide (r138=0))) && r148) && (decide (r152=0))))) 105=s144'.v)∧((plus L 23) 16=true→(upd g 113 (Value.bool (((((decide (r130=0)) && r134) && (decide (r138=0))) && r148) && (decide (r152=0))))) 106=s147'.v)∧St A N w v (zF s147' ([([]:List Int),[0]]) :: LT2) LT1:=⟨s144,s147,kpU he15,kpU he16,S⟩
  exact w4 rfl (by simp only [pN L 23 15,pN L 23 16,pN L 23 17,pN L 23 33,pN L 23 44,pN L 23 45,hl17,hl33,hl44,hl45,cd2] at hT2 ⊢; exact hT2)
 ·rintro L g v hL hcl hclo hT hv23
  have hl17:L 17=true:=hcl 17 zaL
  have hl33:=clF hL (hclo 33 24 · zaL)
  have hl44:=clF hL (hclo 44 24 · zaL)
  have hl45:=clF hL (hclo 45 24 · zaL)
  replace hT : ∃ (s144:SlV) (s147:SlV),(L 15=true→g 105=s144.v)∧(L 16=true→g 106=s147.v)∧St A N w v (zF s147 ([([]:List Int),[0]]) :: LT2) LT1:=by simp only [hl17,hl33,hl44,hl45,cd2] at hT ⊢; exact hT
  obtain ⟨s144,s147,he15,he16,S⟩ := hT
  refine wd (zA hv23) ?_
  have hT2 : ∃ (s144':SlV) (s147':SlV),((plus L 24) 15=true→(upd g 114 (Value.bool (((((decide (r130=0)) && r134) && (decide (r138=0))) && r148) && (decide (r152=0))))) 105=s144'.v)∧((plus L 24) 16=true→(upd g 114 (Value.bool (((((decide (r130=0)) && r134) && (decide (r138=0))) && r148) && (decide (r152=0))))) 106=s147'.v)∧St A N w v (zF s147' ([([]:List Int),[0]]) :: LT2) LT1:=⟨s144,s147,kpU he15,kpU he16,S⟩
  exact w4 rfl (by simp only [pN L 24 15,pN L 24 16,pN L 24 17,pN L 24 33,pN L 24 44,pN L 24 45,hl17,hl33,hl44,hl45,cd2] at hT2 ⊢; exact hT2)
 ·rintro L g v hL hcl hclo hT hv24
  refine yA (j:=24) (pol:=true) rfl rfl hv24 zaI (by simpa using hg155) ?_
  have hl17:L 17=true:=hcl 17 zaL
  have hl33:=clF hL (hclo 33 25 · zaL)
  have hl44:=clF hL (hclo 44 25 · zaL)
  have hl45:=clF hL (hclo 45 25 · zaL)
  replace hT : ∃ (s144:SlV) (s147:SlV),(L 15=true→g 105=s144.v)∧(L 16=true→g 106=s147.v)∧St A N w v (zF s147 ([([]:List Int),[0]]) :: LT2) LT1:=by simp only [hl17,hl33,hl44,hl45,cd2] at hT ⊢; exact hT
  obtain ⟨s144,s147,he15,he16,S⟩ := hT
  refine wd (zj rfl) ?_
  have hT2 : ∃ (s144':SlV) (s147':SlV),((plus L 25) 15=true→(upd g 115 (Value.int .i64 r61.2.1)) 105=s144'.v)∧((plus L 25) 16=true→(upd g 115 (Value.int .i64 r61.2.1)) 106=s147'.v)∧St A N w v (zF s147' ([([]:List Int),[0]]) :: LT2) LT1:=⟨s144,s147,kpU he15,kpU he16,S⟩
  exact w4 rfl (by simp only [pN L 25 15,pN L 25 16,pN L 25 17,pN L 25 33,pN L 25 44,pN L 25 45,hl17,hl33,hl44,hl45,cd2] at hT2 ⊢; exact hT2)
 ·rintro L g v hL hcl hclo hT hv25 hv24
  refine yA (j:=24) (pol:=true) rfl rfl hv24 zaI (by simpa using hg155) ?_
  have hl17:L 17=true:=hcl 17 zaL
  have hl33:=clF hL (hclo 33 26 · zaL)
  have hl44:=clF hL (hclo 44 26 · zaL)
  have hl45:=clF hL (hclo 45 26 · zaL)
  replace hT : ∃ (s144:SlV) (s147:SlV),(L 15=true→g 105=s144.v)∧(L 16=true→g 106=s147.v)∧St A N w v (zF s147 ([([]:List Int),[0]]) :: LT2) LT1:=by simp only [hl17,hl33,hl44,hl45,cd2] at hT ⊢; exact hT
  obtain ⟨s144,s147,he15,he16,S⟩ := hT
  refine wd (zS hv25 rfl) ?_
  have hT2 : ∃ (s144':SlV) (s147':SlV),((plus L 26) 15=true→(upd g 116 (Value.bool (decide (r61.2.1=3)))) 105=s144'.v)∧((plus L 26) 16=true→(upd g 116 (Value.bool (decide (r61.2.1=3)))) 106=s147'.v)∧St A N w v (zF s147' ([([]:List Int),[0]]) :: LT2) LT1:=⟨s144,s147,kpU he15,kpU he16,S⟩
  exact w4 rfl (by simp only [pN L 26 15,pN L 26 16,pN L 26 17,pN L 26 33,pN L 26 44,pN L 26 45,hl17,hl33,hl44,hl45,cd2] at hT2 ⊢; exact hT2)
 ·rintro L g v hL hcl hclo hT hv24 hv26
  have hl17:L 17=true:=hcl 17 zaL
  have hl33:=clF hL (hclo 33 27 · zaL)
  have hl44:=clF hL (hclo 44 27 · zaL)
  have hl45:=clF hL (hclo 45 27 · zaL)
  replace hT : ∃ (s144:SlV) (s147:SlV),(L 15=true→g 105=s144.v)∧(L 16=true→g 106=s147.v)∧St A N w v (zF s147 ([([]:List Int),[0]]) :: LT2) LT1:=by simp only [hl17,hl33,hl44,hl45,cd2] at hT ⊢; exact hT
  obtain ⟨s144,s147,he15,he16,S⟩ := hT
  refine wd (z7 hv24 (fun hp=>hv26)) ?_
  have hT2 : ∃ (s144':SlV) (s147':SlV),((plus L 27) 15=true→(upd g 117 (Value.bool ((((((decide (r130=0)) && r134) && (decide (r138=0))) && r148) && (decide (r152=0))) && (decide (r61.2.1=3))))) 105=s144'.v)∧((plus L 27) 16=true→(upd g 117 (Value.bool ((((((decide (r130=0)) && r134) && (decide (r138=0))) && r148) && (decide (r152=0))) && (decide (r61.2.1=3))))) 106=s147'.v)∧St A N w v (zF s147' ([([]:List Int),[0]]) :: LT2) LT1:=⟨s144,s147,kpU he15,kpU he16,S⟩
  exact w4 rfl (by simp only [pN L 27 15,pN L 27 16,pN L 27 17,pN L 27 33,pN L 27 44,pN L 27 45,hl17,hl33,hl44,hl45,cd2] at hT2 ⊢; exact hT2)
 ·rintro L g v hL hcl hclo hT hv27
  have hl17:L 17=true:=hcl 17 zaL
  have hl33:=clF hL (hclo 33 28 · zaL)
  have hl44:=clF hL (hclo 44 28 · zaL)
  have hl45:=clF hL (hclo 45 28 · zaL)
  replace hT : ∃ (s144:SlV) (s147:SlV),(L 15=true→g 105=s144.v)∧(L 16=true→g 106=s147.v)∧St A N w v (zF s147 ([([]:List Int),[0]]) :: LT2) LT1:=by simp only [hl17,hl33,hl44,hl45,cd2] at hT ⊢; exact hT
  obtain ⟨s144,s147,he15,he16,S⟩ := hT
  refine wd (zA hv27) ?_
  have hT2 : ∃ (s144':SlV) (s147':SlV),((plus L 28) 15=true→(upd g 118 (Value.bool ((((((decide (r130=0)) && r134) && (decide (r138=0))) && r148) && (decide (r152=0))) && (decide (r61.2.1=3))))) 105=s144'.v)∧((plus L 28) 16=true→(upd g 118 (Value.bool ((((((decide (r130=0)) && r134) && (decide (r138=0))) && r148) && (decide (r152=0))) && (decide (r61.2.1=3))))) 106=s147'.v)∧St A N w v (zF s147' ([([]:List Int),[0]]) :: LT2) LT1:=⟨s144,s147,kpU he15,kpU he16,S⟩
  exact w4 rfl (by simp only [pN L 28 15,pN L 28 16,pN L 28 17,pN L 28 33,pN L 28 44,pN L 28 45,hl17,hl33,hl44,hl45,cd2] at hT2 ⊢; exact hT2)
 ·rintro L g v hL hcl hclo hT hv28
  refine yA (j:=28) (pol:=true) rfl rfl hv28 zaI (by simpa using hg156) ?_
  have hl17:L 17=true:=hcl 17 zaL
  have hl33:=clF hL (hclo 33 29 · zaL)
  have hl44:=clF hL (hclo 44 29 · zaL)
  have hl45:=clF hL (hclo 45 29 · zaL)
  replace hT : ∃ (s144:SlV) (s147:SlV),(L 15=true→g 105=s144.v)∧(L 16=true→g 106=s147.v)∧St A N w v (zF s147 ([([]:List Int),[0]]) :: LT2) LT1:=by simp only [hl17,hl33,hl44,hl45,cd2] at hT ⊢; exact hT
  obtain ⟨s144,s147,he15,he16,S⟩ := hT
  refine wd (zA rfl) ?_
  have hT2 : ∃ (s144':SlV) (s147':SlV),((plus L 29) 15=true→(upd g 119 (Value.bool r61.2.2.1)) 105=s144'.v)∧((plus L 29) 16=true→(upd g 119 (Value.bool r61.2.2.1)) 106=s147'.v)∧St A N w v (zF s147' ([([]:List Int),[0]]) :: LT2) LT1:=⟨s144,s147,kpU he15,kpU he16,S⟩
  exact w4 rfl (by simp only [pN L 29 15,pN L 29 16,pN L 29 17,pN L 29 33,pN L 29 44,pN L 29 45,hl17,hl33,hl44,hl45,cd2] at hT2 ⊢; exact hT2)
 ·rintro L g v hL hcl hclo hT hv28 hv29
  have hl17:L 17=true:=hcl 17 zaL
  have hl33:=clF hL (hclo 33 30 · zaL)
  have hl44:=clF hL (hclo 44 30 · zaL)
  have hl45:=clF hL (hclo 45 30 · zaL)
  replace hT : ∃ (s144:SlV) (s147:SlV),(L 15=true→g 105=s144.v)∧(L 16=true→g 106=s147.v)∧St A N w v (zF s147 ([([]:List Int),[0]]) :: LT2) LT1:=by simp only [hl17,hl33,hl44,hl45,cd2] at hT ⊢; exact hT
  obtain ⟨s144,s147,he15,he16,S⟩ := hT
  refine wd (z7 hv28 (fun hp=>hv29)) ?_
  have hT2 : ∃ (s144':SlV) (s147':SlV),((plus L 30) 15=true→(upd g 120 (Value.bool (((((((decide (r130=0)) && r134) && (decide (r138=0))) && r148) && (decide (r152=0))) && (decide (r61.2.1=3))) && r61.2.2.1))) 105=s144'.v)∧((plus L 30) 16=true→(upd g 120 (Value.bool (((((((decide (r130=0)) && r134) && (decide (r138=0))) && r148) && (decide (r152=0))) && (decide (r61.2.1=3))) && r61.2.2.1))) 106=s147'.v)∧St A N w v (zF s147' ([([]:List Int),[0]]) :: LT2) LT1:=⟨s144,s147,kpU he15,kpU he16,S⟩
  exact w4 rfl (by simp only [pN L 30 15,pN L 30 16,pN L 30 17,pN L 30 33,pN L 30 44,pN L 30 45,hl17,hl33,hl44,hl45,cd2] at hT2 ⊢; exact hT2)
 ·rintro L g v hL hcl hclo hT hv30
  have hl17:L 17=true:=hcl 17 zaL
  have hl33:=clF hL (hclo 33 31 · zaL)
  have hl44:=clF hL (hclo 44 31 · zaL)
  have hl45:=clF hL (hclo 45 31 · zaL)
  replace hT : ∃ (s144:SlV) (s147:SlV),(L 15=true→g 105=s144.v)∧(L 16=true→g 106=s147.v)∧St A N w v (zF s147 ([([]:List Int),[0]]) :: LT2) LT1:=by simp only [hl17,hl33,hl44,hl45,cd2] at hT ⊢; exact hT
  obtain ⟨s144,s147,he15,he16,S⟩ := hT
  refine wd (zA hv30) ?_
  have hT2 : ∃ (s144':SlV) (s147':SlV),((plus L 31) 15=true→(upd g 121 (Value.bool (((((((decide (r130=0)) && r134) && (decide (r138=0))) && r148) && (decide (r152=0))) && (decide (r61.2.1=3))) && r61.2.2.1))) 105=s144'.v)∧((plus L 31) 16=true→(upd g 121 (Value.bool (((((((decide (r130=0)) && r134) && (decide (r138=0))) && r148) && (decide (r152=0))) && (decide (r61.2.1=3))) && r61.2.2.1))) 106=s147'.v)∧St A N w v (zF s147' ([([]:List Int),[0]]) :: LT2) LT1:=⟨s144,s147,kpU he15,kpU he16,S⟩
  exact w4 rfl (by simp only [pN L 31 15,pN L 31 16,pN L 31 17,pN L 31 33,pN L 31 44,pN L 31 45,hl17,hl33,hl44,hl45,cd2] at hT2 ⊢; exact hT2)
 ·rintro L g v hL hcl hclo hT hv31
  refine yA (j:=31) (pol:=true) rfl rfl hv31 zaI (by simpa using hg157) ?_
  have hl17:L 17=true:=hcl 17 zaL
  have hl44:=clF hL (hclo 44 32 · zaL)
  have hl45:=clF hL (hclo 45 32 · zaL)
  cases hl33:L 33 with
  | true =>
   replace hT : ∃ (s144:SlV) (s147:SlV) (s161:SlV),(L 15=true→g 105=s144.v)∧(L 16=true→g 106=s147.v)∧(L 33=true→g 123=Value.agg (tmC r158 s161).toArray)∧St A N w v (zF s147 ([([]:List Int),[0]]) :: LT2) (ze s161 r158.sub :: LT1):=by simp only [hl33,hl44,hl45,cd2] at hT ⊢; exact hT
   obtain ⟨s144,s147,s161,he15,he16,he33,S⟩ := hT
   refine wd (ldT rfl (S.blk 4)) ?_
   have hT2 : ∃ (s144':SlV) (s147':SlV) (s161':SlV),((plus L 32) 15=true→(upd g 122 (Value.agg (tmC r61.1 s64).toArray)) 105=s144'.v)∧((plus L 32) 16=true→(upd g 122 (Value.agg (tmC r61.1 s64).toArray)) 106=s147'.v)∧((plus L 32) 33=true→(upd g 122 (Value.agg (tmC r61.1 s64).toArray)) 123=Value.agg (tmC r158 s161').toArray)∧St A N w v (zF s147' ([([]:List Int),[0]]) :: LT2) (ze s161' r158.sub :: LT1):=⟨s144,s147,s161,kpU he15,kpU he16,kpU he33,S⟩
   exact w4 rfl (by simp only [pN L 32 15,pN L 32 16,pN L 32 17,pN L 32 33,pN L 32 44,pN L 32 45,hl33,hl44,hl45,cd2] at hT2 ⊢; exact hT2)
  | false =>
   replace hT : ∃ (s144:SlV) (s147:SlV),(L 15=true→g 105=s144.v)∧(L 16=true→g 106=s147.v)∧St A N w v (zF s147 ([([]:List Int),[0]]) :: LT2) LT1:=by simp only [hl17,hl33,hl44,hl45,cd2] at hT ⊢; exact hT
   obtain ⟨s144,s147,he15,he16,S⟩ := hT
   refine wd (ldT rfl (S.blk 4)) ?_
   have hT2 : ∃ (s144':SlV) (s147':SlV),((plus L 32) 15=true→(upd g 122 (Value.agg (tmC r61.1 s64).toArray)) 105=s144'.v)∧((plus L 32) 16=true→(upd g 122 (Value.agg (tmC r61.1 s64).toArray)) 106=s147'.v)∧St A N w v (zF s147' ([([]:List Int),[0]]) :: LT2) LT1:=⟨s144,s147,kpU he15,kpU he16,S⟩
   exact w4 rfl (by simp only [pN L 32 15,pN L 32 16,pN L 32 17,pN L 32 33,pN L 32 44,pN L 32 45,hl17,hl33,hl44,hl45,cd2] at hT2 ⊢; exact hT2)
 ·rintro L g v hL hcl hclo hT hv31
  refine yA (j:=31) (pol:=true) rfl rfl hv31 zaI (by simpa using hg157) ?_
  have hl17:L 17=true:=hcl 17 zaL
  have hl33:L 33=false:=hL
  have hl44:=clF hL (hclo 44 33 · zaL)
  have hl45:=clF hL (hclo 45 33 · zaL)
  replace hT : ∃ (s144:SlV) (s147:SlV),(L 15=true→g 105=s144.v)∧(L 16=true→g 106=s147.v)∧St A N w v (zF s147 ([([]:List Int),[0]]) :: LT2) LT1:=by simp only [hl17,hl33,hl44,hl45,cd2] at hT ⊢; exact hT
  obtain ⟨s144,s147,he15,he16,S⟩ := hT
  obtain ⟨_,_,T,bk⟩ := S.sub [] [] (zF s147 ([([]:List Int),[0]]) :: LT2)
  refine zB (zy vH) zaI (vK T er158) ?_
  rintro _ w199 ⟨s161,rfl,S2⟩
  replace S:=bk _ _ _ _ _ S2 rfl rfl
  have hT2 : ∃ (s144':SlV) (s147':SlV) (s161':SlV),((plus L 33) 15=true→(upd g 123 (Value.agg (tmC r158 s161).toArray)) 105=s144'.v)∧((plus L 33) 16=true→(upd g 123 (Value.agg (tmC r158 s161).toArray)) 106=s147'.v)∧((plus L 33) 33=true→(upd g 123 (Value.agg (tmC r158 s161).toArray)) 123=Value.agg (tmC r158 s161').toArray)∧St A N w w199 (zF s147' ([([]:List Int),[0]]) :: LT2) (ze s161' r158.sub :: LT1):=⟨s144,s147,s161,kpU he15,kpU he16,fun _=>upd_same _ _ _,S⟩
  exact w4 trivial (by simp only [pN L 33 15,pN L 33 16,pN L 33 17,pN L 33 44,pN L 33 45,xM (L:=L) (i:=33),hl44,hl45,cd2] at hT2 ⊢; exact hT2)
 ·rintro L g v hL hcl hclo hT hv32 hv33 hv31
  refine yA (j:=31) (pol:=true) rfl rfl hv31 zaI (by simpa using hg157) ?_
  have hl33:L 33=true:=hcl 33 zaL
  have hl44:=clF hL (hclo 44 34 · zaL)
  have hl45:=clF hL (hclo 45 34 · zaL)
  replace hT : ∃ (s144:SlV) (s147:SlV) (s161:SlV),(L 15=true→g 105=s144.v)∧(L 16=true→g 106=s147.v)∧(L 33=true→g 123=Value.agg (tmC r158 s161).toArray)∧St A N w v (zF s147 ([([]:List Int),[0]]) :: LT2) (ze s161 r158.sub :: LT1):=by simp only [hl33,hl44,hl45,cd2] at hT ⊢; exact hT
  obtain ⟨s144,s147,s161,he15,he16,he33,S⟩ := hT
  obtain ⟨_,_,T,bk⟩ := S.calln 0 ((.z 9 rfl (.z 0 rfl .nil)))
  refine zB (zK j1 (zQ hv32 (zQ (he33 (hcl 33 zaL)) rfl))) zaI (zat (a0:=r61.1) (a1:=r158) T er162) ?_
  rintro _ w202 ⟨rfl,S2⟩
  replace S:=bk _ _ _ _ S2 rfl
  have hT2 : ∃ (s144':SlV) (s147':SlV) (s161':SlV),((plus L 34) 15=true→(upd g 124 (Value.bool r162)) 105=s144'.v)∧((plus L 34) 16=true→(upd g 124 (Value.bool r162)) 106=s147'.v)∧((plus L 34) 33=true→(upd g 124 (Value.bool r162)) 123=Value.agg (tmC r158 s161').toArray)∧St A N w w202 (zF s147' ([([]:List Int),[0]]) :: LT2) (ze s161' r158.sub :: LT1):=⟨s144,s147,s161,kpU he15,kpU he16,kpU he33,S⟩
  exact w4 rfl (by simp only [pN L 34 15,pN L 34 16,pN L 34 17,pN L 34 33,pN L 34 44,pN L 34 45,hl33,hl44,hl45,cd2] at hT2 ⊢; exact hT2)
 ·rintro L g v hL hcl hclo hT hv31 hv34
  have hl33:L 33=true:=hcl 33 zaL
  have hl44:=clF hL (hclo 44 35 · zaL)
  have hl45:=clF hL (hclo 45 35 · zaL)
  replace hT : ∃ (s144:SlV) (s147:SlV) (s161:SlV),(L 15=true→g 105=s144.v)∧(L 16=true→g 106=s147.v)∧(L 33=true→g 123=Value.agg (tmC r158 s161).toArray)∧St A N w v (zF s147 ([([]:List Int),[0]]) :: LT2) (ze s161 r158.sub :: LT1):=by simp only [hl33,hl44,hl45,cd2] at hT ⊢; exact hT
  obtain ⟨s144,s147,s161,he15,he16,he33,S⟩ := hT
  refine wd (z7 hv31 (fun hp=>hv34)) ?_
  have hT2 : ∃ (s144':SlV) (s147':SlV) (s161':SlV),((plus L 35) 15=true→(upd g 125 (Value.bool ((((((((decide (r130=0)) && r134) && (decide (r138=0))) && r148) && (decide (r152=0))) && (decide (r61.2.1=3))) && r61.2.2.1) && r162))) 105=s144'.v)∧((plus L 35) 16=true→(upd g 125 (Value.bool ((((((((decide (r130=0)) && r134) && (decide (r138=0))) && r148) && (decide (r152=0))) && (decide (r61.2.1=3))) && r61.2.2.1) && r162))) 106=s147'.v)∧((plus L 35) 33=true→(upd g 125 (Value.bool ((((((((decide (r130=0)) && r134) && (decide (r138=0))) && r148) && (decide (r152=0))) && (decide (r61.2.1=3))) && r61.2.2.1) && r162))) 123=Value.agg (tmC r158 s161').toArray)∧St A N w v (zF s147' ([([]:List Int),[0]]) :: LT2) (ze s161' r158.sub :: LT1):=⟨s144,s147,s161,kpU he15,kpU he16,kpU he33,S⟩
  exact w4 rfl (by simp only [pN L 35 15,pN L 35 16,pN L 35 17,pN L 35 33,pN L 35 44,pN L 35 45,hl33,hl44,hl45,cd2] at hT2 ⊢; exact hT2)
 ·rintro L g v hL hcl hclo hT hv35
  have hl33:L 33=true:=hcl 33 zaL
  have hl44:=clF hL (hclo 44 36 · zaL)
  have hl45:=clF hL (hclo 45 36 · zaL)
  replace hT : ∃ (s144:SlV) (s147:SlV) (s161:SlV),(L 15=true→g 105=s144.v)∧(L 16=true→g 106=s147.v)∧(L 33=true→g 123=Value.agg (tmC r158 s161).toArray)∧St A N w v (zF s147 ([([]:List Int),[0]]) :: LT2) (ze s161 r158.sub :: LT1):=by simp only [hl33,hl44,hl45,cd2] at hT ⊢; exact hT
  obtain ⟨s144,s147,s161,he15,he16,he33,S⟩ := hT
  refine wd (zA hv35) ?_
  have hT2 : ∃ (s144':SlV) (s147':SlV) (s161':SlV),((plus L 36) 15=true→(upd g 126 (Value.bool ((((((((decide (r130=0)) && r134) && (decide (r138=0))) && r148) && (decide (r152=0))) && (decide (r61.2.1=3))) && r61.2.2.1) && r162))) 105=s144'.v)∧((plus L 36) 16=true→(upd g 126 (Value.bool ((((((((decide (r130=0)) && r134) && (decide (r138=0))) && r148) && (decide (r152=0))) && (decide (r61.2.1=3))) && r61.2.2.1) && r162))) 106=s147'.v)∧((plus L 36) 33=true→(upd g 126 (Value.bool ((((((((decide (r130=0)) && r134) && (decide (r138=0))) && r148) && (decide (r152=0))) && (decide (r61.2.1=3))) && r61.2.2.1) && r162))) 123=Value.agg (tmC r158 s161').toArray)∧St A N w v (zF s147' ([([]:List Int),[0]]) :: LT2) (ze s161' r158.sub :: LT1):=⟨s144,s147,s161,kpU he15,kpU he16,kpU he33,S⟩
  exact w4 rfl (by simp only [pN L 36 15,pN L 36 16,pN L 36 17,pN L 36 33,pN L 36 44,pN L 36 45,hl33,hl44,hl45,cd2] at hT2 ⊢; exact hT2)
 ·rintro L g v hL hcl hclo hT hv36
  refine yA (j:=36) (pol:=true) rfl rfl hv36 zaI (by simpa using hg165) ?_
  have hl33:L 33=true:=hcl 33 zaL
  have hl44:=clF hL (hclo 44 37 · zaL)
  have hl45:=clF hL (hclo 45 37 · zaL)
  replace hT : ∃ (s144:SlV) (s147:SlV) (s161:SlV),(L 15=true→g 105=s144.v)∧(L 16=true→g 106=s147.v)∧(L 33=true→g 123=Value.agg (tmC r158 s161).toArray)∧St A N w v (zF s147 ([([]:List Int),[0]]) :: LT2) (ze s161 r158.sub :: LT1):=by simp only [hl33,hl44,hl45,cd2] at hT ⊢; exact hT
  obtain ⟨s144,s147,s161,he15,he16,he33,S⟩ := hT
  refine wd (zj rfl) ?_
  have hT2 : ∃ (s144':SlV) (s147':SlV) (s161':SlV),((plus L 37) 15=true→(upd g 127 (Value.int .i64 r68.2)) 105=s144'.v)∧((plus L 37) 16=true→(upd g 127 (Value.int .i64 r68.2)) 106=s147'.v)∧((plus L 37) 33=true→(upd g 127 (Value.int .i64 r68.2)) 123=Value.agg (tmC r158 s161').toArray)∧St A N w v (zF s147' ([([]:List Int),[0]]) :: LT2) (ze s161' r158.sub :: LT1):=⟨s144,s147,s161,kpU he15,kpU he16,kpU he33,S⟩
  exact w4 rfl (by simp only [pN L 37 15,pN L 37 16,pN L 37 17,pN L 37 33,pN L 37 44,pN L 37 45,hl33,hl44,hl45,cd2] at hT2 ⊢; exact hT2)
 ·rintro L g v hL hcl hclo hT hv37 hv36
  refine yA (j:=36) (pol:=true) rfl rfl hv36 zaI (by simpa using hg165) ?_
  have hl33:L 33=true:=hcl 33 zaL
  have hl44:=clF hL (hclo 44 38 · zaL)
  have hl45:=clF hL (hclo 45 38 · zaL)
  replace hT : ∃ (s144:SlV) (s147:SlV) (s161:SlV),(L 15=true→g 105=s144.v)∧(L 16=true→g 106=s147.v)∧(L 33=true→g 123=Value.agg (tmC r158 s161).toArray)∧St A N w v (zF s147 ([([]:List Int),[0]]) :: LT2) (ze s161 r158.sub :: LT1):=by simp only [hl33,hl44,hl45,cd2] at hT ⊢; exact hT
  obtain ⟨s144,s147,s161,he15,he16,he33,S⟩ := hT
  obtain ⟨_,_,T,bk⟩ := S.calln 0 ((.nil))
  refine zB (zK yq (zQ hv37 rfl)) zaI (yr T er166) ?_
  rintro _ w205 ⟨rfl,S2⟩
  replace S:=bk _ _ _ _ S2 rfl
  have hT2 : ∃ (s144':SlV) (s147':SlV) (s161':SlV),((plus L 38) 15=true→(upd g 128 (Value.int .i64 r166)) 105=s144'.v)∧((plus L 38) 16=true→(upd g 128 (Value.int .i64 r166)) 106=s147'.v)∧((plus L 38) 33=true→(upd g 128 (Value.int .i64 r166)) 123=Value.agg (tmC r158 s161').toArray)∧St A N w w205 (zF s147' ([([]:List Int),[0]]) :: LT2) (ze s161' r158.sub :: LT1):=⟨s144,s147,s161,kpU he15,kpU he16,kpU he33,S⟩
  exact w4 rfl (by simp only [pN L 38 15,pN L 38 16,pN L 38 17,pN L 38 33,pN L 38 44,pN L 38 45,hl33,hl44,hl45,cd2] at hT2 ⊢; exact hT2)
 ·rintro L g v hL hcl hclo hT hv38 hv36
  refine yA (j:=36) (pol:=true) rfl rfl hv36 zaI (by simpa using hg165) ?_
  have hl33:L 33=true:=hcl 33 zaL
  have hl44:=clF hL (hclo 44 39 · zaL)
  have hl45:=clF hL (hclo 45 39 · zaL)
  replace hT : ∃ (s144:SlV) (s147:SlV) (s161:SlV),(L 15=true→g 105=s144.v)∧(L 16=true→g 106=s147.v)∧(L 33=true→g 123=Value.agg (tmC r158 s161).toArray)∧St A N w v (zF s147 ([([]:List Int),[0]]) :: LT2) (ze s161 r158.sub :: LT1):=by simp only [hl33,hl44,hl45,cd2] at hT ⊢; exact hT
  obtain ⟨s144,s147,s161,he15,he16,he33,S⟩ := hT
  refine wd (zS hv38 rfl) ?_
  have hT2 : ∃ (s144':SlV) (s147':SlV) (s161':SlV),((plus L 39) 15=true→(upd g 129 (Value.bool (decide (r166=0)))) 105=s144'.v)∧((plus L 39) 16=true→(upd g 129 (Value.bool (decide (r166=0)))) 106=s147'.v)∧((plus L 39) 33=true→(upd g 129 (Value.bool (decide (r166=0)))) 123=Value.agg (tmC r158 s161').toArray)∧St A N w v (zF s147' ([([]:List Int),[0]]) :: LT2) (ze s161' r158.sub :: LT1):=⟨s144,s147,s161,kpU he15,kpU he16,kpU he33,S⟩
  exact w4 rfl (by simp only [pN L 39 15,pN L 39 16,pN L 39 17,pN L 39 33,pN L 39 44,pN L 39 45,hl33,hl44,hl45,cd2] at hT2 ⊢; exact hT2)
 ·rintro L g v hL hcl hclo hT hv36 hv39
  have hl33:L 33=true:=hcl 33 zaL
  have hl44:=clF hL (hclo 44 40 · zaL)
  have hl45:=clF hL (hclo 45 40 · zaL)
  replace hT : ∃ (s144:SlV) (s147:SlV) (s161:SlV),(L 15=true→g 105=s144.v)∧(L 16=true→g 106=s147.v)∧(L 33=true→g 123=Value.agg (tmC r158 s161).toArray)∧St A N w v (zF s147 ([([]:List Int),[0]]) :: LT2) (ze s161 r158.sub :: LT1):=by simp only [hl33,hl44,hl45,cd2] at hT ⊢; exact hT
  obtain ⟨s144,s147,s161,he15,he16,he33,S⟩ := hT
  refine wd (z7 hv36 (fun hp=>hv39)) ?_
  have hT2 : ∃ (s144':SlV) (s147':SlV) (s161':SlV),((plus L 40) 15=true→(upd g 130 (Value.bool (((((((((decide (r130=0)) && r134) && (decide (r138=0))) && r148) && (decide (r152=0))) && (decide (r61.2.1=3))) && r61.2.2.1) && r162) && (decide (r166=0))))) 105=s144'.v)∧((plus L 40) 16=true→(upd g 130 (Value.bool (((((((((decide (r130=0)) && r134) && (decide (r138=0))) && r148) && (decide (r152=0))) && (decide (r61.2.1=3))) && r61.2.2.1) && r162) && (decide (r166=0))))) 106=s147'.v)∧((plus L 40) 33=true→(upd g 130 (Value.bool (((((((((decide (r130=0)) && r134) && (decide (r138=0))) && r148) && (decide (r152=0))) && (decide (r61.2.1=3))) && r61.2.2.1) && r162) && (decide (r166=0))))) 123=Value.agg (tmC r158 s161').toArray)∧St A N w v (zF s147' ([([]:List Int),[0]]) :: LT2) (ze s161' r158.sub :: LT1):=⟨s144,s147,s161,kpU he15,kpU he16,kpU he33,S⟩
  exact w4 rfl (by simp only [pN L 40 15,pN L 40 16,pN L 40 17,pN L 40 33,pN L 40 44,pN L 40 45,hl33,hl44,hl45,cd2] at hT2 ⊢; exact hT2)
 ·rintro L g v hL hcl hclo hT hv40
  have hl33:L 33=true:=hcl 33 zaL
  have hl44:=clF hL (hclo 44 41 · zaL)
  have hl45:=clF hL (hclo 45 41 · zaL)
  replace hT : ∃ (s144:SlV) (s147:SlV) (s161:SlV),(L 15=true→g 105=s144.v)∧(L 16=true→g 106=s147.v)∧(L 33=true→g 123=Value.agg (tmC r158 s161).toArray)∧St A N w v (zF s147 ([([]:List Int),[0]]) :: LT2) (ze s161 r158.sub :: LT1):=by simp only [hl33,hl44,hl45,cd2] at hT ⊢; exact hT
  obtain ⟨s144,s147,s161,he15,he16,he33,S⟩ := hT
  refine wd (zA hv40) ?_
  have hT2 : ∃ (s144':SlV) (s147':SlV) (s161':SlV),((plus L 41) 15=true→(upd g 131 (Value.bool (((((((((decide (r130=0)) && r134) && (decide (r138=0))) && r148) && (decide (r152=0))) && (decide (r61.2.1=3))) && r61.2.2.1) && r162) && (decide (r166=0))))) 105=s144'.v)∧((plus L 41) 16=true→(upd g 131 (Value.bool (((((((((decide (r130=0)) && r134) && (decide (r138=0))) && r148) && (decide (r152=0))) && (decide (r61.2.1=3))) && r61.2.2.1) && r162) && (decide (r166=0))))) 106=s147'.v)∧((plus L 41) 33=true→(upd g 131 (Value.bool (((((((((decide (r130=0)) && r134) && (decide (r138=0))) && r148) && (decide (r152=0))) && (decide (r61.2.1=3))) && r61.2.2.1) && r162) && (decide (r166=0))))) 123=Value.agg (tmC r158 s161').toArray)∧St A N w v (zF s147' ([([]:List Int),[0]]) :: LT2) (ze s161' r158.sub :: LT1):=⟨s144,s147,s161,kpU he15,kpU he16,kpU he33,S⟩
  exact w4 rfl (by simp only [pN L 41 15,pN L 41 16,pN L 41 17,pN L 41 33,pN L 41 44,pN L 41 45,hl33,hl44,hl45,cd2] at hT2 ⊢; exact hT2)
 ·rintro L g v hL hcl hclo hT hv41
  refine yA (j:=41) (pol:=true) rfl rfl hv41 zaI (by simpa using hg169) ?_
  have hl33:L 33=true:=hcl 33 zaL
  cases hl45:L 45 with
  | true =>
   replace hT : ∃ (s144:SlV) (s147:SlV) (s161:SlV) (s173:SlV) (s176:SlV),(L 15=true→g 105=s144.v)∧(L 16=true→g 106=s147.v)∧(L 33=true→g 123=Value.agg (tmC r158 s161).toArray)∧(L 44=true→g 134=Value.agg (tmC r158 s173).toArray)∧(L 45=true→g 135=s176.v)∧(L 46=true→g 136=Value.agg (Term.C (tmN 3 0 s176)).toArray)∧St A N w v (zF s147 ([([]:List Int),[0]]) :: LT2) (ze s176 ([(ptM 2 (bA #[120]) [r11]),r158]) :: ze s173 r158.sub :: ze s161 r158.sub :: LT1):=by simp only [hl45,cd2] at hT ⊢; exact hT
   obtain ⟨s144,s147,s161,s173,s176,he15,he16,he33,he44,he45,he46,S⟩ := hT
   refine wd (ldT rfl (S.blk 3)) ?_
   have hT2 : ∃ (s144':SlV) (s147':SlV) (s161':SlV) (s173':SlV) (s176':SlV),((plus L 42) 15=true→(upd g 132 (Value.agg (tmC r68.1 s71).toArray)) 105=s144'.v)∧((plus L 42) 16=true→(upd g 132 (Value.agg (tmC r68.1 s71).toArray)) 106=s147'.v)∧((plus L 42) 33=true→(upd g 132 (Value.agg (tmC r68.1 s71).toArray)) 123=Value.agg (tmC r158 s161').toArray)∧((plus L 42) 44=true→(upd g 132 (Value.agg (tmC r68.1 s71).toArray)) 134=Value.agg (tmC r158 s173').toArray)∧((plus L 42) 45=true→(upd g 132 (Value.agg (tmC r68.1 s71).toArray)) 135=s176'.v)∧((plus L 42) 46=true→(upd g 132 (Value.agg (tmC r68.1 s71).toArray)) 136=Value.agg (Term.C (tmN 3 0 s176')).toArray)∧St A N w v (zF s147' ([([]:List Int),[0]]) :: LT2) (ze s176' ([(ptM 2 (bA #[120]) [r11]),r158]) :: ze s173' r158.sub :: ze s161' r158.sub :: LT1):=⟨s144,s147,s161,s173,s176,kpU he15,kpU he16,kpU he33,kpU he44,kpU he45,kpU he46,S⟩
   exact w4 rfl (by simp only [pN L 42 15,pN L 42 16,pN L 42 17,pN L 42 33,pN L 42 44,pN L 42 45,hl45,cd2] at hT2 ⊢; exact hT2)
  | false =>
   cases hl44:L 44 with
   | true =>
    replace hT : ∃ (s144:SlV) (s147:SlV) (s161:SlV) (s173:SlV),(L 15=true→g 105=s144.v)∧(L 16=true→g 106=s147.v)∧(L 33=true→g 123=Value.agg (tmC r158 s161).toArray)∧(L 44=true→g 134=Value.agg (tmC r158 s173).toArray)∧St A N w v (zF s147 ([([]:List Int),[0]]) :: LT2) (ze s173 r158.sub :: ze s161 r158.sub :: LT1):=by simp only [hl44,hl45,cd2] at hT ⊢; exact hT
    obtain ⟨s144,s147,s161,s173,he15,he16,he33,he44,S⟩ := hT
    refine wd (ldT rfl (S.blk 3)) ?_
    have hT2 : ∃ (s144':SlV) (s147':SlV) (s161':SlV) (s173':SlV),((plus L 42) 15=true→(upd g 132 (Value.agg (tmC r68.1 s71).toArray)) 105=s144'.v)∧((plus L 42) 16=true→(upd g 132 (Value.agg (tmC r68.1 s71).toArray)) 106=s147'.v)∧((plus L 42) 33=true→(upd g 132 (Value.agg (tmC r68.1 s71).toArray)) 123=Value.agg (tmC r158 s161').toArray)∧((plus L 42) 44=true→(upd g 132 (Value.agg (tmC r68.1 s71).toArray)) 134=Value.agg (tmC r158 s173').toArray)∧St A N w v (zF s147' ([([]:List Int),[0]]) :: LT2) (ze s173' r158.sub :: ze s161' r158.sub :: LT1):=⟨s144,s147,s161,s173,kpU he15,kpU he16,kpU he33,kpU he44,S⟩
    exact w4 rfl (by simp only [pN L 42 15,pN L 42 16,pN L 42 17,pN L 42 33,pN L 42 44,pN L 42 45,hl44,hl45,cd2] at hT2 ⊢; exact hT2)
   | false =>
    replace hT : ∃ (s144:SlV) (s147:SlV) (s161:SlV),(L 15=true→g 105=s144.v)∧(L 16=true→g 106=s147.v)∧(L 33=true→g 123=Value.agg (tmC r158 s161).toArray)∧St A N w v (zF s147 ([([]:List Int),[0]]) :: LT2) (ze s161 r158.sub :: LT1):=by simp only [hl33,hl44,hl45,cd2] at hT ⊢; exact hT
    obtain ⟨s144,s147,s161,he15,he16,he33,S⟩ := hT
    refine wd (ldT rfl (S.blk 3)) ?_
    have hT2 : ∃ (s144':SlV) (s147':SlV) (s161':SlV),((plus L 42) 15=true→(upd g 132 (Value.agg (tmC r68.1 s71).toArray)) 105=s144'.v)∧((plus L 42) 16=true→(upd g 132 (Value.agg (tmC r68.1 s71).toArray)) 106=s147'.v)∧((plus L 42) 33=true→(upd g 132 (Value.agg (tmC r68.1 s71).toArray)) 123=Value.agg (tmC r158 s161').toArray)∧St A N w v (zF s147' ([([]:List Int),[0]]) :: LT2) (ze s161' r158.sub :: LT1):=⟨s144,s147,s161,kpU he15,kpU he16,kpU he33,S⟩
    exact w4 rfl (by simp only [pN L 42 15,pN L 42 16,pN L 42 17,pN L 42 33,pN L 42 44,pN L 42 45,hl33,hl44,hl45,cd2] at hT2 ⊢; exact hT2)
 ·rintro L g v hL hcl hclo hT hv41
  refine yA (j:=41) (pol:=true) rfl rfl hv41 zaI (by simpa using hg169) ?_
  have hl33:L 33=true:=hcl 33 zaL
  have hl45:=clF hL (hclo 45 43 · zaL)
  cases hl44:L 44 with
  | true =>
   replace hT : ∃ (s144:SlV) (s147:SlV) (s161:SlV) (s173:SlV),(L 15=true→g 105=s144.v)∧(L 16=true→g 106=s147.v)∧(L 33=true→g 123=Value.agg (tmC r158 s161).toArray)∧(L 44=true→g 134=Value.agg (tmC r158 s173).toArray)∧St A N w v (zF s147 ([([]:List Int),[0]]) :: LT2) (ze s173 r158.sub :: ze s161 r158.sub :: LT1):=by simp only [hl44,hl45,cd2] at hT ⊢; exact hT
   obtain ⟨s144,s147,s161,s173,he15,he16,he33,he44,S⟩ := hT
   refine wd (ldT rfl (S.blk 8)) ?_
   have hT2 : ∃ (s144':SlV) (s147':SlV) (s161':SlV) (s173':SlV),((plus L 43) 15=true→(upd g 133 (Value.agg (Term.C (tmM 2 (bA #[120]) s17)).toArray)) 105=s144'.v)∧((plus L 43) 16=true→(upd g 133 (Value.agg (Term.C (tmM 2 (bA #[120]) s17)).toArray)) 106=s147'.v)∧((plus L 43) 33=true→(upd g 133 (Value.agg (Term.C (tmM 2 (bA #[120]) s17)).toArray)) 123=Value.agg (tmC r158 s161').toArray)∧((plus L 43) 44=true→(upd g 133 (Value.agg (Term.C (tmM 2 (bA #[120]) s17)).toArray)) 134=Value.agg (tmC r158 s173').toArray)∧St A N w v (zF s147' ([([]:List Int),[0]]) :: LT2) (ze s173' r158.sub :: ze s161' r158.sub :: LT1):=⟨s144,s147,s161,s173,kpU he15,kpU he16,kpU he33,kpU he44,S⟩
   exact w4 rfl (by simp only [pN L 43 15,pN L 43 16,pN L 43 17,pN L 43 33,pN L 43 44,pN L 43 45,hl44,hl45,cd2] at hT2 ⊢; exact hT2)
  | false =>
   replace hT : ∃ (s144:SlV) (s147:SlV) (s161:SlV),(L 15=true→g 105=s144.v)∧(L 16=true→g 106=s147.v)∧(L 33=true→g 123=Value.agg (tmC r158 s161).toArray)∧St A N w v (zF s147 ([([]:List Int),[0]]) :: LT2) (ze s161 r158.sub :: LT1):=by simp only [hl33,hl44,hl45,cd2] at hT ⊢; exact hT
   obtain ⟨s144,s147,s161,he15,he16,he33,S⟩ := hT
   refine wd (ldT rfl (S.blk 8)) ?_
   have hT2 : ∃ (s144':SlV) (s147':SlV) (s161':SlV),((plus L 43) 15=true→(upd g 133 (Value.agg (Term.C (tmM 2 (bA #[120]) s17)).toArray)) 105=s144'.v)∧((plus L 43) 16=true→(upd g 133 (Value.agg (Term.C (tmM 2 (bA #[120]) s17)).toArray)) 106=s147'.v)∧((plus L 43) 33=true→(upd g 133 (Value.agg (Term.C (tmM 2 (bA #[120]) s17)).toArray)) 123=Value.agg (tmC r158 s161').toArray)∧St A N w v (zF s147' ([([]:List Int),[0]]) :: LT2) (ze s161' r158.sub :: LT1):=⟨s144,s147,s161,kpU he15,kpU he16,kpU he33,S⟩
   exact w4 rfl (by simp only [pN L 43 15,pN L 43 16,pN L 43 17,pN L 43 33,pN L 43 44,pN L 43 45,hl33,hl44,hl45,cd2] at hT2 ⊢; exact hT2)
 ·rintro L g v hL hcl hclo hT hv41
  refine yA (j:=41) (pol:=true) rfl rfl hv41 zaI (by simpa using hg169) ?_
  have hl33:L 33=true:=hcl 33 zaL
  have hl44:L 44=false:=hL
  have hl45:=clF hL (hclo 45 44 · zaL)
  replace hT : ∃ (s144:SlV) (s147:SlV) (s161:SlV),(L 15=true→g 105=s144.v)∧(L 16=true→g 106=s147.v)∧(L 33=true→g 123=Value.agg (tmC r158 s161).toArray)∧St A N w v (zF s147 ([([]:List Int),[0]]) :: LT2) (ze s161 r158.sub :: LT1):=by simp only [hl33,hl44,hl45,cd2] at hT ⊢; exact hT
  obtain ⟨s144,s147,s161,he15,he16,he33,S⟩ := hT
  obtain ⟨_,_,T,bk⟩ := S.sub [] [] (zF s147 ([([]:List Int),[0]]) :: LT2)
  refine zB (zy vH) zaI (vK T er158) ?_
  rintro _ w208 ⟨s173,rfl,S2⟩
  replace S:=bk _ _ _ _ _ S2 rfl rfl
  have hT2 : ∃ (s144':SlV) (s147':SlV) (s161':SlV) (s173':SlV),((plus L 44) 15=true→(upd g 134 (Value.agg (tmC r158 s173).toArray)) 105=s144'.v)∧((plus L 44) 16=true→(upd g 134 (Value.agg (tmC r158 s173).toArray)) 106=s147'.v)∧((plus L 44) 33=true→(upd g 134 (Value.agg (tmC r158 s173).toArray)) 123=Value.agg (tmC r158 s161').toArray)∧((plus L 44) 44=true→(upd g 134 (Value.agg (tmC r158 s173).toArray)) 134=Value.agg (tmC r158 s173').toArray)∧St A N w w208 (zF s147' ([([]:List Int),[0]]) :: LT2) (ze s173' r158.sub :: ze s161' r158.sub :: LT1):=⟨s144,s147,s161,s173,kpU he15,kpU he16,kpU he33,fun _=>upd_same _ _ _,S⟩
  exact w4 trivial (by simp only [pN L 44 15,pN L 44 16,pN L 44 17,pN L 44 33,pN L 44 45,xM (L:=L) (i:=44),hl45,cd2] at hT2 ⊢; exact hT2)
 ·rintro L g v hL hcl hclo hT hv43 hv44 hv41
  refine yA (j:=41) (pol:=true) rfl rfl hv41 zaI (by simpa using hg169) ?_
  have hl44:L 44=true:=hcl 44 zaL
  have hl45:L 45=false:=hL
  replace hT : ∃ (s144:SlV) (s147:SlV) (s161:SlV) (s173:SlV),(L 15=true→g 105=s144.v)∧(L 16=true→g 106=s147.v)∧(L 33=true→g 123=Value.agg (tmC r158 s161).toArray)∧(L 44=true→g 134=Value.agg (tmC r158 s173).toArray)∧St A N w v (zF s147 ([([]:List Int),[0]]) :: LT2) (ze s173 r158.sub :: ze s161 r158.sub :: LT1):=by simp only [hl44,hl45,cd2] at hT ⊢; exact hT
  obtain ⟨s144,s147,s161,s173,he15,he16,he33,he44,S⟩ := hT
  refine vx (C:=Term.C) (l:=[(tmM 2 (bA #[120]) s17),(tmT r158 s173)]) (vs:=[.agg (Term.C (tmM 2 (bA #[120]) s17)).toArray,.agg (tmC r158 s173).toArray]) zr uG.zero (x5 hv43 (x5 (he44 (hcl 44 zaL)) rfl)) rfl (fun a _=>Term.len a) zaI rfl zaI fun b211 w210 s176 hBw210 hw210=>?_
  replace S:=((S.lit hBw210 hw210 zaK).bigTm).consTm (x:=r158) 0
  replace S:=((S.consTm (x:=(ptM 2 (bA #[120]) [r11])) 17).frzTm 0 0).zs ([0] ++ rg 2 20)
  have hT2 : ∃ (s144':SlV) (s147':SlV) (s161':SlV) (s173':SlV) (s176':SlV),((plus L 45) 15=true→(upd g 135 (s176.v)) 105=s144'.v)∧((plus L 45) 16=true→(upd g 135 (s176.v)) 106=s147'.v)∧((plus L 45) 33=true→(upd g 135 (s176.v)) 123=Value.agg (tmC r158 s161').toArray)∧((plus L 45) 44=true→(upd g 135 (s176.v)) 134=Value.agg (tmC r158 s173').toArray)∧((plus L 45) 45=true→(upd g 135 (s176.v)) 135=s176'.v)∧((plus L 45) 46=true→(upd g 135 (s176.v)) 136=Value.agg (Term.C (tmN 3 0 s176')).toArray)∧St A N w w210 (zF s147' ([([]:List Int),[0]]) :: LT2) (ze s176' ([(ptM 2 (bA #[120]) [r11]),r158]) :: ze s173' r158.sub :: ze s161' r158.sub :: LT1):=⟨s144,s147,s161,s173,s176,kpU he15,kpU he16,kpU he33,kpU he44,fun _=>upd_same _ _ _,fun h=>absurd (hclo 46 45 (by rw [zG rfl] at h; exact h) zaL) (by rw [hL]; decide),S⟩
  exact w4 trivial (by simp only [pN L 45 15,pN L 45 16,pN L 45 17,pN L 45 33,pN L 45 44,xM (L:=L) (i:=45),cd2] at hT2 ⊢; exact hT2)
 ·rintro L g v hL hcl hclo hT hv45 hv41
  refine yA (j:=41) (pol:=true) rfl rfl hv41 zaI (by simpa using hg169) ?_
  have hl45:L 45=true:=hcl 45 zaL
  replace hT : ∃ (s144:SlV) (s147:SlV) (s161:SlV) (s173:SlV) (s176:SlV),(L 15=true→g 105=s144.v)∧(L 16=true→g 106=s147.v)∧(L 33=true→g 123=Value.agg (tmC r158 s161).toArray)∧(L 44=true→g 134=Value.agg (tmC r158 s173).toArray)∧(L 45=true→g 135=s176.v)∧(L 46=true→g 136=Value.agg (Term.C (tmN 3 0 s176)).toArray)∧St A N w v (zF s147 ([([]:List Int),[0]]) :: LT2) (ze s176 ([(ptM 2 (bA #[120]) [r11]),r158]) :: ze s173 r158.sub :: ze s161 r158.sub :: LT1):=by simp only [hl45,cd2] at hT ⊢; exact hT
  obtain ⟨s144,s147,s161,s173,s176,he15,he16,he33,he44,he45,he46,S⟩ := hT
  refine wd (Does.to (v' := .agg (Term.C (tmN 3 0 s176)).toArray) (xh (vs:=[(0,.int .i64 3),(4,s176.v)]) yC (x5 rfl (x5 (he45 (hcl 45 zaL)) rfl)) (Bld.one rfl rfl (by rw [Term.len]; decide) (Term.set_kind _ _) (Bld.one rfl (SlV.one _ _ rfl) (by rw [Term.len]; decide) (Term.set_sub _ _) Bld.nil))) rfl) ?_
  have hT2 : ∃ (s144':SlV) (s147':SlV) (s161':SlV) (s173':SlV) (s176':SlV),((plus L 46) 15=true→(upd g 136 (Value.agg (Term.C (tmN 3 0 s176)).toArray)) 105=s144'.v)∧((plus L 46) 16=true→(upd g 136 (Value.agg (Term.C (tmN 3 0 s176)).toArray)) 106=s147'.v)∧((plus L 46) 33=true→(upd g 136 (Value.agg (Term.C (tmN 3 0 s176)).toArray)) 123=Value.agg (tmC r158 s161').toArray)∧((plus L 46) 44=true→(upd g 136 (Value.agg (Term.C (tmN 3 0 s176)).toArray)) 134=Value.agg (tmC r158 s173').toArray)∧((plus L 46) 45=true→(upd g 136 (Value.agg (Term.C (tmN 3 0 s176)).toArray)) 135=s176'.v)∧((plus L 46) 46=true→(upd g 136 (Value.agg (Term.C (tmN 3 0 s176)).toArray)) 136=Value.agg (Term.C (tmN 3 0 s176')).toArray)∧St A N w v (zF s147' ([([]:List Int),[0]]) :: LT2) (ze s176' ([(ptM 2 (bA #[120]) [r11]),r158]) :: ze s173' r158.sub :: ze s161' r158.sub :: LT1):=⟨s144,s147,s161,s173,s176,kpU he15,kpU he16,kpU he33,kpU he44,kpU he45,fun _=>upd_same _ _ _,S⟩
  exact w4 trivial (by simp only [pN L 46 15,pN L 46 16,pN L 46 17,pN L 46 33,pN L 46 44,pN L 46 45,hl45,cd2] at hT2 ⊢; exact hT2)
 rintro L g w213 hLm hT hv214_0 hv214_1 hv214_2 hv214_3 hv214_4 hv214_5 hv214_6 hv214_7 hv214_8 hv214_9 hv214_10 hv214_11 hv214_12 hv214_13 hv214_14 _ _ hv214_17 hv214_18 hv214_19 hv214_20 hv214_21 hv214_22 hv214_23 hv214_24 hv214_25 hv214_26 hv214_27 hv214_28 hv214_29 hv214_30 hv214_31 hv214_32 _ hv214_34 hv214_35 hv214_36 hv214_37 hv214_38 hv214_39 hv214_40 hv214_41 hv214_42 hv214_43 _ _ _
 have hLt : ∀ j,j < 47→L j=true:=fun j hj=>by rw [hLm]; exact decide_eq_true hj
 replace hT : ∃ (s144:SlV) (s147:SlV) (s161:SlV) (s173:SlV) (s176:SlV),(L 15=true→g 105=s144.v)∧(L 16=true→g 106=s147.v)∧(L 33=true→g 123=Value.agg (tmC r158 s161).toArray)∧(L 44=true→g 134=Value.agg (tmC r158 s173).toArray)∧(L 45=true→g 135=s176.v)∧(L 46=true→g 136=Value.agg (Term.C (tmN 3 0 s176)).toArray)∧St A N w w213 (zF s147 ([([]:List Int),[0]]) :: LT2) (ze s176 ([(ptM 2 (bA #[120]) [r11]),r158]) :: ze s173 r158.sub :: ze s161 r158.sub :: LT1):=by simp only [hLt 45 zaI,cond_true] at hT ⊢; exact hT
 obtain ⟨s144,s147,s161,s173,s176,he15,he16,he33,he44,he45,he46,S⟩ := hT
 have hv214_15:=he15 (hLt 15 zaI)
 have hv214_16:=he16 (hLt 16 zaI)
 have hv214_33:=he33 (hLt 33 zaI)
 have hv214_44:=he44 (hLt 44 zaI)
 have hv214_45:=he45 (hLt 45 zaI)
 have hv214_46:=he46 (hLt 46 zaI)
 replace S:=S
 obtain ⟨r215,er215,H⟩ := zp H
 refine xW (j:=41) (pol:=true) rfl rfl hv214_41 zaI (fun hg=>zK j1 (zQ hv214_42 (zQ hv214_46 rfl))) zaI (fun hg=>(have ⟨M,SS⟩ := S.lend ((.z 10 rfl (.z 0 rfl .nil))); quiet (zat (a0:=r68.1) (a1:=(ptN 3 0 [(ptM 2 (bA #[120]) [r11]),r158])) SS (if_t (by simpa using hg) er215)) (fun v w' h=>⟨h.1,_,_,h.2⟩))) fun w216 hw216=>?_
 replace S:=S.ext hw216
 refine wd (z7 hv214_41 (fun hp=>(zn (xr hp)))) (wd (zA rfl) ?_)
 refine wg (fun hg=>zj rfl) ?_
 obtain ⟨r217,er217,H⟩ := zp H
 refine xW (j:=49) (pol:=true) rfl rfl rfl zaI (fun hg=>zK yq (zQ (zn hg) rfl)) zaI (fun hg=>(have ⟨M,SS⟩ := S.lend ((.nil)); quiet (yr SS (if_t (by simpa using hg) er217)) (fun v w' h=>⟨h.1,_,_,h.2⟩))) fun w218 hw218=>?_
 replace S:=S.ext hw218
 refine wg (fun hg=>zS (zn hg) rfl) (wd (z7 rfl (fun hp=>(zn (xr hp)))) (wd (zA rfl) ?_))
 refine wg (fun hg=>zA rfl) (wd (z7 rfl (fun hp=>(zn (xr hp)))) (wd (zA rfl) ?_))
 refine wg (fun hg=>zj rfl) ?_
 obtain ⟨r219,er219,H⟩ := zp H
 refine xW (j:=57) (pol:=true) rfl rfl rfl zaI (fun hg=>zK yq (zQ (zn hg) rfl)) zaI (fun hg=>(have ⟨M,SS⟩ := S.lend ((.nil)); quiet (yr SS (if_t (by simpa using hg) er219)) (fun v w' h=>⟨h.1,_,_,h.2⟩))) fun w220 hw220=>?_
 replace S:=S.ext hw220
 refine wg (fun hg=>zS (zn hg) rfl) (wd (z7 rfl (fun hp=>(zn (xr hp)))) (wd (zh rfl) (zd (zt ?_))))
 refine ⟨_,(zO (zg rfl)),?_⟩
 replace S:=S.arr [] []
 obtain rfl:=zaM H
 exact ⟨rfl,S⟩
end
section
namespace Gw
open Go.RowKit
end Gw
end
section
open Gw Go.RowKit
set_option maxHeartbeats 4000000
set_option maxRecDepth 20000
theorem law04_Tables_st {A:Nat→Prop} {N:Oth} {w:World} {a0:List Nd} {s_0:SlV} (S:St A N w w [] [fS 4 Nd.C s_0 a0]) {r:Tb × Tb} (H:zcx.f a0=some r) :
  Calls PP F_law04_Tables #[s_0.v] w <| Rt fun v w'=>(∃ ao0:Option Addr,∃ ao1:Option Addr,v = .tuple #[.pointer ao0,.pointer ao1]∧St A N w w' [oT ao0 r.1,oR ao1 r.2] []):=by
 unfold zcx.f at H
 refine zz (n:=20) Tryz.func9 rfl rfl zaK (zb (za ?_))
 replace S:=S.add (Ext.refl _) (oT.nil _) (fun _ x=>x.elim)
 refine wd (xd rfl) ?_
 replace S:=S.add (Ext.refl _) (oR.nil _) (fun _ x=>x.elim)
 refine wd (xd rfl) (zd (zb (za (wd (zN rfl) ?_))))
 obtain ⟨r1,er1,H⟩ := zp H
 obtain ⟨_,_,T,bk⟩ := S.calln 0 ((.z 0 rfl .nil))
 refine zB (zy ca_law03_Both) zaI (law03_Both_st T er1) ?_
 rintro _ w2 ⟨a4,a5,rfl,S2⟩
 replace S:=bk _ _ _ _ S2 rfl
 refine wd (xb rfl) (wd (zo rfl rfl) (wd (zo rfl rfl) (wd (zo rfl rfl) (wd (xd rfl) (wd (xd rfl) ?_)))))
 refine wd (zh rfl) (zd (zb (zb (za (wd (zA rfl) (wd (xj rfl) (zd ?_)))))))
 refine zI rfl (fun hc6=>?_) (fun hc6=>?_)
 ·replace H:=if_t hc6 H
  refine zb (za ?_)
  obtain ⟨r7,er7,H⟩ := zp H
  obtain ⟨_,_,T,bk⟩ := S.calln 0 ((.nil))
  refine zB (zy jt) zaI (jz T er7) ?_
  rintro _ w8 ⟨a10,rfl,S2⟩
  replace S:=bk _ _ _ _ S2 rfl
  refine wd (vr bu_RTab Bld.nil) ?_
  refine zJ rfl zaI fun b12 w11 hw11=>?_
  replace S:St A N w w11 [oR (some ⟨b12,0,none⟩) (some []),oT a10 r7,oT a4 r1.1,oR a5 r1.2.1,oR none none,oT none none] [fS 4 Nd.C s_0 a0]:=((S.nil T_Nd 4 Nd.C).new hw11).shutR rfl
  refine wd (xd rfl) (wd (xd rfl) (zd (zt ?_)))
  refine ⟨_,(xB (zg rfl) (zg rfl)),?_⟩
  replace S:=S.arr [1,0] []
  obtain rfl:=zaM H
  exact ⟨a10,(some ⟨b12,0,none⟩),rfl,S⟩
 replace H:=if_f hc6 H
 refine zw (zb (za (wd (zC rfl) (wd (zC rfl) (wd (xd rfl) (wd (xd rfl) (zd (zt ?_))))))))
 refine ⟨_,(xB (zg rfl) (zg rfl)),?_⟩
 replace S:=S.arr [0,1] []
 obtain rfl:=zaM H
 exact ⟨a4,a5,rfl,S⟩
theorem ref12_Copy_gst {zde:PTerm→Option PTerm} (zcP : ∀ {A:Nat→Prop} {N:Oth} {w:World} {a0:PTerm} {s_0:SlV} (S:St A N w w [] [ze s_0 a0.sub]) {r:PTerm} (H:zde a0=some r),Calls PP ji #[.agg (tmC a0 s_0).toArray] w <| Rt fun v w'=>(∃ so0:SlV,v = .agg (tmC r so0).toArray∧St A N w w' [] [ze so0 r.sub])) {A:Nat→Prop} {N:Oth} {w:World} {a0:PTerm} {s_0:SlV} (S:St A N w w [] [ze s_0 a0.sub]) {k:Nat} {r:PTerm} (H:zcy.g zde k a0=some r) :
  Calls PP ji #[.agg (tmC a0 s_0).toArray] w <| Rt fun v w'=>(∃ so0:SlV,v = .agg (tmC r so0).toArray∧St A N w w' [] [ze so0 r.sub]):=by
 unfold zcy.g at H
 refine zz (n:=26) Tryz.func10 rfl rfl zaK (zb (za ?_))
 refine zJ rfl zaI fun b2 w1 hw1=>?_
 replace S:=S.new hw1
 refine zP xm zaI fun b4 w3 hw3=>?_
 replace S:=S.new hw3
 refine zd (zb (za (wd (ldT rfl (S.blk 1)) ?_)))
 refine zP xm zaI fun b6 w5 hw5=>?_
 replace S:=S.new hw5
 refine wsT rfl rfl (S.blk 0) fun w7 B hw7 zw7=>?_
 replace S:=S.store 0 B hw7
 refine zd (zb (za (wd (zf zE rfl (o':=4) rfl) ?_)))
 refine yL zu rfl SlV.nil_eq (S.blk 0) (by rw [Term.len]; decide) (SlV.one _ _ rfl) (Term.set_sub _ _) fun w8 B hw8 zw8=>?_
 replace S:=S.store 0 B hw8
 refine zd (zb (zb (za (wd (zi rfl) (zd ?_)))))
 replace S:=((S.nil zk 5 Term.C).bigTm).nil zk 5 Term.C
 replace S:=S.bigTm
 obtain ⟨o9,e9,Ho9⟩ := zp H
 clear H
 refine xT ([4] ++ rg 7 18) (fun fr W => ∃ s9:Int × PTerm,o9 = .inl s9 ∧ ∃ s10:SlV,∃ m11:List Term,fr 4 = .int .i64 s9.1∧St A N w W [oS zk 5 Term.C SlV.nil ([]:List Term),oS zk 5 Term.C s10 m11,oB b6 zk (tmC s9.2 s10),oB b4 zk (Term.C tmZ),oB b2 zk (tmC a0 s_0)] [bigA xv ([]:List Term) ([]:List PTerm),bigA xv m11 s9.2.sub,ze s_0 a0.sub]) ?_ ?_
 ·refine zM ?_
  refine xN (α:=Nat × (Int × PTerm)) ([4] ++ rg 7 18) (fun x fr W=>iter (fun s=>zcy.b0 a0 zde s.1 s.2) x.1 x.2=some o9 ∧ ∃ s12:SlV,∃ m13:List Term,fr 4 = .int .i64 (x.2.1)∧St A N w W [oS zk 5 Term.C SlV.nil ([]:List Term),oS zk 5 Term.C s12 m13,oB b6 zk (tmC (x.2.2) s12),oB b4 zk (Term.C tmZ),oB b2 zk (tmC a0 s_0)] [bigA xv ([]:List Term) ([]:List PTerm),bigA xv m13 (x.2.2).sub,ze s_0 a0.sub]) (fun x=>x.1) (k,(0,(⟨a0.kind,a0.name,a0.other,a0.form,([]:List PTerm)⟩ : PTerm))) ⟨(by dsimp only; exact e9),SlV.nil,([]:List Term),rfl,S⟩ ?_
  rintro ⟨m9,⟨x9_0,x9_1⟩⟩ g9 u9 ⟨e9,s14,m15,q9_4,S⟩
  try dsimp only at e9
  try dsimp only at S
  try dsimp only at q9_4
  obtain ⟨m9,rfl⟩ : ∃ m,m9=m + 1:=⟨m9 - 1,by cases m9 with | zero=>cases e9 | succ m=>rfl⟩
  obtain ⟨q9,H,e9⟩ := iter_s e9
  unfold zcy.b0 at H
  try dsimp only at H
  refine zb (zb (za (wd (zj q9_4) (wd (zf zE rfl (o':=4) rfl) (wd (zm zu rfl ((S.blk 4).cell (Term.get_sub _))) (wd (does_lenF zr rfl (S.onZ 2)) (wd (xw rfl rfl) (zd ?_))))))))
  refine zI rfl (fun hc16=>?_) (fun hc16=>?_)
  rotate_left
  ·replace H:=if_f hc16 H
   refine x4 ?_
   obtain rfl:=zaM H
   exact ⟨rfl,df,(x9_0,x9_1),e9,s14,m15,q9_4,S⟩
  replace H:=if_t hc16 H
  refine zw (zb ?_)
  refine zM ?_
  obtain ⟨hi17,H⟩ := zV H
  obtain ⟨r19,er19,H⟩ := zp H
  obtain ⟨s18,S⟩ := S.viewTermC 2 (zD hi17)
  replace S:=S.zs [2,3,4,0,1]
  let LT1:List OA:=[bigA xv ([]:List Term) ([]:List PTerm),bigA xv m15 x9_1.sub,ze s_0 a0.sub,oCl s_0.blk (s_0.off + Int.toNat x9_0 * 5) (tmC (kd a0 x9_0) s18),ze s18 ((kd a0 x9_0).sub)]
  let LT2:List OA:=[oS zk 5 Term.C SlV.nil ([]:List Term),oS zk 5 Term.C s14 m15,oB b6 zk (tmC x9_1 s14),oB b4 zk (Term.C tmZ),oB b2 zk (tmC a0 s_0)]
  refine yw 9 ⟨fun _ _=>True,fun _ _ _=>True,fun i v _=>match i with
   | 0=>v=Value.pointer (some ⟨b6,4,none⟩)
   | 1=>v=s14.v
   | 2=>v=Value.pointer (some ⟨b2,4,none⟩)
   | 3=>v=s_0.v
   | 4=>v=Value.int .i64 x9_0
   | 5=>v=Value.pointer (some ⟨s_0.blk,s_0.off + Int.toNat x9_0 * 5,none⟩)
   | 6=>v=Value.agg (tmC (kd a0 x9_0) s18).toArray
   | _=>True⟩ (fun L g v=>bif L 8 then (∃ (s22:SlV) (s25:SlV),(L 7=true→g 21=Value.agg (tmC r19 s22).toArray)∧(L 8=true→g 22=s25.v)∧St A N w v (oS zk 5 Term.C s25 ([(tmT r19 s22)]) :: LT2) (ze s22 r19.sub :: LT1)) else bif L 7 then (∃ (s22:SlV),(L 7=true→g 21=Value.agg (tmC r19 s22).toArray)∧St A N w v LT2 (ze s22 r19.sub :: LT1)) else (St A N w v LT2 LT1)) hmix zaL (fun _ _ _ _ _ _ _ hv=>hv) (fun g=>S.ext (Ext.drawn _)) ⟨?_,?_,?_,?_,?_,?_,?_,?_,?_,trivial⟩ ?_
  ·rintro L g v hL hcl hclo hT 
   cases hl8:L 8 with
   | true =>
    replace hT : ∃ (s22:SlV) (s25:SlV),(L 7=true→g 21=Value.agg (tmC r19 s22).toArray)∧(L 8=true→g 22=s25.v)∧St A N w v (oS zk 5 Term.C s25 ([(tmT r19 s22)]) :: LT2) (ze s22 r19.sub :: LT1):=by simp only [hl8,cd2] at hT ⊢; exact hT
    obtain ⟨s22,s25,he7,he8,S⟩ := hT
    refine wd (zf zE rfl (o':=4) rfl) ?_
    have hT2 : ∃ (s22':SlV) (s25':SlV),((plus L 0) 7=true→(upd g 14 (Value.pointer (some ⟨b6,4,none⟩))) 21=Value.agg (tmC r19 s22').toArray)∧((plus L 0) 8=true→(upd g 14 (Value.pointer (some ⟨b6,4,none⟩))) 22=s25'.v)∧St A N w v (oS zk 5 Term.C s25' ([(tmT r19 s22')]) :: LT2) (ze s22' r19.sub :: LT1):=⟨s22,s25,kpU he7,kpU he8,S⟩
    exact w4 rfl (by simp only [pN L 0 7,pN L 0 8,hl8,cd2] at hT2 ⊢; exact hT2)
   | false =>
    cases hl7:L 7 with
    | true =>
     replace hT : ∃ (s22:SlV),(L 7=true→g 21=Value.agg (tmC r19 s22).toArray)∧St A N w v LT2 (ze s22 r19.sub :: LT1):=by simp only [hl7,hl8,cd2] at hT ⊢; exact hT
     obtain ⟨s22,he7,S⟩ := hT
     refine wd (zf zE rfl (o':=4) rfl) ?_
     have hT2 : ∃ (s22':SlV),((plus L 0) 7=true→(upd g 14 (Value.pointer (some ⟨b6,4,none⟩))) 21=Value.agg (tmC r19 s22').toArray)∧St A N w v LT2 (ze s22' r19.sub :: LT1):=⟨s22,kpU he7,S⟩
     exact w4 rfl (by simp only [pN L 0 7,pN L 0 8,hl7,hl8,cd2] at hT2 ⊢; exact hT2)
    | false =>
     simp only [hl7,hl8,cd2] at hT
     replace S:=hT
     refine wd (zf zE rfl (o':=4) rfl) ?_
     exact w4 rfl (by simp only [pN L 0 7,pN L 0 8,hl7,hl8,cd2]; exact S)
  ·rintro L g v hL hcl hclo hT hv0
   cases hl8:L 8 with
   | true =>
    replace hT : ∃ (s22:SlV) (s25:SlV),(L 7=true→g 21=Value.agg (tmC r19 s22).toArray)∧(L 8=true→g 22=s25.v)∧St A N w v (oS zk 5 Term.C s25 ([(tmT r19 s22)]) :: LT2) (ze s22 r19.sub :: LT1):=by simp only [hl8,cd2] at hT ⊢; exact hT
    obtain ⟨s22,s25,he7,he8,S⟩ := hT
    refine wd (zm zu hv0 ((S.blk 3).cell (Term.get_sub _))) ?_
    have hT2 : ∃ (s22':SlV) (s25':SlV),((plus L 1) 7=true→(upd g 15 (s14.v)) 21=Value.agg (tmC r19 s22').toArray)∧((plus L 1) 8=true→(upd g 15 (s14.v)) 22=s25'.v)∧St A N w v (oS zk 5 Term.C s25' ([(tmT r19 s22')]) :: LT2) (ze s22' r19.sub :: LT1):=⟨s22,s25,kpU he7,kpU he8,S⟩
    exact w4 rfl (by simp only [pN L 1 7,pN L 1 8,hl8,cd2] at hT2 ⊢; exact hT2)
   | false =>
    cases hl7:L 7 with
    | true =>
     replace hT : ∃ (s22:SlV),(L 7=true→g 21=Value.agg (tmC r19 s22).toArray)∧St A N w v LT2 (ze s22 r19.sub :: LT1):=by simp only [hl7,hl8,cd2] at hT ⊢; exact hT
     obtain ⟨s22,he7,S⟩ := hT
     refine wd (zm zu hv0 ((S.blk 2).cell (Term.get_sub _))) ?_
     have hT2 : ∃ (s22':SlV),((plus L 1) 7=true→(upd g 15 (s14.v)) 21=Value.agg (tmC r19 s22').toArray)∧St A N w v LT2 (ze s22' r19.sub :: LT1):=⟨s22,kpU he7,S⟩
     exact w4 rfl (by simp only [pN L 1 7,pN L 1 8,hl7,hl8,cd2] at hT2 ⊢; exact hT2)
    | false =>
     simp only [hl7,hl8,cd2] at hT
     replace S:=hT
     refine wd (zm zu hv0 ((S.blk 2).cell (Term.get_sub _))) ?_
     exact w4 rfl (by simp only [pN L 1 7,pN L 1 8,hl7,hl8,cd2]; exact S)
  ·rintro L g v hL hcl hclo hT 
   have hl7:=clF hL (hclo 7 2 · zaL)
   have hl8:=clF hL (hclo 8 2 · zaL)
   simp only [hl7,hl8,cd2] at hT
   replace S:=hT
   refine wd (zf zE rfl (o':=4) rfl) ?_
   exact w4 rfl (by simp only [pN L 2 7,pN L 2 8,hl7,hl8,cd2]; exact S)
  ·rintro L g v hL hcl hclo hT hv2
   have hl7:=clF hL (hclo 7 3 · zaL)
   have hl8:=clF hL (hclo 8 3 · zaL)
   simp only [hl7,hl8,cd2] at hT
   replace S:=hT
   refine wd (zm zu hv2 ((S.blk 4).cell (Term.get_sub _))) ?_
   exact w4 rfl (by simp only [pN L 3 7,pN L 3 8,hl7,hl8,cd2]; exact S)
  ·rintro L g v hL hcl hclo hT 
   have hl7:=clF hL (hclo 7 4 · zaL)
   have hl8:=clF hL (hclo 8 4 · zaL)
   simp only [hl7,hl8,cd2] at hT
   replace S:=hT
   refine wd (zj q9_4) ?_
   exact w4 rfl (by simp only [pN L 4 7,pN L 4 8,hl7,hl8,cd2]; exact S)
  ·rintro L g v hL hcl hclo hT hv3 hv4
   have hl7:=clF hL (hclo 7 5 · zaL)
   have hl8:=clF hL (hclo 8 5 · zaL)
   simp only [hl7,hl8,cd2] at hT
   replace S:=hT
   refine wd (does_indexF zr hv3 hv4 (S.onZ 2) (zD hi17).1 (zD hi17).2) ?_
   exact w4 rfl (by simp only [pN L 5 7,pN L 5 8,hl7,hl8,cd2]; exact S)
  ·rintro L g v hL hcl hclo hT hv5
   have hl7:=clF hL (hclo 7 6 · zaL)
   have hl8:=clF hL (hclo 8 6 · zaL)
   simp only [hl7,hl8,cd2] at hT
   replace S:=hT
   refine wd (zq zT hv5 (S.cl 3) (Term.len _)) ?_
   exact w4 rfl (by simp only [pN L 6 7,pN L 6 8,hl7,hl8,cd2]; exact S)
  ·rintro L g v hL hcl hclo hT hv6
   have hl7:L 7=false:=hL
   have hl8:=clF hL (hclo 8 7 · zaL)
   simp only [hl7,hl8,cd2] at hT
   replace S:=hT
   obtain ⟨_,_,T,bk⟩ := S.sub [4] [] LT2
   refine zB (zK ub (zQ hv6 rfl)) zaI (zcP (a0:=(kd a0 x9_0)) T er19) ?_
   rintro _ w28 ⟨s22,rfl,S2⟩
   replace S:=bk _ _ _ _ _ S2 rfl rfl
   have hT2 : ∃ (s22':SlV),((plus L 7) 7=true→(upd g 21 (Value.agg (tmC r19 s22).toArray)) 21=Value.agg (tmC r19 s22').toArray)∧St A N w w28 LT2 (ze s22' r19.sub :: LT1):=⟨s22,fun _=>upd_same _ _ _,S⟩
   exact w4 trivial (by simp only [pN L 7 8,xM (L:=L) (i:=7),hl8,cd2] at hT2 ⊢; exact hT2)
  ·rintro L g v hL hcl hclo hT hv7
   have hl7:L 7=true:=hcl 7 zaL
   have hl8:L 8=false:=hL
   replace hT : ∃ (s22:SlV),(L 7=true→g 21=Value.agg (tmC r19 s22).toArray)∧St A N w v LT2 (ze s22 r19.sub :: LT1):=by simp only [hl7,hl8,cd2] at hT ⊢; exact hT
   obtain ⟨s22,he7,S⟩ := hT
   refine vx (C:=Term.C) (l:=[(tmT r19 s22)]) (vs:=[.agg (tmC r19 s22).toArray]) zr uG.zero (x5 (he7 (hcl 7 zaL)) rfl) rfl (fun a _=>Term.len a) zaI rfl zaI fun b31 w30 s25 hBw30 hw30=>?_
   replace S:=S.lit hBw30 hw30 zaK
   have hT2 : ∃ (s22':SlV) (s25':SlV),((plus L 8) 7=true→(upd g 22 (s25.v)) 21=Value.agg (tmC r19 s22').toArray)∧((plus L 8) 8=true→(upd g 22 (s25.v)) 22=s25'.v)∧St A N w w30 (oS zk 5 Term.C s25' ([(tmT r19 s22')]) :: LT2) (ze s22' r19.sub :: LT1):=⟨s22,s25,kpU he7,fun _=>upd_same _ _ _,S⟩
   exact w4 trivial (by simp only [pN L 8 7,xM (L:=L) (i:=8),cd2] at hT2 ⊢; exact hT2)
  rintro L g w33 hLm hT hv34_0 hv34_1 hv34_2 hv34_3 hv34_4 hv34_5 hv34_6 _ _
  have hLt : ∀ j,j < 9→L j=true:=fun j hj=>by rw [hLm]; exact decide_eq_true hj
  replace hT : ∃ (s22:SlV) (s25:SlV),(L 7=true→g 21=Value.agg (tmC r19 s22).toArray)∧(L 8=true→g 22=s25.v)∧St A N w w33 (oS zk 5 Term.C s25 ([(tmT r19 s22)]) :: LT2) (ze s22 r19.sub :: LT1):=by simp only [hLt 8 zaI,cond_true] at hT ⊢; exact hT
  obtain ⟨s22,s25,he7,he8,S⟩ := hT
  have hv34_7:=he7 (hLt 7 zaI)
  have hv34_8:=he8 (hLt 8 zaI)
  replace S:=S
  obtain ⟨ha37,H⟩ := zV H
  have ha37:=of_decide_eq_true ha37
  have hmha37:((m15).length + ([(tmT r19 s22)]).length) * 72 ≤ 140737488355328:=by rw [S.lenTm 2 (l:=x9_1.sub)]; exact ha37
  refine wl_appends (C:=Term.C) zr uG hv34_1 hv34_8 (S.sl 2) (S.rdO 0) zaK (fun a _=>Term.one a) hmha37 zaJ zaI fun s36 w35 O hw35 gw35=>?_
  replace S:=S.push 2 O (by first | (simp; done) | (simp; omega) | (simp only [List.length_append]; omega)) hw35 gw35
  clear O
  replace S:=S.snocTm (x:=r19) 2 0
  refine wd (zf zE rfl (o':=4) rfl) ?_
  refine yL zu rfl rfl (S.blk 3) (by rw [Term.len]; decide) (SlV.one _ _ rfl) (Term.set_sub _ _) fun w38 B hw38 zw38=>?_
  replace S:=S.store 3 B hw38
  refine zd (za (wd (zj q9_4) (wd (yW rfl rfl) (wd (zi rfl) (zd ?_)))))
  replace S:=S.arr [3,1,0,4,5] [2,0,4]
  obtain rfl:=zaM H
  exact ⟨rfl,df,(m9,(IntKind.i64.wrap (x9_0 + 1),(⟨x9_1.kind,x9_1.name,x9_1.other,x9_1.form,x9_1.sub ++ [r19]⟩ : PTerm))),⟨e9,s36,m15 ++ [(tmT r19 s22)],rfl,S⟩,by dsimp only; omega⟩
 rintro g39 u40 ⟨s9,rfl,s10,m11,p9_4,S⟩
 have H:=Ho9
 dsimp only [aft] at H
 refine zb (za ?_)
 replace S:=S.frzTm 1 1
 refine wd (ldT rfl (S.blk 1)) ?_
 refine wsT rfl rfl (S.blk 2) fun w41 B hw41 zw41=>?_
 replace S:=S.store 2 B hw41
 refine zd (zt ?_)
 refine ⟨_,(zO (rtT rfl (S.blk 0))),?_⟩
 replace S:=S.arr [] [0]
 obtain rfl:=zaM H
 exact ⟨s10,rfl,S⟩
theorem uQ {A:Nat→Prop} {N:Oth} {w:World} {a0:PTerm} {s_0:SlV} (S:St A N w w [] [ze s_0 a0.sub]) {k:Nat} {r:PTerm} (H:zcy.f k a0=some r) :
  Calls PP ji #[.agg (tmC a0 s_0).toArray] w <| Rt fun v w'=>(∃ so0:SlV,v = .agg (tmC r so0).toArray∧St A N w w' [] [ze so0 r.sub]):=by
 have main : ∀ (k:Nat) {A:Nat→Prop} {N:Oth} {w:World} {a0:PTerm} {s_0:SlV} (S:St A N w w [] [ze s_0 a0.sub]) {r:PTerm} (H:zcy.f k a0=some r),Calls PP ji #[.agg (tmC a0 s_0).toArray] w <| Rt fun v w'=>(∃ so0:SlV,v = .agg (tmC r so0).toArray∧St A N w w' [] [ze so0 r.sub]):=by
  intro k
  induction k with
  | zero=>intro A N w a0 s_0 S r H; cases H
  | succ k ih=>intro A N w a0 s_0 S r H; exact ref12_Copy_gst ih S H
 exact main k S H
end
section
open Gw Go.RowKit
set_option maxHeartbeats 4000000
set_option maxRecDepth 20000
end
section
open Gw Go.RowKit
section
variable {A:Nat→Prop} {N:Oth} {w0 w:World} {L Z:List OA}
theorem Gw.St.viewL_intC (h:St A N w0 w L Z) (k:Nat) {s:SlV} {l:List (List Int)} {i:Int} (hi:0 ≤ i∧i < l.length) (e:Z[k]? = some (zF s l):=by rfl) :
  ∃ n:SlV,St A N w0 w L (oCl s.blk (s.off + Int.toNat i * 1) (L_int.C n) :: fS 1 IC n (at_ [] l i) :: Z):=by
 obtain ⟨n,hc,S⟩ := h.viewL_int k hi e
 refine ⟨n,S.part (k + 1) (a:=zF s l) (b:=oCl s.blk (s.off + Int.toNat i * 1) (L_int.C n)) (fun F hF=>⟨fun j=>j=s.blk,⟨hc,?_,fun _=>Iff.rfl⟩,fun j hj=>?_⟩) (by simpa using e)⟩
 ·exact World.block_lt_of_cell? (a:=⟨_,_,none⟩) w (hc 0 n.v rfl)
 ·obtain ⟨ms,G,H,g,hh,q⟩ := hF
  have hl:=big_len hh
  rw [hj]
  refine (q.2 _).2 (.inl ((g.2 _).2 ⟨fun e0=>?_,rfl⟩))
  have h3:i.toNat < ms.length:=by omega
  have hp:=(g.1.1.toRd.sl.cells i.toNat (L_int.C ms[i.toNat]) (by simp [List.getElem?_eq_getElem h3])).1
  rw [e0] at hp
  cases hp
end
end
section
open Gw Go.RowKit
set_option maxHeartbeats 4000000
set_option maxRecDepth 20000
variable {A:Nat→Prop} {N:Oth} {w:World}
theorem uV {a0:Tb} {a_0:Option Addr} {a1:PTerm} {s_1:SlV} {a2:Int} {a3:Int} (S:St A N w w [] [oR a_0 a0,ze s_1 a1.sub]) {r:PTerm × Nd × Bool × Bool} (H:zcz.f a0 a1 a2 a3=some r) :
  Calls PP F_ref14_beside #[.pointer a_0,.agg (tmC a1 s_1).toArray,.int .i64 a2,.int .i64 a3] w fun e w' => ∃ v,e = .returned v∧(∃ so0:SlV,v = .tuple #[.agg (tmC r.1 so0).toArray,.agg (Nd.C r.2.1).toArray,.bool r.2.2.1,.bool r.2.2.2]∧St A N w w' [] [ze so0 r.1.sub]):=by
 unfold zcz.f at H
 refine zz (n:=57) Tryz.func54 rfl rfl zaK (zb (za ?_))
 refine zJ rfl zaI fun b2 w1 hw1=>?_
 replace S:=S.new hw1
 refine zP xm zaI fun b4 w3 hw3=>?_
 replace S:=S.new hw3
 refine zP ze_Nd zaI fun b6 w5 hw5=>?_
 replace S:=S.new hw5
 refine wd (zh rfl) (wd (zh rfl) (zd (zb (zb (za (wd (zf zZ rfl (o':=0) rfl) (wd (zm zR rfl ((S.blk 2).cell (Term.get_kind _))) ?_)))))))
 refine wd (zj rfl) (wd (zS rfl rfl) (zd ?_))
 refine zI rfl (fun hc7=>?_) (fun hc7=>?_)
 ·replace H:=if_t hc7 H
  refine zb (za (wd (zq zT rfl ((S.blk 2).all _ (Term.len _)) (Term.len _)) (wd (vr bu_Nd Bld.nil) ?_)))
  refine zU zT rfl rfl (S.blk 1) (Term.len _) (by rw [Term.len]; decide) (Term.one _) (xg (Term.len _)) fun w8 B hw8 zw8=>?_
  replace S:=S.store 1 B hw8
  clear B
  refine zU yV rfl rfl (S.blk 1) (Nd.len _) (by rw [Nd.len]; decide) (Nd.one _) (xg (Nd.len _)) fun w9 B hw9 zw9=>?_
  replace S:=S.store 1 B hw9
  clear B
  refine wd (zh rfl) (wd (zh rfl) (zd (zt ?_)))
  refine ⟨_,(kk (x8 zT rfl ((S.blk 1).all _ (Term.len _)) (Term.len _)) (x8 yV rfl ((S.blk 0).all _ (Nd.len _)) (Nd.len _)) (zg rfl) (zg rfl)),?_⟩
  replace S:=S.arr [] [1]
  obtain rfl:=zaM H
  exact ⟨s_1,rfl,S⟩
 replace H:=if_f hc7 H
 refine zw (zb (zb ?_))
 refine xQ 23 (Ext w5) hmix zaL zaL (Ext.drawn _) (zx (fun v K=>zf zZ rfl (o':=0) rfl) (zx (fun v K=>zm zR rfl (((S.ext K).blk 2).cell (Term.get_kind _))) (zx (fun v K=>zS rfl rfl) (zx (fun v K=>zA rfl) (yf (j:=3) (pol:=true) rfl rfl rfl (fun hg v K=>zf zE rfl (o':=4) rfl) ?_)))))
 refine yf (j:=3) (pol:=true) rfl rfl rfl (fun hg v K=>zm zu (zn hg) (((S.ext K).blk 2).cell (Term.get_sub _))) ?_
 obtain ⟨hi10,H⟩ := chk_g H
 refine yf (j:=3) (pol:=true) rfl rfl rfl (fun hg v K=>does_indexF zr (zn hg) rfl ((S.ext K).onZ 1) (zD (hi10 (by simpa using hg))).1 (zD (hi10 (by simpa using hg))).2) (yf (j:=3) (pol:=true) rfl rfl rfl (fun hg v K=>zf zZ (zn hg) (o':=_) rfl) (yf (j:=3) (pol:=true) rfl rfl rfl (fun hg v K=>zm zR (zn hg) (yG.get_kind ((S.ext K).onZ 1) (zD (hi10 (by simpa using hg))))) (yf (j:=3) (pol:=true) rfl rfl rfl (fun hg v K=>zj rfl) (yf (j:=3) (pol:=true) rfl rfl rfl (fun hg v K=>zS (zn hg) (zn hg)) (zx (fun v K=>z7 rfl (fun hp=>(zn (xr hp)))) ?_)))))
 refine zx (fun v K=>zA rfl) (yf (j:=12) (pol:=true) rfl rfl rfl (fun hg v K=>zC rfl) ?_)
 obtain ⟨ht11,H⟩ := zV H
 obtain ⟨p12,s13,hp14,S⟩ := S.seeR 0 ht11
 replace S:=S
 refine yf (j:=12) (pol:=true) rfl rfl rfl (fun hg v K=>zW (((zn hg):_=Value.pointer a_0).trans (congrArg Value.pointer hp14))) (yf (j:=12) (pol:=true) rfl rfl rfl (fun hg v K=>zf ue (zn hg) (o':=0) rfl) (yf (j:=12) (pol:=true) rfl rfl rfl (fun hg v K=>zm xC (zn hg) (((S.ext K).blkZ 0).cell (RTab.get_n _))) (yf (j:=12) (pol:=true) rfl rfl rfl (fun hg v K=>zf yi rfl (o':=3) rfl) (yf (j:=12) (pol:=true) rfl rfl rfl (fun hg v K=>zm xD (zn hg) (((S.ext K).blk 2).cell (Term.get_form _))) ?_))))
 obtain ⟨hi15,H⟩ := chk_g H
 refine yf (j:=12) (pol:=true) rfl rfl rfl (fun hg v K=>xf xe (zn hg) (zn hg) ((S.ext K).rd 1) (zD (hi15 (by simpa using hg))).1 (zD (hi15 (by simpa using hg))).2) (yf (j:=12) (pol:=true) rfl rfl rfl (fun hg v K=>zf fl_Nd_kind (zn hg) (o':=_) rfl) (yf (j:=12) (pol:=true) rfl rfl rfl (fun hg v K=>zm jd (zn hg) ((((S.ext K).rd 1).at (yB Nd.z (zD (hi15 (by simpa using hg))))).get (Nd.get_kind _))) (yf (j:=12) (pol:=true) rfl rfl rfl (fun hg v K=>zj rfl) ?_)))
 refine yH fun w16 K=>?_
 replace S:=S.ext K
 clear K
 refine wg (fun hg=>zS (zn hg) (zn hg)) (wd (z7 rfl (fun hp=>(zn (xr hp)))) ?_)
 replace S:=S.zs [2,3]
 refine zd ?_
 refine zI rfl (fun hc17=>?_) (fun hc17=>?_)
 ·replace H:=if_t hc17 H
  refine zb ?_
  obtain ⟨p25,s26,hp27,S⟩ := S.seeR 0 ht11
  replace S:=S
  obtain ⟨hi28,H⟩ := zV H
  obtain ⟨hi30,H⟩ := zV H
  obtain ⟨s29,S⟩ := S.viewTermC 3 (zD hi28)
  replace S:=S.zs [2,3,4,5,0,1]
  refine yw 13 ⟨fun _ _=>True,fun _ _ _=>True,fun i v _=>match i with
   | 0=>v=Value.pointer (some ⟨b2,4,none⟩)
   | 1=>v=s_1.v
   | 2=>v=Value.pointer (some ⟨s_1.blk,s_1.off + Int.toNat 0 * 5,none⟩)
   | 3=>v=Value.agg (tmC (kd a1 0) s29).toArray
   | 4=>v=Value.pointer a_0
   | 5=>v=Value.pointer (some ⟨p25,0,none⟩)
   | 6=>v=Value.pointer (some ⟨p25,0,none⟩)
   | 7=>v=s26.v
   | 8=>v=Value.pointer (some ⟨b2,3,none⟩)
   | 9=>v=Value.int .i64 a1.form
   | 10=>v=Value.pointer (some ⟨s26.blk,s26.off + Int.toNat a1.form * 4,none⟩)
   | 11=>v=Value.agg (Nd.C (at_ Nd.z (a0.getD []) a1.form)).toArray
   | _=>True⟩ (fun L g v=>bif L 12 then (St A N w v [oB b4 zk (tmC (kd a1 0) s29),oB b6 T_Nd (Nd.C Nd.z),oB b2 zk (tmC a1 s_1)] [oB p25 T_RTab (RTab.C ⟨s26⟩),fS 4 Nd.C s26 (a0.getD []),oR a_0 a0,ze s_1 a1.sub,oCl s_1.blk (s_1.off + Int.toNat 0 * 5) (tmC (kd a1 0) s29),ze s29 ((kd a1 0).sub)]) else (St A N w v [oB b6 T_Nd (Nd.C Nd.z),oB b4 zk (Term.C tmZ),oB b2 zk (tmC a1 s_1)] [oB p25 T_RTab (RTab.C ⟨s26⟩),fS 4 Nd.C s26 (a0.getD []),oR a_0 a0,ze s_1 a1.sub,oCl s_1.blk (s_1.off + Int.toNat 0 * 5) (tmC (kd a1 0) s29),ze s29 ((kd a1 0).sub)])) hmix zaL (fun _ _ _ _ _ _ _ hv=>hv) (fun g=>S.ext (Ext.drawn _)) ⟨?_,?_,?_,?_,?_,?_,?_,?_,?_,?_,?_,?_,?_,trivial⟩ ?_
  ·rintro L g v hL hcl hclo hT 
   have hl12:L 12=false:=by cases h:L 12 with | false=>rfl | true=>exact absurd (hclo 12 0 h zaL) (by rw [hL]; decide)
   simp only [hl12,cond_true,cond_false] at hT
   replace S:=hT
   refine wd (zf zE rfl (o':=4) rfl) ?_
   exact zd (ob4 trivial rfl (by simp only [zG (L:=L) (i:=0) (j:=12) rfl,hl12,cond_true,cond_false]; exact S))
  ·rintro L g v hL hcl hclo hT hv0
   have hl12:L 12=false:=by cases h:L 12 with | false=>rfl | true=>exact absurd (hclo 12 1 h zaL) (by rw [hL]; decide)
   simp only [hl12,cond_true,cond_false] at hT
   replace S:=hT
   refine wd (zm zu hv0 ((S.blk 2).cell (Term.get_sub _))) ?_
   exact zd (ob4 trivial rfl (by simp only [zG (L:=L) (i:=1) (j:=12) rfl,hl12,cond_true,cond_false]; exact S))
  ·rintro L g v hL hcl hclo hT hv1
   have hl12:L 12=false:=by cases h:L 12 with | false=>rfl | true=>exact absurd (hclo 12 2 h zaL) (by rw [hL]; decide)
   simp only [hl12,cond_true,cond_false] at hT
   replace S:=hT
   refine wd (does_indexF zr hv1 rfl (S.onZ 3) (zD hi28).1 (zD hi28).2) ?_
   exact zd (ob4 trivial rfl (by simp only [zG (L:=L) (i:=2) (j:=12) rfl,hl12,cond_true,cond_false]; exact S))
  ·rintro L g v hL hcl hclo hT hv2
   have hl12:L 12=false:=by cases h:L 12 with | false=>rfl | true=>exact absurd (hclo 12 3 h zaL) (by rw [hL]; decide)
   simp only [hl12,cond_true,cond_false] at hT
   replace S:=hT
   refine wd (zq zT hv2 (S.cl 4) (Term.len _)) ?_
   exact zd (ob4 trivial rfl (by simp only [zG (L:=L) (i:=3) (j:=12) rfl,hl12,cond_true,cond_false]; exact S))
  ·rintro L g v hL hcl hclo hT 
   cases hl12:L 12 with
   | true =>
    simp only [hl12,cond_true,cond_false] at hT
    replace S:=hT
    refine wd (zC rfl) ?_
    exact zd (ob4 trivial rfl (by simp only [zG (L:=L) (i:=4) (j:=12) rfl,hl12,cond_true,cond_false]; exact S))
   | false =>
    simp only [hl12,cond_true,cond_false] at hT
    replace S:=hT
    refine wd (zC rfl) ?_
    exact zd (ob4 trivial rfl (by simp only [zG (L:=L) (i:=4) (j:=12) rfl,hl12,cond_true,cond_false]; exact S))
  ·rintro L g v hL hcl hclo hT hv4
   cases hl12:L 12 with
   | true =>
    simp only [hl12,cond_true,cond_false] at hT
    replace S:=hT
    refine wd (zW ((hv4:_=Value.pointer a_0).trans (congrArg Value.pointer hp27))) ?_
    exact zd (ob4 trivial rfl (by simp only [zG (L:=L) (i:=5) (j:=12) rfl,hl12,cond_true,cond_false]; exact S))
   | false =>
    simp only [hl12,cond_true,cond_false] at hT
    replace S:=hT
    refine wd (zW ((hv4:_=Value.pointer a_0).trans (congrArg Value.pointer hp27))) ?_
    exact zd (ob4 trivial rfl (by simp only [zG (L:=L) (i:=5) (j:=12) rfl,hl12,cond_true,cond_false]; exact S))
  ·rintro L g v hL hcl hclo hT hv5
   cases hl12:L 12 with
   | true =>
    simp only [hl12,cond_true,cond_false] at hT
    replace S:=hT
    refine wd (zf ue hv5 (o':=0) rfl) ?_
    exact zd (ob4 trivial rfl (by simp only [zG (L:=L) (i:=6) (j:=12) rfl,hl12,cond_true,cond_false]; exact S))
   | false =>
    simp only [hl12,cond_true,cond_false] at hT
    replace S:=hT
    refine wd (zf ue hv5 (o':=0) rfl) ?_
    exact zd (ob4 trivial rfl (by simp only [zG (L:=L) (i:=6) (j:=12) rfl,hl12,cond_true,cond_false]; exact S))
  ·rintro L g v hL hcl hclo hT hv6
   cases hl12:L 12 with
   | true =>
    simp only [hl12,cond_true,cond_false] at hT
    replace S:=hT
    refine wd (zm xC hv6 ((S.blkZ 0).cell (RTab.get_n _))) ?_
    exact zd (ob4 trivial rfl (by simp only [zG (L:=L) (i:=7) (j:=12) rfl,hl12,cond_true,cond_false]; exact S))
   | false =>
    simp only [hl12,cond_true,cond_false] at hT
    replace S:=hT
    refine wd (zm xC hv6 ((S.blkZ 0).cell (RTab.get_n _))) ?_
    exact zd (ob4 trivial rfl (by simp only [zG (L:=L) (i:=7) (j:=12) rfl,hl12,cond_true,cond_false]; exact S))
  ·rintro L g v hL hcl hclo hT 
   cases hl12:L 12 with
   | true =>
    simp only [hl12,cond_true,cond_false] at hT
    replace S:=hT
    refine wd (zf yi rfl (o':=3) rfl) ?_
    exact zd (ob4 trivial rfl (by simp only [zG (L:=L) (i:=8) (j:=12) rfl,hl12,cond_true,cond_false]; exact S))
   | false =>
    simp only [hl12,cond_true,cond_false] at hT
    replace S:=hT
    refine wd (zf yi rfl (o':=3) rfl) ?_
    exact zd (ob4 trivial rfl (by simp only [zG (L:=L) (i:=8) (j:=12) rfl,hl12,cond_true,cond_false]; exact S))
  ·rintro L g v hL hcl hclo hT hv8
   cases hl12:L 12 with
   | true =>
    simp only [hl12,cond_true,cond_false] at hT
    replace S:=hT
    refine wd (zm xD hv8 ((S.blk 2).cell (Term.get_form _))) ?_
    exact zd (ob4 trivial rfl (by simp only [zG (L:=L) (i:=9) (j:=12) rfl,hl12,cond_true,cond_false]; exact S))
   | false =>
    simp only [hl12,cond_true,cond_false] at hT
    replace S:=hT
    refine wd (zm xD hv8 ((S.blk 2).cell (Term.get_form _))) ?_
    exact zd (ob4 trivial rfl (by simp only [zG (L:=L) (i:=9) (j:=12) rfl,hl12,cond_true,cond_false]; exact S))
  ·rintro L g v hL hcl hclo hT hv7 hv9
   cases hl12:L 12 with
   | true =>
    simp only [hl12,cond_true,cond_false] at hT
    replace S:=hT
    refine wd (xf xe hv7 hv9 (S.rd 1) (zD hi30).1 (zD hi30).2) ?_
    exact zd (ob4 trivial rfl (by simp only [zG (L:=L) (i:=10) (j:=12) rfl,hl12,cond_true,cond_false]; exact S))
   | false =>
    simp only [hl12,cond_true,cond_false] at hT
    replace S:=hT
    refine wd (xf xe hv7 hv9 (S.rd 1) (zD hi30).1 (zD hi30).2) ?_
    exact zd (ob4 trivial rfl (by simp only [zG (L:=L) (i:=10) (j:=12) rfl,hl12,cond_true,cond_false]; exact S))
  ·rintro L g v hL hcl hclo hT hv10
   cases hl12:L 12 with
   | true =>
    simp only [hl12,cond_true,cond_false] at hT
    replace S:=hT
    refine wd (zq yV hv10 ((S.rd 1).at (yB Nd.z (zD hi30))) (Nd.len _)) ?_
    exact zd (ob4 trivial rfl (by simp only [zG (L:=L) (i:=11) (j:=12) rfl,hl12,cond_true,cond_false]; exact S))
   | false =>
    simp only [hl12,cond_true,cond_false] at hT
    replace S:=hT
    refine wd (zq yV hv10 ((S.rd 1).at (yB Nd.z (zD hi30))) (Nd.len _)) ?_
    exact zd (ob4 trivial rfl (by simp only [zG (L:=L) (i:=11) (j:=12) rfl,hl12,cond_true,cond_false]; exact S))
  ·rintro L g v hL hcl hclo hT hv3
   have hl12:L 12=false:=hL
   simp only [hl12,cond_true,cond_false] at hT
   replace S:=hT
   refine zU zT rfl hv3 (S.blk 1) (Term.len _) (by rw [Term.len]; decide) (Term.one _) (xg (Term.len _)) fun w35 B hw35 zw35=>?_
   replace S:=S.store 1 B hw35
   clear B
   exact zd (ob40 trivial (fun _=>trivial) (by simp only [xM (L:=L) (i:=12),cond_true,cond_false]; exact S))
  rintro L g w36 hLm hT hv37_0 hv37_1 hv37_2 hv37_3 hv37_4 hv37_5 hv37_6 hv37_7 hv37_8 hv37_9 hv37_10 hv37_11 _
  have hLt : ∀ j,j < 13→L j=true:=fun j hj=>by rw [hLm]; exact decide_eq_true hj
  simp only [hLt 12 zaI,cond_true] at hT
  replace S:=hT
  replace S:=S
  refine zU yV rfl hv37_11 (S.blk 1) (Nd.len _) (by rw [Nd.len]; decide) (Nd.one _) (xg (Nd.len _)) fun w38 B hw38 zw38=>?_
  replace S:=S.store 1 B hw38
  clear B
  refine wd (zh rfl) (wd (zh rfl) ?_)
  replace S:=S.zs [2,3,4,5]
  refine zd (zt ?_)
  refine ⟨_,(kk (x8 zT rfl ((S.blk 1).all _ (Term.len _)) (Term.len _)) (x8 yV rfl ((S.blk 0).all _ (Nd.len _)) (Nd.len _)) (zg rfl) (zg rfl)),?_⟩
  replace S:=S.arr [] [3]
  obtain rfl:=zaM H
  exact ⟨s29,rfl,S⟩
 replace H:=if_f hc17 H
 refine zw (zb (za (wd (Does.to (v' := .agg (Term.C tmZ).toArray) (xh (vs:=[]) yC rfl Bld.nil) rfl) (wd (vr bu_Nd Bld.nil) ?_))))
 refine zU zT rfl rfl (S.blk 1) (Term.len _) (by rw [Term.len]; decide) (Term.one _) (xg (Term.len _)) fun w39 B hw39 zw39=>?_
 replace S:=S.store 1 B hw39
 clear B
 refine zU yV rfl rfl (S.blk 1) (Nd.len _) (by rw [Nd.len]; decide) (Nd.one _) (xg (Nd.len _)) fun w40 B hw40 zw40=>?_
 replace S:=S.store 1 B hw40
 clear B
 refine wd (zh rfl) (wd (zh rfl) (zd (zt ?_)))
 replace S:=S.nilTm
 refine ⟨_,(kk (x8 zT rfl ((S.blk 1).all _ (Term.len _)) (Term.len _)) (x8 yV rfl ((S.blk 0).all _ (Nd.len _)) (Nd.len _)) (zg rfl) (zg rfl)),?_⟩
 replace S:=S.arr [] [0]
 obtain rfl:=zaM H
 exact ⟨SlV.nil,rfl,S⟩
theorem kK {a0:Int} {a1:Bool} {a2:Bool} (S:St A N w w [] []) {r:Int} (H:zcA.f a0 a1 a2=some r) :
  Calls PP F_ref14_row #[.int .i64 a0,.bool a1,.bool a2] w <| Rt fun v w'=>(v = .int .i64 r∧St A N w w' [] []):=by
 unfold zcA.f at H
 refine zz (n:=13) Tryz.func55 rfl rfl zaK (zb (za (wd (zi rfl) (zd (zb (zb (za (wd (zA rfl) ?_))))))))
 refine wd (xj rfl) (zd ?_)
 refine zI rfl (fun hc1=>?_) (fun hc1=>?_)
 ·replace H:=if_t hc1 H
  refine zb (za (wd (zi rfl) (zd (zt ?_))))
  refine ⟨_,(zO (zg rfl)),?_⟩
  obtain rfl:=zaM H
  exact ⟨rfl,S⟩
 replace H:=if_f hc1 H
 refine zw (zb (zb (za (wd (zA rfl) (zd ?_)))))
 refine zI rfl (fun hc2=>?_) (fun hc2=>?_)
 ·replace H:=if_t hc2 H
  refine zb (za (wd (zj rfl) (wd (yW rfl rfl) (wd (zi rfl) (zd (zt ?_))))))
  refine ⟨_,(zO (zg rfl)),?_⟩
  obtain rfl:=zaM H
  exact ⟨rfl,S⟩
 replace H:=if_f hc2 H
 refine zw (zb (za (wd (zj rfl) (wd (zi rfl) (zd (zt ?_))))))
 refine ⟨_,(zO (zg rfl)),?_⟩
 obtain rfl:=zaM H
 exact ⟨rfl,S⟩
theorem ref14_Row_st {a0:Tb} {a_0:Option Addr} {a1:PTerm} {s_1:SlV} (S:St A N w w [] [oR a_0 a0,ze s_1 a1.sub]) {r:Int} (H:zcB.f a0 a1=some r) :
  Calls PP F_ref14_Row #[.pointer a_0,.agg (tmC a1 s_1).toArray] w <| Rt fun v w'=>(v = .int .i64 r∧St A N w w' [] []):=by
 unfold zcB.f at H
 refine zz (n:=109) Tryz.func26 rfl rfl zaK (zb (za ?_))
 refine zJ rfl zaI fun b2 w1 hw1=>?_
 replace S:=S.new hw1
 refine wd (zi rfl) (zd (zb (zb (za (wd (zf zZ rfl (o':=0) rfl) (wd (zm zR rfl ((S.blk 0).cell (Term.get_kind _))) (zd ?_)))))))
 refine zM (zb (za (wd (zS rfl rfl) (wd (zh rfl) (zd ?_)))))
 refine zI rfl (fun hc3=>?_) (fun hc3=>?_)
 ·replace H:=if_t hc3 H
  refine zb (za (wd (zC rfl) (wd (zf zE rfl (o':=4) rfl) (wd (zm zu rfl ((S.blk 0).cell (Term.get_sub _))) ?_))))
  obtain ⟨hi4,H⟩ := zV H
  refine wd (does_indexF zr rfl rfl (S.onZ 1) (zD hi4).1 (zD hi4).2) ?_
  obtain ⟨s5,hc6,S⟩ := S.viewTerm 1 (zD hi4)
  replace S:=S
  refine wd (ldC rfl hc6) ?_
  obtain ⟨r7,er7,H⟩ := zp H
  obtain ⟨_,_,T,bk⟩ := S.sub [1,0] [] [oB b2 zk (tmC a1 s_1)]
  refine zB (zy uU) zaI (uV (a1:=(kd a1 0)) T er7) ?_
  rintro _ w8 ⟨s10,rfl,S2⟩
  replace S:=bk _ _ _ _ _ S2 rfl rfl
  refine wd (xb rfl) (wd (zo rfl rfl) (wd (zo rfl rfl) (wd (zo rfl rfl) (wd (zo rfl rfl) ?_))))
  refine zP xm zaI fun b12 w11 hw11=>?_
  replace S:=S.new hw11
  refine zP ze_Nd zaI fun b14 w13 hw13=>?_
  replace S:=S.new hw13
  refine wsT rfl rfl (S.blk 1) fun w15 B hw15 zw15=>?_
  replace S:=S.store 1 B hw15
  refine zU yV rfl rfl (S.blk 1) (Nd.len _) (by rw [Nd.len]; decide) (Nd.one _) (xg (Nd.len _)) fun w16 B hw16 zw16=>?_
  replace S:=S.store 1 B hw16
  refine wd (zh rfl) (wd (zh rfl) (zd (zb (za (wd (zA rfl) (wd (zA rfl) ?_))))))
  obtain ⟨r17,er17,H⟩ := zp H
  obtain ⟨_,_,T,bk⟩ := S.calln 0 ((.nil))
  refine zB (zy kI) zaI (kK T er17) ?_
  rintro _ w18 ⟨rfl,S2⟩
  replace S:=bk _ _ _ _ S2 rfl
  refine wd (zi rfl) (zd (zt ?_))
  refine ⟨_,(zO (zg rfl)),?_⟩
  replace S:=S.arr [] []
  obtain rfl:=zaM H
  exact ⟨rfl,S⟩
 replace H:=if_f hc3 H
 refine zb (zb (za (wd (zS rfl rfl) (wd (zh rfl) (zd ?_)))))
 obtain ⟨o20,e20,Ho20⟩ := zp H
 replace H:=e20; clear e20
 refine xT [36,38] (fun fr W=>fr 36 = .bool o20∧St A N w W [oB b2 zk (tmC a1 s_1)] [oR a_0 a0,ze s_1 a1.sub]) ?_ ?_
 ·refine zI rfl (fun hc21=>?_) (fun hc21=>?_)
  ·replace H:=if_t hc21 H
   refine zw ?_
   obtain rfl:=zaM H
   exact ⟨rfl,df,rfl,S⟩
  ·replace H:=if_f hc21 H
   refine za (wd (zS rfl rfl) (wd (zh rfl) (zd ?_)))
   obtain rfl:=zaM H
   exact ⟨rfl,df,rfl,S⟩
 rintro g22 u23 ⟨p20_36,S⟩
 have H:=Ho20
 refine zI p20_36 (fun hc24=>?_) (fun hc24=>?_)
 ·replace H:=if_t hc24 H
  refine zb (za (wd (zC rfl) (wd (zf zE rfl (o':=4) rfl) (wd (zm zu rfl ((S.blk 0).cell (Term.get_sub _))) ?_))))
  obtain ⟨hi25,H⟩ := zV H
  refine wd (does_indexF zr rfl rfl (S.onZ 1) (zD hi25).1 (zD hi25).2) ?_
  obtain ⟨s26,hc27,S⟩ := S.viewTerm 1 (zD hi25)
  replace S:=S
  refine wd (ldC rfl hc27) ?_
  obtain ⟨r28,er28,H⟩ := zp H
  obtain ⟨_,_,T,bk⟩ := S.sub [1,0] [] [oB b2 zk (tmC a1 s_1)]
  refine zB (zy uU) zaI (uV (a1:=(kd a1 0)) T er28) ?_
  rintro _ w29 ⟨s31,rfl,S2⟩
  replace S:=bk _ _ _ _ _ S2 rfl rfl
  refine wd (xb rfl) (wd (zo rfl rfl) (wd (zo rfl rfl) (wd (zo rfl rfl) (wd (zo rfl rfl) ?_))))
  refine zP xm zaI fun b33 w32 hw32=>?_
  replace S:=S.new hw32
  refine zP ze_Nd zaI fun b35 w34 hw34=>?_
  replace S:=S.new hw34
  refine wsT rfl rfl (S.blk 1) fun w36 B hw36 zw36=>?_
  replace S:=S.store 1 B hw36
  refine zU yV rfl rfl (S.blk 1) (Nd.len _) (by rw [Nd.len]; decide) (Nd.one _) (xg (Nd.len _)) fun w37 B hw37 zw37=>?_
  replace S:=S.store 1 B hw37
  refine wd (zh rfl) (wd (zh rfl) (zd (zb (za (wd (zA rfl) (wd (zA rfl) ?_))))))
  obtain ⟨r38,er38,H⟩ := zp H
  obtain ⟨_,_,T,bk⟩ := S.calln 0 ((.nil))
  refine zB (zy kI) zaI (kK T er38) ?_
  rintro _ w39 ⟨rfl,S2⟩
  replace S:=bk _ _ _ _ S2 rfl
  refine wd (zi rfl) (zd (zt ?_))
  refine ⟨_,(zO (zg rfl)),?_⟩
  replace S:=S.arr [] []
  obtain rfl:=zaM H
  exact ⟨rfl,S⟩
 replace H:=if_f hc24 H
 refine zb (za (wd (zS rfl rfl) (wd (zh rfl) (zd ?_))))
 refine zI rfl (fun hc41=>?_) (fun hc41=>?_)
 ·replace H:=if_t hc41 H
  refine zb (za (wd (zC rfl) (wd (zf zE rfl (o':=4) rfl) (wd (zm zu rfl ((S.blk 0).cell (Term.get_sub _))) ?_))))
  obtain ⟨hi42,H⟩ := zV H
  refine wd (does_indexF zr rfl rfl (S.onZ 1) (zD hi42).1 (zD hi42).2) ?_
  obtain ⟨s43,hc44,S⟩ := S.viewTerm 1 (zD hi42)
  replace S:=S
  refine wd (ldC rfl hc44) ?_
  obtain ⟨r45,er45,H⟩ := zp H
  obtain ⟨_,_,T,bk⟩ := S.sub [1,0] [] [oB b2 zk (tmC a1 s_1)]
  refine zB (zy uU) zaI (uV (a1:=(kd a1 0)) T er45) ?_
  rintro _ w46 ⟨s48,rfl,S2⟩
  replace S:=bk _ _ _ _ _ S2 rfl rfl
  refine wd (xb rfl) (wd (zo rfl rfl) (wd (zo rfl rfl) (wd (zo rfl rfl) (wd (zo rfl rfl) ?_))))
  refine zP xm zaI fun b50 w49 hw49=>?_
  replace S:=S.new hw49
  refine zP ze_Nd zaI fun b52 w51 hw51=>?_
  replace S:=S.new hw51
  refine wsT rfl rfl (S.blk 1) fun w53 B hw53 zw53=>?_
  replace S:=S.store 1 B hw53
  refine zU yV rfl rfl (S.blk 1) (Nd.len _) (by rw [Nd.len]; decide) (Nd.one _) (xg (Nd.len _)) fun w54 B hw54 zw54=>?_
  replace S:=S.store 1 B hw54
  refine wd (zh rfl) (wd (zh rfl) (zd (zb (zb (za (wd (zA rfl) (wd (xj rfl) (zd ?_))))))))
  refine zI rfl (fun hc55=>?_) (fun hc55=>?_)
  ·replace H:=if_t hc55 H
   refine za (wd (zC rfl) (wd (zf zE rfl (o':=4) rfl) (wd (zm zu rfl ((S.blk 2).cell (Term.get_sub _))) ?_)))
   obtain ⟨hi56,H⟩ := zV H
   refine wd (does_indexF zr rfl rfl (S.onZ 3) (zD hi56).1 (zD hi56).2) ?_
   obtain ⟨s57,hc58,S⟩ := S.viewTerm 3 (zD hi56)
   replace S:=S
   refine wd (ldC rfl hc58) ?_
   obtain ⟨r59,er59,H⟩ := zp H
   obtain ⟨_,_,T,bk⟩ := S.sub [3,0] [] [oB b52 T_Nd (Nd.C r45.2.1),oB b50 zk (tmC r45.1 s48),oB b2 zk (tmC a1 s_1)]
   refine zB (zy uU) zaI (uV (a1:=(kd a1 0)) T er59) ?_
   rintro _ w60 ⟨s62,rfl,S2⟩
   replace S:=bk _ _ _ _ _ S2 rfl rfl
   refine wd (xb rfl) (wd (zo rfl rfl) (wd (zo rfl rfl) (wd (zo rfl rfl) (wd (zo rfl rfl) (wd (zh rfl) ?_)))))
   refine wd (zh rfl) (zd (zb (za (wd (zA rfl) (wd (zA rfl) ?_)))))
   obtain ⟨r63,er63,H⟩ := zp H
   obtain ⟨_,_,T,bk⟩ := S.calln 0 ((.nil))
   refine zB (zy kI) zaI (kK T er63) ?_
   rintro _ w64 ⟨rfl,S2⟩
   replace S:=bk _ _ _ _ S2 rfl
   refine wd (zi rfl) (zd (zt ?_))
   refine ⟨_,(zO (zg rfl)),?_⟩
   replace S:=S.arr [] []
   obtain rfl:=zaM H
   exact ⟨rfl,S⟩
  ·replace H:=if_f hc55 H
   refine zw (zb (za (wd (zA rfl) (wd (zA rfl) ?_))))
   obtain ⟨r66,er66,H⟩ := zp H
   obtain ⟨_,_,T,bk⟩ := S.calln 0 ((.nil))
   refine zB (zy kI) zaI (kK T er66) ?_
   rintro _ w67 ⟨rfl,S2⟩
   replace S:=bk _ _ _ _ S2 rfl
   refine wd (zi rfl) (zd (zt ?_))
   refine ⟨_,(zO (zg rfl)),?_⟩
   replace S:=S.arr [] []
   obtain rfl:=zaM H
   exact ⟨rfl,S⟩
 replace H:=if_f hc41 H
 refine zb (za (wd (zS rfl rfl) (wd (zh rfl) (zd ?_))))
 refine zI rfl (fun hc69=>?_) (fun hc69=>?_)
 ·replace H:=if_t hc69 H
  refine zb (za (wd (zi rfl) (zd (zt ?_))))
  refine ⟨_,(zO (zg rfl)),?_⟩
  replace S:=S.arr [] []
  obtain rfl:=zaM H
  exact ⟨rfl,S⟩
 replace H:=if_f hc69 H
 refine zb (za (wd (zS rfl rfl) (wd (zh rfl) (zd ?_))))
 refine zI rfl (fun hc70=>?_) (fun hc70=>?_)
 ·replace H:=if_t hc70 H
  refine zb (za (wd (zf zE rfl (o':=4) rfl) (wd (zm zu rfl ((S.blk 0).cell (Term.get_sub _))) ?_)))
  obtain ⟨hi71,H⟩ := zV H
  refine wd (does_indexF zr rfl rfl (S.onZ 1) (zD hi71).1 (zD hi71).2) (wd (zf zZ rfl (o':=_) rfl) (wd (zm zR rfl (yG.get_kind (S.onZ 1) (zD hi71))) (wd (zi rfl) (zd (zb (za ?_))))))
  refine wd (zj rfl) (wd (zS rfl rfl) (wd (zA rfl) ?_))
  refine wg (fun hg=>zj rfl) ?_
  refine wg (fun hg=>zS (zn hg) rfl) (wd (xy rfl (fun hp=>(zn (xr hp)))) (wd (zA rfl) ?_))
  refine wg (fun hg=>zj rfl) ?_
  refine wg (fun hg=>zS (zn hg) rfl) (wd (xy rfl (fun hp=>(zn (xr hp)))) (wd (zA rfl) ?_))
  refine wg (fun hg=>zj rfl) ?_
  refine wg (fun hg=>zS (zn hg) rfl) (wd (xy rfl (fun hp=>(zn (xr hp)))) (wd (zA rfl) ?_))
  refine wg (fun hg=>zj rfl) ?_
  refine wg (fun hg=>zS (zn hg) rfl) (wd (xy rfl (fun hp=>(zn (xr hp)))) (zd ?_))
  refine zI rfl (fun hc72=>?_) (fun hc72=>?_)
  ·replace H:=if_t hc72 H
   refine zb (za (wd (zi rfl) (zd (zt ?_))))
   refine ⟨_,(zO (zg rfl)),?_⟩
   replace S:=S.arr [] []
   obtain rfl:=zaM H
   exact ⟨rfl,S⟩
  replace H:=if_f hc72 H
  refine zw (zb (za (wd (zi rfl) (zd (zt ?_)))))
  refine ⟨_,(zO (zg rfl)),?_⟩
  replace S:=S.arr [] []
  obtain rfl:=zaM H
  exact ⟨rfl,S⟩
 ·replace H:=if_f hc70 H
  refine zw (zb (za (wd (zi rfl) (zd (zt ?_)))))
  refine ⟨_,(zO (zg rfl)),?_⟩
  replace S:=S.arr [] []
  obtain rfl:=zaM H
  exact ⟨rfl,S⟩
theorem ref14_At_st {a0:PTerm} {s_0:SlV} {a1:List Int} {s_1:SlV} (S:St A N w w [] [ze s_0 a0.sub,fS 1 IC s_1 a1]) {r:PTerm} (H:zcC.f a0 a1=some r) :
  Calls PP F_ref14_At #[.agg (tmC a0 s_0).toArray,s_1.v] w <| Rt fun v w'=>(∃ so0:SlV,v = .agg (tmC r so0).toArray∧St A N w w' [] [ze so0 r.sub]):=by
 unfold zcC.f at H
 refine zz (n:=21) Tryz.func27 rfl rfl zaK (zb (za ?_))
 refine zJ rfl zaI fun b2 w1 hw1=>?_
 replace S:=S.new hw1
 refine zP xm zaI fun b4 w3 hw3=>?_
 replace S:=S.new hw3
 refine zd (zb (zb (za (wd (zi rfl) (zd ?_)))))
 replace S:=S.nilTm
 obtain ⟨o5,e5,Ho5⟩ := zp H
 clear H
 refine xT (rg 5 15) (fun fr W => ∃ s6:SlV,St A N w W [oB b4 zk (Term.C tmZ),oB b2 zk (tmC o5 s6)] [ze SlV.nil ([]),ze s6 o5.sub,fS 1 IC s_1 a1]) ?_ ?_
 ·refine zM ?_
  refine xN (α:=Nat × Int × PTerm) (rg 5 15) (fun x fr W=>(x.1:Int)=(a1.length:Int) - x.2.1∧0 ≤ x.2.1∧forS (fun i s=>zcC.b0 a1 i s) x.1 x.2.1 x.2.2=some o5 ∧ ∃ s7:SlV,fr 5 = .int .i64 x.2.1∧St A N w W [oB b4 zk (Term.C tmZ),oB b2 zk (tmC (x.2.2) s7)] [ze SlV.nil ([]),ze s7 ((x.2.2).sub),fS 1 IC s_1 a1]) (fun x=>x.1) (((a1.length:Int) - 0).toNat,0,a0) ⟨(by dsimp only; have hle:=Int.natCast_nonneg (a1.length); omega),(Int.le_refl _),(by dsimp only; exact e5),s_0,rfl,S⟩ ?_
  rintro ⟨m5,i5,x5_0⟩ g5 u5 ⟨hm5,hl5,e5,s8,q5_i,S⟩
  try dsimp only at hm5
  try dsimp only at hl5
  try dsimp only at e5
  try dsimp only at S
  try dsimp only at q5_i
  refine zb (zb (za (wd (zj q5_i) (wd (zN rfl) (wd (xL xK rfl (S.rd 2)) (wd (xw rfl rfl) (zd ?_)))))))
  refine zI rfl (fun hc9=>?_) (fun hc9=>?_)
  rotate_left
  ·refine x4 ?_
   have hge:(a1.length:Int) ≤ i5:=Int.not_lt.1 (of_decide_eq_false hc9)
   obtain rfl:m5=0:=by omega
   replace e5:=forS_0 e5
   obtain rfl:=e5
   exact ⟨rfl,df,s8,S⟩
  refine zw ?_
  have hlt5:i5 < (a1.length:Int):=of_decide_eq_true hc9
  obtain ⟨m5,rfl⟩ : ∃ m,m5=m + 1:=⟨m5 - 1,by omega⟩
  obtain ⟨q5,H,e5⟩ := forS_s e5
  unfold zcC.b0 at H
  try dsimp only at H
  have hb5:=(S.len 2)
  refine zb ?_
  refine zM ?_
  refine xQ 6 (Ext u5) hmix zaL zaL (Ext.drawn _) (zx (fun v K=>zf zE rfl (o':=4) rfl) (zx (fun v K=>zm zu rfl (((S.ext K).blk 1).cell (Term.get_sub _))) (zx (fun v K=>zN rfl) (zx (fun v K=>zj q5_i) (zx (fun v K=>xf xK rfl rfl ((S.ext K).rd 2) (And.intro (show 0 ≤ i5 by omega) (show i5 < (a1.length:Int) from hlt5)).1 (And.intro (show 0 ≤ i5 by omega) (show i5 < (a1.length:Int) from hlt5)).2) ?_)))))
  refine zx (fun v K=>zm xD rfl (((S.ext K).rd 2).one (yB (0:Int) (And.intro (show 0 ≤ i5 by omega) (show i5 < (a1.length:Int) from hlt5))) rfl)) ?_
  refine yH fun w11 K=>?_
  replace S:=S.ext K
  clear K
  obtain ⟨hi12,H⟩ := zV H
  refine wd (does_indexF zr rfl rfl (S.onZ 1) (zD hi12).1 (zD hi12).2) ?_
  obtain ⟨s13,hc14,S⟩ := S.viewTerm 1 (zD hi12)
  replace S:=S
  refine wd (ldC rfl hc14) ?_
  refine wsT rfl rfl (S.blk 1) fun w15 B hw15 zw15=>?_
  replace S:=S.store 1 B hw15
  refine zd (za (wd (zj q5_i) (wd (xp rfl rfl (c:=i5 + 1) rfl zaJ zaJ) (wd (zi rfl) (zd ?_)))))
  replace S:=S.arr [1,0] [1,0,3]
  obtain rfl:=zaM H
  exact ⟨rfl,df,(m5,i5 + 1,(kd x5_0 (at_ (0:Int) a1 i5))),⟨(by dsimp only; omega),(by dsimp only; omega),e5,s13,rfl,S⟩,by dsimp only; omega⟩
 rintro g16 u17 ⟨s6,S⟩
 have H:=Ho5
 refine zb (za (wd (ldT rfl (S.blk 1)) ?_))
 refine wsT rfl rfl (S.blk 0) fun w18 B hw18 zw18=>?_
 replace S:=S.store 0 B hw18
 refine zd (zt ?_)
 refine ⟨_,(zO (rtT rfl (S.blk 0))),?_⟩
 replace S:=S.arr [] [1]
 obtain rfl:=zaM H
 exact ⟨s6,rfl,S⟩
end
section
open Go.RowKit
namespace Gw
section
variable {P:Program} {f:Fr} {w:World} {ty:TypeId} {pos:String} {af:Array Edge} {rd:Option Nat} {n:Nat} {dm:List Nat} {ops:Array Oper} {Q:Post} {rest:List Oper}
theorem wl_box_m {dd:Tmp} {x:Operand} {t:TypeId} {v:_} (hx:evF f x = .map v) (hd:dd < n)
  (h : ∀ b w',New w w' b t [.map v]→wl P rd n dm ops rest Q (upd f dd (.pointer (some ⟨b,0,none⟩))) w'):wl P rd n dm ops (⟨some dd,.box t x,ty,pos,af,none⟩ :: rest) Q f w :=
 wl_box hx rfl hd h
end
end Gw
end
section
open Gw Go.RowKit
set_option maxHeartbeats 4000000
set_option maxRecDepth 20000
theorem zaG {zdg:PTerm→PTerm→(List (ByteArray × Int))→(List (ByteArray × Int))→Int→Option ((List (ByteArray × Int)) × (List (ByteArray × Int)) × Bool)} (zcR : ∀ {A:Nat→Prop} {N:Oth} {w:World} {a0:PTerm} {s_0:SlV} {a1:PTerm} {s_1:SlV} {a2:List (ByteArray × Int)} {m_2:Nat} {a3:List (ByteArray × Int)} {m_3:Nat} {a4:Int} (S:St A N w w [oMS m_2 a2,oMS m_3 a3] [ze s_0 a0.sub,ze s_1 a1.sub]) {r:(List (ByteArray × Int)) × (List (ByteArray × Int)) × Bool} (H:zdg a0 a1 a2 a3 a4=some r),Calls PP vV #[.agg (tmC a0 s_0).toArray,.agg (tmC a1 s_1).toArray,.map (some m_2),.map (some m_3),.int .i64 a4] w <| Rt fun v w'=>(v = .bool r.2.2∧St A N w w' [oMS m_2 r.1,oMS m_3 r.2.1] [])) {A:Nat→Prop} {N:Oth} {w:World} {a0:PTerm} {b_0:Nat} {s_0_1:SlV} {a1:Int} {b_1:Nat} {a2:PTerm} {b_2:Nat} {s_2_1:SlV} {a3:List (ByteArray × Int)} {b_3:Nat} {m_3_1:Nat} {a4:List (ByteArray × Int)} {b_4:Nat} {m_4_1:Nat} {a5:Int} {b_5:Nat} (S:St A N w w [oMS m_3_1 a3,oMS m_4_1 a4] [oB b_0 zk (tmC a0 s_0_1),ze s_0_1 a0.sub,oB b_1 xF [.int .i64 a1],oB b_2 zk (tmC a2 s_2_1),ze s_2_1 a2.sub,oB b_3 yT [.map (some m_3_1)],oB b_4 yT [.map (some m_4_1)],oB b_5 xF [.int .i64 a5]]) {r:(List (ByteArray × Int)) × (List (ByteArray × Int)) × Bool} (H:zcD.g zdg a0 a1 a2 a3 a4 a5=some r) :
  Calls PP kU #[.pointer (some ⟨b_0,0,none⟩),.pointer (some ⟨b_1,0,none⟩),.pointer (some ⟨b_2,0,none⟩),.pointer (some ⟨b_3,0,none⟩),.pointer (some ⟨b_4,0,none⟩),.pointer (some ⟨b_5,0,none⟩)] w <| Rt fun v w'=>(v = .bool r.2.2∧St A N w w' [oMS m_3_1 r.1,oMS m_4_1 r.2.1] []):=by
 unfold zcD.g at H
 refine zz (n:=22) Tryz.func85 rfl rfl zaK (zb (za (wd (zh rfl) (zd (zb ?_)))))
 refine xQ 14 (Ext w) hmix zaL zaL (Ext.drawn _) (zx (fun v K=>zf zE rfl (o':=4) rfl) (zx (fun v K=>zm zu rfl (((S.ext K).blkZ 0).cell (Term.get_sub _))) (zx (fun v K=>zm xD rfl (((S.ext K).blkZ 2).cell rfl)) ?_)))
 obtain ⟨hi1,H⟩ := zV H
 refine zx (fun v K=>does_indexF zr rfl rfl ((S.ext K).onZ 1) (zD hi1).1 (zD hi1).2) ?_
 obtain ⟨s2,hc3,S⟩ := S.viewTerm 1 (zD hi1)
 replace S:=S
 refine zx (fun v K=>zq zT rfl (hc3.chg K (fun x=>x)) (Term.len _)) (zx (fun v K=>zf zE rfl (o':=4) rfl) (zx (fun v K=>zm zu rfl (((S.ext K).blkZ 4).cell (Term.get_sub _))) (zx (fun v K=>zm xD rfl (((S.ext K).blkZ 3).cell rfl)) ?_)))
 obtain ⟨hi4,H⟩ := zV H
 refine zx (fun v K=>does_indexF zr rfl rfl ((S.ext K).onZ 5) (zD hi4).1 (zD hi4).2) ?_
 obtain ⟨s5,hc6,S⟩ := S.viewTerm 5 (zD hi4)
 replace S:=S
 refine zx (fun v K=>zq zT rfl (hc6.chg K (fun x=>x)) (Term.len _)) (zx (fun v K=>zm y9 rfl (((S.ext K).blkZ 7).cell rfl)) (zx (fun v K=>zm y9 rfl (((S.ext K).blkZ 8).cell rfl)) (zx (fun v K=>zm xD rfl (((S.ext K).blkZ 9).cell rfl)) (zx (fun v K=>yW rfl rfl) ?_))))
 refine yH fun w7 K=>?_
 replace S:=S.ext K
 clear K
 obtain ⟨r8,er8,H⟩ := zp H
 replace S:=(S.front 1).front 1
 obtain ⟨_,_,T,bk⟩ := S.calln 2 ((.z 1 rfl (.z 0 rfl .nil)))
 refine zB (zy ca_term_alike) zaI (zcR (a0:=(kd a0 a1)) (a1:=(kd a2 a1)) T er8) ?_
 rintro _ w9 ⟨rfl,S2⟩
 replace S:=bk _ _ _ _ S2 rfl
 refine wd (zh rfl) (zd (zt ?_))
 refine ⟨_,(zO (zg rfl)),?_⟩
 replace S:=S.arr [0,1] []
 obtain rfl:=zaM H
 exact ⟨rfl,S⟩
theorem kD {zdg:PTerm→PTerm→(List (ByteArray × Int))→(List (ByteArray × Int))→Int→Option ((List (ByteArray × Int)) × (List (ByteArray × Int)) × Bool)} (zcR : ∀ {A:Nat→Prop} {N:Oth} {w:World} {a0:PTerm} {s_0:SlV} {a1:PTerm} {s_1:SlV} {a2:List (ByteArray × Int)} {m_2:Nat} {a3:List (ByteArray × Int)} {m_3:Nat} {a4:Int} (S:St A N w w [oMS m_2 a2,oMS m_3 a3] [ze s_0 a0.sub,ze s_1 a1.sub]) {r:(List (ByteArray × Int)) × (List (ByteArray × Int)) × Bool} (H:zdg a0 a1 a2 a3 a4=some r),Calls PP vV #[.agg (tmC a0 s_0).toArray,.agg (tmC a1 s_1).toArray,.map (some m_2),.map (some m_3),.int .i64 a4] w <| Rt fun v w'=>(v = .bool r.2.2∧St A N w w' [oMS m_2 r.1,oMS m_3 r.2.1] [])) {A:Nat→Prop} {N:Oth} {w:World} {a0:ByteArray} {a1:ByteArray} {a2:List (ByteArray × Int)} {m_2:Nat} {a3:List (ByteArray × Int)} {m_3:Nat} {a4:Int} {a5_0:PTerm} {a5_1:Int} {a5_2:PTerm} {a5_3:List (ByteArray × Int)} {a5_4:List (ByteArray × Int)} {a5_5:Int} {b_5:Nat} {s_5_1:SlV} {b_5_2:Nat} {b_5_3:Nat} {s_5_4:SlV} {b_5_5:Nat} {b_5_6:Nat} {b_5_7:Nat} (S:St A N w w [oMS m_2 a2,oMS m_3 a3] [oB b_5 zk (tmC a5_0 s_5_1),ze s_5_1 a5_0.sub,oB b_5_2 xF [.int .i64 a5_1],oB b_5_3 zk (tmC a5_2 s_5_4),ze s_5_4 a5_2.sub,oB b_5_5 yT [.map (some m_2)],oB b_5_6 yT [.map (some m_3)],oB b_5_7 xF [.int .i64 a5_5]]) {r:(List (ByteArray × Int)) × (List (ByteArray × Int)) × Bool} (H:zcE.g zdg a0 a1 a2 a3 a4 a5_0 a5_1 a5_2 a5_3 a5_4 a5_5=some r) :
  Calls PP F_term_under #[.string a0,.string a1,.map (some m_2),.map (some m_3),.int .i64 a4,.func (.func kU) #[] #[.pointer (some ⟨b_5,0,none⟩),.pointer (some ⟨b_5_2,0,none⟩),.pointer (some ⟨b_5_3,0,none⟩),.pointer (some ⟨b_5_5,0,none⟩),.pointer (some ⟨b_5_6,0,none⟩),.pointer (some ⟨b_5_7,0,none⟩)]] w <| Rt fun v w'=>(v = .bool r.2.2∧St A N w w' [oMS m_2 r.1,oMS m_3 r.2.1] []):=by
 unfold zcE.g at H
 refine zz (n:=41) Tryz.func83 rfl rfl zaK (zb (za (wd (zh rfl) (zd (zb (zb (za (wd (zX rfl) ?_))))))))
 refine wd (yE rfl rfl) (zd ?_)
 refine zI rfl (fun hc1=>?_) (fun hc1=>?_)
 ·replace H:=if_t hc1 H
  refine zb (za (wd (ud rfl) ?_))
  obtain ⟨r2,er2,H⟩ := zp H
  replace S:=(S.front 1).front 1
  obtain ⟨_,_,T,bk⟩ := S.calln 2 ((.z 0 rfl (.z 1 rfl (.z 2 rfl (.z 3 rfl (.z 4 rfl (.z 5 rfl (.z 6 rfl (.z 7 rfl .nil)))))))))
  refine zB (yu ca_term_alike_1 rfl) zaI (zaG zcR T er2) ?_
  rintro _ w3 ⟨rfl,S2⟩
  replace S:=bk _ _ _ _ S2 rfl
  refine wd (zh rfl) (zd (zt ?_))
  refine ⟨_,(zO (zg rfl)),?_⟩
  replace S:=S.arr [0,1] []
  obtain rfl:=zaM H
  exact ⟨rfl,S⟩
 replace H:=if_f hc1 H
 refine zw (zb ?_)
 refine xQ 7 (Ext w) hmix zaL zaL (Ext.drawn _) (zx (fun v K=>xX rfl) (zx (fun v K=>zX rfl) (zx (fun v K=>yh (C:=Value.string) (D:=(Value.int .i64)) (key:=a0) (zv:=0) xk xO jH rfl rfl ((S.ext K).map 0)) (zx (fun v K=>xX rfl) (zx (fun v K=>zX rfl) ?_)))))
 refine zx (fun v K=>yh (C:=Value.string) (D:=(Value.int .i64)) (key:=a1) (zv:=0) xk xO jH rfl rfl ((S.ext K).map 1)) (zx (fun v K=>zi rfl) ?_)
 refine yH fun w5 K=>?_
 replace S:=S.ext K
 clear K
 refine wd (zi rfl) (zd (zb (za (wd (xX rfl) (wd (zX rfl) (wd (xX rfl) ?_))))))
 refine wd (zX rfl) (wd (zj rfl) (wd (zj rfl) ?_))
 refine vi (C:=Value.string) (D:=(Value.int .i64)) (key:=a0) (v:=a4) xk xO rfl rfl rfl (S.map 0) fun w6 hmw6 hcw6 hsw6=>?_
 replace S:=S.mapSet 0 ⟨hmw6,hcw6,hsw6⟩
 refine vi (C:=Value.string) (D:=(Value.int .i64)) (key:=a1) (v:=a4) xk xO rfl rfl rfl (S.map 1) fun w7 hmw7 hcw7 hsw7=>?_
 replace S:=S.mapSet 1 ⟨hmw7,hcw7,hsw7⟩
 refine zd (zb (za (wd (ud rfl) ?_)))
 obtain ⟨r8,er8,H⟩ := zp H
 replace S:=S.front 1
 obtain ⟨_,_,T,bk⟩ := S.calln 2 ((.z 0 rfl (.z 1 rfl (.z 2 rfl (.z 3 rfl (.z 4 rfl (.z 5 rfl (.z 6 rfl (.z 7 rfl .nil)))))))))
 refine zB (yu ca_term_alike_1 rfl) zaI (zaG zcR T er8) ?_
 rintro _ w9 ⟨rfl,S2⟩
 replace S:=bk _ _ _ _ S2 rfl
 refine wd (zh rfl) (zd (zb (za (wd (xX rfl) (wd (zX rfl) (wd (xX rfl) ?_))))))
 refine wd (zX rfl) (wd (zj rfl) (wd (zj rfl) ?_))
 refine vi (C:=Value.string) (D:=(Value.int .i64)) (key:=a0) (v:=(Gw.look a0 a2).getD 0) xk xO rfl rfl rfl (S.map 0) fun w11 hmw11 hcw11 hsw11=>?_
 replace S:=S.mapSet 0 ⟨hmw11,hcw11,hsw11⟩
 refine vi (C:=Value.string) (D:=(Value.int .i64)) (key:=a1) (v:=(Gw.look a1 a3).getD 0) xk xO rfl rfl rfl (S.map 1) fun w12 hmw12 hcw12 hsw12=>?_
 replace S:=S.mapSet 1 ⟨hmw12,hcw12,hsw12⟩
 refine zd (zb (za (wd (zA rfl) (wd (zh rfl) (zd (zt ?_))))))
 refine ⟨_,(zO (zg rfl)),?_⟩
 replace S:=S.arr [1,0] []
 obtain rfl:=zaM H
 exact ⟨rfl,S⟩
theorem term_alike_gst {zdg:PTerm→PTerm→(List (ByteArray × Int))→(List (ByteArray × Int))→Int→Option ((List (ByteArray × Int)) × (List (ByteArray × Int)) × Bool)} (zcR : ∀ {A:Nat→Prop} {N:Oth} {w:World} {a0:PTerm} {s_0:SlV} {a1:PTerm} {s_1:SlV} {a2:List (ByteArray × Int)} {m_2:Nat} {a3:List (ByteArray × Int)} {m_3:Nat} {a4:Int} (S:St A N w w [oMS m_2 a2,oMS m_3 a3] [ze s_0 a0.sub,ze s_1 a1.sub]) {r:(List (ByteArray × Int)) × (List (ByteArray × Int)) × Bool} (H:zdg a0 a1 a2 a3 a4=some r),Calls PP vV #[.agg (tmC a0 s_0).toArray,.agg (tmC a1 s_1).toArray,.map (some m_2),.map (some m_3),.int .i64 a4] w <| Rt fun v w'=>(v = .bool r.2.2∧St A N w w' [oMS m_2 r.1,oMS m_3 r.2.1] [])) {A:Nat→Prop} {N:Oth} {w:World} {a0:PTerm} {s_0:SlV} {a1:PTerm} {s_1:SlV} {a2:List (ByteArray × Int)} {m_2:Nat} {a3:List (ByteArray × Int)} {m_3:Nat} {a4:Int} (S:St A N w w [oMS m_2 a2,oMS m_3 a3] [ze s_0 a0.sub,ze s_1 a1.sub]) {r:(List (ByteArray × Int)) × (List (ByteArray × Int)) × Bool} (H:zcF.g zdg a0 a1 a2 a3 a4=some r) :
  Calls PP vV #[.agg (tmC a0 s_0).toArray,.agg (tmC a1 s_1).toArray,.map (some m_2),.map (some m_3),.int .i64 a4] w <| Rt fun v w'=>(v = .bool r.2.2∧St A N w w' [oMS m_2 r.1,oMS m_3 r.2.1] []):=by
 unfold zcF.g at H
 refine zz (n:=69) Tryz.func56 rfl rfl zaK (zb (za ?_))
 refine zJ rfl zaI fun b2 w1 hw1=>?_
 replace S:=S.new hw1
 refine zJ rfl zaI fun b4 w3 hw3=>?_
 replace S:=S.new hw3
 refine wl_box_m rfl zaI fun b6 w5 hw5=>?_
 replace S:=S.new hw5
 refine wl_box_m rfl zaI fun b8 w7 hw7=>?_
 replace S:=S.new hw7
 refine wl_box_i rfl zaI fun b10 w9 hw9=>?_
 replace S:=S.new hw9
 refine wd (zh rfl) (zd (zb (zb (za (wd (zf zZ rfl (o':=0) rfl) (wd (zm zR rfl ((S.blk 4).cell (Term.get_kind _))) (wd (zf zZ rfl (o':=0) rfl) ?_)))))))
 refine wd (zm zR rfl ((S.blk 3).cell (Term.get_kind _))) (wd (xt rfl rfl) (wd (zA rfl) ?_))
 refine wg (fun hg=>zf yi rfl (o':=3) rfl) ?_
 refine wg (fun hg=>zm xD (zn hg) ((S.blk 4).cell (Term.get_form _))) ?_
 refine wg (fun hg=>zf yi rfl (o':=3) rfl) ?_
 refine wg (fun hg=>zm xD (zn hg) ((S.blk 3).cell (Term.get_form _))) ?_
 refine wg (fun hg=>xt (zn hg) (zn hg)) (wd (xy rfl (fun hp=>(zn (xr hp)))) (zd ?_))
 refine zI rfl (fun hc11=>?_) (fun hc11=>?_)
 ·replace H:=if_t hc11 H
  refine zb (za (wd (zh rfl) (zd (zt ?_))))
  refine ⟨_,(zO (zg rfl)),?_⟩
  replace S:=S.arr [5,6] []
  obtain rfl:=zaM H
  exact ⟨rfl,S⟩
 replace H:=if_f hc11 H
 refine zw (zb (zb (za (wd (zf zZ rfl (o':=0) rfl) (wd (zm zR rfl ((S.blk 4).cell (Term.get_kind _))) (wd (zS rfl rfl) (zd ?_)))))))
 refine zI rfl (fun hc12=>?_) (fun hc12=>?_)
 ·replace H:=if_t hc12 H
  refine zb (za (wd (zm y9 rfl ((S.blk 2).cell rfl)) (wd (zf xI rfl (o':=1) rfl) (wd (zm xu rfl ((S.blk 4).cell (Term.get_name _))) (wd (yh (C:=Value.string) (D:=(Value.int .i64)) (key:=a0.name) (zv:=0) xk xO jH rfl rfl (S.map 5)) (wd (zm y9 rfl ((S.blk 1).cell rfl)) ?_))))))
  refine wd (zf xI rfl (o':=1) rfl) (wd (zm xu rfl ((S.blk 3).cell (Term.get_name _))) (wd (yh (C:=Value.string) (D:=(Value.int .i64)) (key:=a1.name) (zv:=0) xk xO jH rfl rfl (S.map 6)) (wd (zS rfl rfl) (wd (zA rfl) ?_))))
  refine wg (fun hg=>zm y9 rfl ((S.blk 2).cell rfl)) ?_
  refine wg (fun hg=>zf xI rfl (o':=1) rfl) ?_
  refine wg (fun hg=>zm xu (zn hg) ((S.blk 4).cell (Term.get_name _))) ?_
  refine wg (fun hg=>yh (C:=Value.string) (D:=(Value.int .i64)) (key:=a0.name) (zv:=0) xk xO jH (zn hg) (zn hg) (S.map 5)) ?_
  refine wg (fun hg=>j2 (zn hg) rfl) ?_
  refine wg (fun hg=>zA (zn hg)) (xq (j:=15) (pol:=false) rfl rfl rfl zaI (fun hg=>zf xI rfl (o':=1) rfl) zaI (xq (j:=15) (pol:=false) rfl rfl rfl zaI (fun hg=>zm xu (zn hg) ((S.blk 4).cell (Term.get_name _))) zaI (xq (j:=15) (pol:=false) rfl rfl rfl zaI (fun hg=>zf xI rfl (o':=1) rfl) zaI (xq (j:=15) (pol:=false) rfl rfl rfl zaI (fun hg=>zm xu (zn hg) ((S.blk 3).cell (Term.get_name _))) zaI (xq (j:=15) (pol:=false) rfl rfl rfl zaI (fun hg=>yE (zn hg) (zn hg)) zaI ?_)))))
  refine wg (fun hg=>xy (zn hg) (fun hp=>(zn (and_b hg hp)))) (wd (z7 rfl (fun hp=>(zn (xr hp)))) (wd (zh rfl) (zd (zt ?_))))
  refine ⟨_,(zO (zg rfl)),?_⟩
  replace S:=S.arr [5,6] []
  obtain rfl:=zaM H
  exact ⟨rfl,S⟩
 replace H:=if_f hc12 H
 refine zw (zb (zb (za (wd (zf zE rfl (o':=4) rfl) (wd (zm zu rfl ((S.blk 4).cell (Term.get_sub _))) (wd (does_lenF zr rfl (S.onZ 0)) (wd (zj rfl) (zd ?_))))))))
 obtain ⟨o13,e13,Ho13⟩ := zp H
 clear H
 refine xT ([10,11] ++ rg 53 16) (fun fr W => ∃ s13:(List (ByteArray × Int)) × (List (ByteArray × Int)),o13 = .inl s13∧St A N w W [oB b10 xF [.int .i64 a4],oB b8 yT [.map (some m_3)],oB b6 yT [.map (some m_2)],oB b4 zk (tmC a1 s_1),oB b2 zk (tmC a0 s_0),oMS m_2 s13.1,oMS m_3 s13.2] [ze s_0 a0.sub,ze s_1 a1.sub]) ?_ ?_
 ·refine zM ?_
  refine xN (α:=Nat × Int × ((List (ByteArray × Int)) × (List (ByteArray × Int)))) ([10,11] ++ rg 53 16) (fun x fr W=>(x.1:Int)=(a0.sub.length:Int) - x.2.1∧0 ≤ x.2.1∧forN (fun i s=>zcF.b0 a0 a1 zdg a4 i s.1 s.2) x.1 x.2.1 x.2.2=some o13∧fr 53 = .int .i64 x.2.1∧St A N w W [oB b10 xF [.int .i64 a4],oB b8 yT [.map (some m_3)],oB b6 yT [.map (some m_2)],oB b4 zk (tmC a1 s_1),oB b2 zk (tmC a0 s_0),oMS m_2 (x.2.2.1),oMS m_3 (x.2.2.2)] [ze s_0 a0.sub,ze s_1 a1.sub]) (fun x=>x.1) (((a0.sub.length:Int) - 0).toNat,0,(a2,a3)) ⟨(by dsimp only; have hle:=Int.natCast_nonneg (a0.sub.length); omega),(Int.le_refl _),(by dsimp only; exact e13),rfl,S⟩ ?_
  rintro ⟨m13,i13,⟨x13_0,x13_1⟩⟩ g13 u13 ⟨hm13,hl13,e13,q13_i,S⟩
  try dsimp only at hm13
  try dsimp only at hl13
  try dsimp only at e13
  try dsimp only at S
  try dsimp only at q13_i
  refine zb (za (wd (xw q13_i rfl) (zd (zb ?_))))
  refine zI rfl (fun hc14=>?_) (fun hc14=>?_)
  rotate_left
  ·refine x4 ?_
   have hge:(a0.sub.length:Int) ≤ i13:=Int.not_lt.1 (of_decide_eq_false hc14)
   obtain rfl:m13=0:=by omega
   replace e13:=zap e13
   exact ⟨rfl,df,(x13_0,x13_1),e13,S⟩
  refine zw ?_
  have hlt13:i13 < (a0.sub.length:Int):=of_decide_eq_true hc14
  obtain ⟨m13,rfl⟩ : ∃ m,m13=m + 1:=⟨m13 - 1,by omega⟩
  obtain ⟨q13,H,e13⟩ := zaq e13
  unfold zcF.b0 at H
  try dsimp only at H
  have hb13:=(S.lenFZ 0)
  refine zb ?_
  refine zM (zb (za (wd (zj q13_i) ?_)))
  refine zP ze_int zaI fun b16 w15 hw15=>?_
  replace S:=S.new hw15
  refine yL xD rfl rfl (S.blk 0) zaK rfl rfl fun w17 B hw17 zw17=>?_
  replace S:=S.store 0 B hw17
  refine zd (zb ?_)
  refine xQ 10 (Ext w17) hmix zaL zaL (Ext.drawn _) (zx (fun v K=>zq zT rfl (((S.ext K).blk 5).all _ (Term.len _)) (Term.len _)) (zx (fun v K=>zm xD rfl (((S.ext K).blk 0).cell rfl)) ?_))
  obtain ⟨r18,er18,H⟩ := zp H
  refine wq_call (fun v=>zy uP) (fun v K=>(have ⟨M,SS⟩ := (S.ext K).lend ((.z 0 rfl .nil)); quiet (uR (a0:=a0) SS er18) (fun v w' h=>⟨h.1,_,_,h.2⟩))) (fun v v' K h=>K.thenExt h) (zx (fun v K=>zq zT rfl (((S.ext K).blk 4).all _ (Term.len _)) (Term.len _)) (zx (fun v K=>zm xD rfl (((S.ext K).blk 0).cell rfl)) ?_))
  obtain ⟨r19,er19,H⟩ := zp H
  refine wq_call (fun v=>zy uP) (fun v K=>(have ⟨M,SS⟩ := (S.ext K).lend ((.z 1 rfl .nil)); quiet (uR (a0:=a1) SS er19) (fun v w' h=>⟨h.1,_,_,h.2⟩))) (fun v v' K h=>K.thenExt h) (zx (fun v K=>zm y9 rfl (((S.ext K).blk 3).cell rfl)) (zx (fun v K=>zm y9 rfl (((S.ext K).blk 2).cell rfl)) (zx (fun v K=>zm xD rfl (((S.ext K).blk 1).cell rfl)) (zx (fun v K=>k0) ?_))))
  refine yH fun w20 K=>?_
  replace S:=S.ext K
  clear K
  obtain ⟨r21,er21,H⟩ := zp H
  replace S:=(S.front 7).front 7
  obtain ⟨_,_,T,bk⟩ := S.calln 2 ((.o 5 rfl (.z 0 rfl (.o 0 rfl (.o 4 rfl (.z 1 rfl (.o 3 rfl (.o 2 rfl (.o 1 rfl .nil)))))))))
  refine zB (zy ca_term_under) zaI (kD zcR T er21) ?_
  rintro _ w22 ⟨rfl,S2⟩
  replace S:=bk _ _ _ _ S2 rfl
  refine wd (xj rfl) (zd ?_)
  refine zI rfl (fun hc24=>?_) (fun hc24=>?_)
  ·replace H:=if_t hc24 H
   refine zb (za (wd (zh rfl) (zd (zt ?_))))
   refine ⟨_,(zO (zg rfl)),?_⟩
   replace S:=S.arr [0,1] []
   obtain rfl:=zaM H
   obtain rfl:=e13
   obtain rfl:=v7 Ho13
   exact ⟨rfl,S⟩
  replace H:=if_f hc24 H
  refine zw (za (wd (xp q13_i rfl (c:=i13 + 1) rfl zaJ zaJ) (wd (zj rfl) (zd ?_))))
  replace S:=S.arr [3,4,5,6,7,0,1] [0,1]
  obtain rfl:=zaM H
  exact ⟨rfl,df,(m13,i13 + 1,(r21.1,r21.2.1)),⟨(by dsimp only; omega),(by dsimp only; omega),e13,rfl,S⟩,by dsimp only; omega⟩
 rintro g25 u26 ⟨s13,rfl,S⟩
 have H:=Ho13
 dsimp only [aft] at H
 refine zb (za (wd (zh rfl) (zd (zt ?_))))
 refine ⟨_,(zO (zg rfl)),?_⟩
 replace S:=S.arr [5,6] []
 obtain rfl:=zaM H
 exact ⟨rfl,S⟩
variable {A:Nat→Prop} {N:Oth} {w:World}
theorem term_alike_st {a0:PTerm} {s_0:SlV} {a1:PTerm} {s_1:SlV} {a2:List (ByteArray × Int)} {m_2:Nat} {a3:List (ByteArray × Int)} {m_3:Nat} {a4:Int} (S:St A N w w [oMS m_2 a2,oMS m_3 a3] [ze s_0 a0.sub,ze s_1 a1.sub]) {k:Nat} {r:(List (ByteArray × Int)) × (List (ByteArray × Int)) × Bool} (H:zcF.f k a0 a1 a2 a3 a4=some r) :
  Calls PP vV #[.agg (tmC a0 s_0).toArray,.agg (tmC a1 s_1).toArray,.map (some m_2),.map (some m_3),.int .i64 a4] w <| Rt fun v w'=>(v = .bool r.2.2∧St A N w w' [oMS m_2 r.1,oMS m_3 r.2.1] []):=by
 have main : ∀ (k:Nat) {A:Nat→Prop} {N:Oth} {w:World} {a0:PTerm} {s_0:SlV} {a1:PTerm} {s_1:SlV} {a2:List (ByteArray × Int)} {m_2:Nat} {a3:List (ByteArray × Int)} {m_3:Nat} {a4:Int} (S:St A N w w [oMS m_2 a2,oMS m_3 a3] [ze s_0 a0.sub,ze s_1 a1.sub]) {r:(List (ByteArray × Int)) × (List (ByteArray × Int)) × Bool} (H:zcF.f k a0 a1 a2 a3 a4=some r),Calls PP vV #[.agg (tmC a0 s_0).toArray,.agg (tmC a1 s_1).toArray,.map (some m_2),.map (some m_3),.int .i64 a4] w <| Rt fun v w'=>(v = .bool r.2.2∧St A N w w' [oMS m_2 r.1,oMS m_3 r.2.1] []):=by
  intro k
  induction k with
  | zero=>intro A N w a0 s_0 a1 s_1 a2 m_2 a3 m_3 a4 S r H; cases H
  | succ k ih=>intro A N w a0 s_0 a1 s_1 a2 m_2 a3 m_3 a4 S r H; exact term_alike_gst ih S H
 exact main k S H
theorem term_Alpha_st {a0:PTerm} {s_0:SlV} {a1:PTerm} {s_1:SlV} (S:St A N w w [] [ze s_0 a0.sub,ze s_1 a1.sub]) {k:Nat} {r:Bool} (H:zcG.f k a0 a1=some r) :
  Calls PP F_term_Alpha #[.agg (tmC a0 s_0).toArray,.agg (tmC a1 s_1).toArray] w <| Rt fun v w'=>(v = .bool r∧St A N w w' [] []):=by
 unfold zcG.f at H
 refine zz (n:=20) Tryz.func29 rfl rfl zaK (zb (za ?_))
 refine zJ rfl zaI fun b2 w1 hw1=>?_
 replace S:=S.new hw1
 refine zJ rfl zaI fun b4 w3 hw3=>?_
 replace S:=S.new hw3
 refine wd (zh rfl) (zd (zb (za (wd (ldT rfl (S.blk 1)) ?_))))
 obtain ⟨r5,er5,H⟩ := zp H
 obtain ⟨_,_,T,bk⟩ := S.calln 0 ((.z 0 rfl .nil))
 refine zB (zy vI) zaI (vM (a0:=a0) T er5) ?_
 rintro _ w6 ⟨rfl,S2⟩
 replace S:=bk _ _ _ _ S2 rfl
 refine wd (zS rfl rfl) (wd (zA rfl) ?_)
 refine wg (fun hg=>ldT rfl (S.blk 0)) ?_
 obtain ⟨r8,er8,H⟩ := zp H
 refine xW (j:=3) (pol:=true) rfl rfl rfl zaI (fun hg=>zK vI (zQ (zn hg) rfl)) zaI (fun hg=>(have ⟨M,SS⟩ := S.lend ((.z 1 rfl .nil)); quiet (vM (a0:=a1) SS (if_t (by simpa using hg) er8)) (fun v w' h=>⟨h.1,_,_,h.2⟩))) fun w9 hw9=>?_
 replace S:=S.ext hw9
 refine wg (fun hg=>zS (zn hg) rfl) (wd (z7 rfl (fun hp=>(zn (xr hp)))) (wd (zA rfl) ?_))
 refine wg (fun hg=>ldT rfl (S.blk 1)) ?_
 refine wg (fun hg=>ldT rfl (S.blk 0)) ?_
 obtain ⟨hg10,H⟩ := zV H
 refine yA (j:=8) (pol:=true) rfl rfl rfl zaI (by simpa using hg10) ?_
 refine zah (C:=Value.string) (D:=(Value.int .i64)) zaI fun m11 w12 hmw12 hxw12 hlw12=>?_
 replace S:=S.newM hmw12 hxw12 hlw12
 obtain ⟨hg13,H⟩ := zV H
 refine yA (j:=8) (pol:=true) rfl rfl rfl zaI (by simpa using hg13) ?_
 refine zah (C:=Value.string) (D:=(Value.int .i64)) zaI fun m14 w15 hmw15 hxw15 hlw15=>?_
 replace S:=S.newM hmw15 hxw15 hlw15
 obtain ⟨hg16,H⟩ := zV H
 refine yA (j:=8) (pol:=true) rfl rfl rfl zaI (by simpa using hg16) ?_
 obtain ⟨r17,er17,H⟩ := zp H
 replace S:=S.front 1
 obtain ⟨_,_,T,bk⟩ := S.calln 2 ((.z 0 rfl (.z 1 rfl .nil)))
 refine zB (zK ca_term_alike (zQ (zn (by simpa using hg16)) (zQ (zn (by simpa using hg16)) (zQ rfl (zQ rfl (zQ rfl rfl)))))) zaI (term_alike_st (a0:=a0) (a1:=a1) T er17) ?_
 rintro _ w18 ⟨rfl,S2⟩
 replace S:=bk _ _ _ _ S2 rfl
 refine wd (z7 rfl (fun hp=>rfl)) (wd (zh rfl) (zd (zt ?_)))
 refine ⟨_,(zO (zg rfl)),?_⟩
 replace S:=S.arr [] []
 obtain rfl:=zaM H
 exact ⟨rfl,S⟩
theorem ref14_Bare_st {a0:PTerm} {s_0:SlV} {a1:List Int} {s_1:SlV} (S:St A N w w [] [ze s_0 a0.sub,fS 1 IC s_1 a1]) {r:List Int} (H:zcH.f a0 a1=some r) :
  Calls PP F_ref14_Bare #[.agg (tmC a0 s_0).toArray,s_1.v] w <| Rt fun v w'=>(∃ so0:SlV,v=so0.v∧St A N w w' [] [fS 1 IC so0 r]):=by
 unfold zcH.f at H
 refine zz (n:=32) Tryz.func28 rfl rfl zaK (zb (za ?_))
 refine zJ rfl zaI fun b2 w1 hw1=>?_
 replace S:=S.new hw1
 refine wd (yo) (zd (zb (za (wd (yo) (zd (zb (zb (za ?_))))))))
 refine wd (zi rfl) (zd ?_)
 replace S:=S.nil xF 1 IC
 obtain ⟨o3,e3,Ho3⟩ := zp H
 clear H
 refine xT (rg 5 26) (fun fr W => ∃ s4:SlV,∃ s5:SlV,fr 5=s4.v∧St A N w W [oS xF 1 IC s4 o3.1,oB b2 zk (tmC o3.2 s5)] [ze s5 o3.2.sub,fS 1 IC s_1 a1]) ?_ ?_
 ·refine zM ?_
  refine xN (α:=Nat × Int × (List Int × PTerm)) (rg 5 26) (fun x fr W=>(x.1:Int)=(a1.length:Int) - x.2.1∧0 ≤ x.2.1∧forS (fun i s=>zcH.b0 a1 i s.1 s.2) x.1 x.2.1 x.2.2=some o3 ∧ ∃ s6:SlV,∃ s7:SlV,fr 6 = .int .i64 x.2.1∧fr 5=s6.v∧St A N w W [oS xF 1 IC s6 (x.2.2.1),oB b2 zk (tmC (x.2.2.2) s7)] [ze s7 ((x.2.2.2).sub),fS 1 IC s_1 a1]) (fun x=>x.1) (((a1.length:Int) - 0).toNat,0,(([]:List Int),a0)) ⟨(by dsimp only; have hle:=Int.natCast_nonneg (a1.length); omega),(Int.le_refl _),(by dsimp only; exact e3),SlV.nil,s_0,rfl,rfl,S⟩ ?_
  rintro ⟨m3,i3,⟨x3_0,x3_1⟩⟩ g3 u3 ⟨hm3,hl3,e3,s8,s9,q3_i,q3_5,S⟩
  try dsimp only at hm3
  try dsimp only at hl3
  try dsimp only at e3
  try dsimp only at S
  try dsimp only at q3_i
  try dsimp only at q3_5
  refine zb (zb (za (wd (zj q3_i) (wd (zN rfl) (wd (xL xK rfl (S.rd 1)) (wd (xw rfl rfl) (zd ?_)))))))
  refine zI rfl (fun hc10=>?_) (fun hc10=>?_)
  rotate_left
  ·refine x4 ?_
   have hge:(a1.length:Int) ≤ i3:=Int.not_lt.1 (of_decide_eq_false hc10)
   obtain rfl:m3=0:=by omega
   replace e3:=forS_0 e3
   obtain rfl:=e3
   exact ⟨rfl,df,s8,s9,q3_5,S⟩
  refine zw ?_
  have hlt3:i3 < (a1.length:Int):=of_decide_eq_true hc10
  obtain ⟨m3,rfl⟩ : ∃ m,m3=m + 1:=⟨m3 - 1,by omega⟩
  obtain ⟨q3,H,e3⟩ := forS_s e3
  unfold zcH.b0 at H
  try dsimp only at H
  have hb3:=(S.len 1)
  refine zb ?_
  refine zM (zb (zb (za (wd (zf zZ rfl (o':=0) rfl) (wd (zm zR rfl ((S.blk 1).cell (Term.get_kind _))) (wd (xt rfl rfl) (zd ?_)))))))
  refine zI rfl (fun hc11=>?_) (fun hc11=>?_)
  ·replace H:=if_t hc11 H
   refine za (wd (zN q3_5) (wd (zN rfl) (wd (zj q3_i) (wd (xf xK rfl rfl (S.rd 1) (And.intro (show 0 ≤ i3 by omega) (show i3 < (a1.length:Int) from hlt3)).1 (And.intro (show 0 ≤ i3 by omega) (show i3 < (a1.length:Int) from hlt3)).2) (wd (zm xD rfl ((S.rd 1).one (yB (0:Int) (And.intro (show 0 ≤ i3 by omega) (show i3 < (a1.length:Int) from hlt3))) rfl)) ?_)))))
   refine vx (C:=IC) (l:=[at_ (0:Int) a1 i3]) (vs:=[.int .i64 (at_ (0:Int) a1 i3)]) xK el_int.zero rfl rfl (fun _ _=>rfl) zaI rfl zaI fun b14 w13 s15 hBw13 hw13=>?_
   replace S:=S.lit hBw13 hw13 zaK
   obtain ⟨ha18,H⟩ := zV H
   have ha18:=of_decide_eq_true ha18
   refine wl_appends (C:=IC) xK el_int rfl rfl (S.sl 1) (S.rdO 0) zaK (fun a _ v hv=>by rw [List.mem_singleton.1 hv]; rfl) ha18 zaJ zaI fun s17 w16 O hw16 gw16=>?_
   replace S:=S.push 1 O (by first | (simp; done) | (simp; omega) | (simp only [List.length_append]; omega)) hw16 gw16
   clear O
   refine wd (vo rfl) (zd ?_)
   refine xQ 6 (Ext w16) hmix zaL zaL (Ext.drawn _) (zx (fun v K=>zf zE rfl (o':=4) rfl) (zx (fun v K=>zm zu rfl (((S.ext K).blk 2).cell (Term.get_sub _))) (zx (fun v K=>zN rfl) (zx (fun v K=>zj q3_i) (zx (fun v K=>xf xK rfl rfl ((S.ext K).rd 1) (And.intro (show 0 ≤ i3 by omega) (show i3 < (a1.length:Int) from hlt3)).1 (And.intro (show 0 ≤ i3 by omega) (show i3 < (a1.length:Int) from hlt3)).2) ?_)))))
   refine zx (fun v K=>zm xD rfl (((S.ext K).rd 1).one (yB (0:Int) (And.intro (show 0 ≤ i3 by omega) (show i3 < (a1.length:Int) from hlt3))) rfl)) ?_
   refine yH fun w20 K=>?_
   replace S:=S.ext K
   clear K
   obtain ⟨hi21,H⟩ := zV H
   refine wd (does_indexF zr rfl rfl (S.onZ 0) (zD hi21).1 (zD hi21).2) ?_
   obtain ⟨s22,hc23,S⟩ := S.viewTerm 0 (zD hi21)
   replace S:=S
   refine wd (ldC rfl hc23) ?_
   refine wsT rfl rfl (S.blk 2) fun w24 B hw24 zw24=>?_
   replace S:=S.store 2 B hw24
   refine zd (za (wd (zj q3_i) (wd (xp rfl rfl (c:=i3 + 1) rfl zaJ zaJ) (wd (zi rfl) (zd ?_)))))
   replace S:=S.arr [1,0] [0,2]
   obtain rfl:=zaM H
   exact ⟨rfl,df,(m3,i3 + 1,(x3_0 ++ [at_ (0:Int) a1 i3],(kd x3_1 (at_ (0:Int) a1 i3)))),⟨(by dsimp only; omega),(by dsimp only; omega),e3,s17,s22,rfl,rfl,S⟩,by dsimp only; omega⟩
  ·replace H:=if_f hc11 H
   refine zw ?_
   refine xQ 6 (Ext u3) hmix zaL zaL (Ext.drawn _) (zx (fun v K=>zf zE rfl (o':=4) rfl) (zx (fun v K=>zm zu rfl (((S.ext K).blk 1).cell (Term.get_sub _))) (zx (fun v K=>zN rfl) (zx (fun v K=>zj q3_i) (zx (fun v K=>xf xK rfl rfl ((S.ext K).rd 1) (And.intro (show 0 ≤ i3 by omega) (show i3 < (a1.length:Int) from hlt3)).1 (And.intro (show 0 ≤ i3 by omega) (show i3 < (a1.length:Int) from hlt3)).2) ?_)))))
   refine zx (fun v K=>zm xD rfl (((S.ext K).rd 1).one (yB (0:Int) (And.intro (show 0 ≤ i3 by omega) (show i3 < (a1.length:Int) from hlt3))) rfl)) ?_
   refine yH fun w26 K=>?_
   replace S:=S.ext K
   clear K
   obtain ⟨hi27,H⟩ := zV H
   refine wd (does_indexF zr rfl rfl (S.onZ 0) (zD hi27).1 (zD hi27).2) ?_
   obtain ⟨s28,hc29,S⟩ := S.viewTerm 0 (zD hi27)
   replace S:=S
   refine wd (ldC rfl hc29) ?_
   refine wsT rfl rfl (S.blk 1) fun w30 B hw30 zw30=>?_
   replace S:=S.store 1 B hw30
   refine zd (za (wd (zj q3_i) (wd (xp rfl rfl (c:=i3 + 1) rfl zaJ zaJ) (wd (zi rfl) (zd ?_)))))
   replace S:=S.arr [1,0] [0,2]
   obtain rfl:=zaM H
   exact ⟨rfl,df,(m3,i3 + 1,(x3_0,(kd x3_1 (at_ (0:Int) a1 i3)))),⟨(by dsimp only; omega),(by dsimp only; omega),e3,s8,s28,rfl,q3_5,S⟩,by dsimp only; omega⟩
 rintro g31 u32 ⟨s4,s5,p3_5,S⟩
 have H:=Ho3
 refine zb (za (wd (zN p3_5) (wd (vo rfl) (zd (zt ?_)))))
 replace S:=S.frzS 0
 refine ⟨_,(zO (zg rfl)),?_⟩
 replace S:=S.arr [] [0]
 obtain rfl:=zaM H
 exact ⟨s4,rfl,S⟩
end
section
open Gw Go.RowKit
set_option maxHeartbeats 4000000
set_option maxRecDepth 20000
theorem law14_ReduceErases_st {A:Nat→Prop} {N:Oth} {w:World} {a0:List Nd} {s_0:SlV} {a1:PTerm} {s_1:SlV} (S:St A N w w [] [fS 4 Nd.C s_0 a0,ze s_1 a1.sub,oPw]) {k:Nat} {r:Bool} (H:zcI.f k a0 a1=some r) :
  Calls PP yc #[s_0.v,.agg (tmC a1 s_1).toArray] w fun e w' => ∃ v,e = .returned v∧(v = .bool r∧St A N w w' [] []):=by
 unfold zcI.f at H
 refine zz (n:=119) vv rfl rfl zaK (zb (za ?_))
 refine zJ rfl zaI fun b2 w1 hw1=>?_
 replace S:=S.new hw1
 refine wd (zh rfl) (zd (zb (za (wd (zN rfl) ?_))))
 obtain ⟨r3,er3,H⟩ := zp H
 obtain ⟨B5,MB5,SB5,back⟩ := S.calln 0 ((.z 0 rfl .nil))
 refine zB (zy ca_law04_Tables) zaI (law04_Tables_st SB5 er3) ?_
 rintro _ w4 ⟨a6,a7,rfl,S2⟩
 replace S:=back _ _ _ _ S2 rfl
 clear back S2 SB5
 refine wd (xb rfl) (wd (zo rfl rfl) (wd (zo rfl rfl) (wd (xd rfl) (wd (xd rfl) (zd (zb (za ?_)))))))
 refine wd (zC rfl) (wd (zq zT rfl ((S.blk 2).all _ (Term.len _)) (Term.len _)) ?_)
 obtain ⟨r8,er8,H⟩ := zp H
 obtain ⟨B10,MB10,SB10,back⟩ := S.sub [1] [] [oT a6 r3.1,oR a7 r3.2,oB b2 zk (tmC a1 s_1)]
 refine zB (zy ub) zaI (uQ (a0:=a1) SB10 er8) ?_
 rintro _ w9 ⟨s11,rfl,S2⟩
 replace S:=back _ _ _ _ _ S2 rfl rfl
 clear back S2 SB10
 obtain ⟨r12,er12,H⟩ := zp H
 obtain ⟨B14,MB14,SB14,back⟩ := S.calln 0 ((.o 0 rfl (.z 0 rfl (.z 3 rfl .nil))))
 refine zB (zy ju) zaI (jD (a1:=r8) SB14 er12) ?_
 rintro _ w13 ⟨s15,rfl,S2⟩
 replace S:=back _ _ _ _ S2 rfl
 clear back S2 SB14
 replace S:=S.frzO 0
 refine wd (xb rfl) (wd (zo rfl rfl) (wd (zo rfl rfl) (wd (vo rfl) (wd (zi rfl) (zd (zb (zb (za ?_))))))))
 refine wd (zj rfl) ?_
 obtain ⟨r16,er16,H⟩ := zp H
 obtain ⟨B18,MB18,SB18,back⟩ := S.calln 0 ((.nil))
 refine zB (zy yq) zaI (yr SB18 er16) ?_
 rintro _ w17 ⟨rfl,S2⟩
 replace S:=back _ _ _ _ S2 rfl
 clear back S2 SB18
 refine wd (xt rfl rfl) (zd ?_)
 refine zI rfl (fun hc19=>?_) (fun hc19=>?_)
 ·replace H:=if_t hc19 H
  refine zb (za (wd (zN rfl) (wd (jP yv rfl (S.onZ 0)) (wd (zS rfl rfl) (wd (zA rfl) ?_)))))
  obtain ⟨r20,er20,H⟩ := zp H
  refine xW (j:=3) (pol:=true) rfl rfl rfl zaI (fun hg=>zK ca_law14_heads rfl) zaI (fun hg=>(have ⟨M,SS⟩ := S.lend ((.z 4 rfl .nil)); quiet (law14_heads_st SS (if_t (by simpa using hg) er20)) (fun v w' h=>⟨h.1,_,_,h.2⟩))) fun w21 hw21=>?_
  replace S:=S.ext hw21
  refine wd (z7 rfl (fun hp=>(zn (xr hp)))) (wd (zh rfl) (zd (zt ?_)))
  refine ⟨_,(zO (zg rfl)),?_⟩
  replace S:=S.arr [] []
  obtain rfl:=zaM H
  exact ⟨rfl,S⟩
 replace H:=if_f hc19 H
 refine zw (zb (za (wd (zq zT rfl ((S.blk 2).all _ (Term.len _)) (Term.len _)) ?_)))
 obtain ⟨r22,er22,H⟩ := zp H
 obtain ⟨B24,MB24,SB24,back⟩ := S.sub [3] [] [oT a6 r3.1,oR a7 r3.2,oB b2 zk (tmC a1 s_1)]
 refine zB (zy ub) zaI (uQ (a0:=a1) SB24 er22) ?_
 rintro _ w23 ⟨s25,rfl,S2⟩
 replace S:=back _ _ _ _ _ S2 rfl rfl
 clear back S2 SB24
 obtain ⟨r26,er26,H⟩ := zp H
 obtain ⟨B28,MB28,SB28,back⟩ := S.sub [0] [] [oT a6 r3.1,oR a7 r3.2,oB b2 zk (tmC a1 s_1)]
 refine zB (zy ko) zaI (kw (a0:=r22) SB28 er26) ?_
 rintro _ w27 ⟨s29,rfl,S2⟩
 replace S:=back _ _ _ _ _ S2 rfl rfl
 clear back S2 SB28
 refine wd (xb rfl) (wd (zo rfl rfl) (wd (zo rfl rfl) ?_))
 refine zP xm zaI fun b31 w30 hw30=>?_
 replace S:=S.new hw30
 refine zU zT rfl rfl (S.blk 0) (Term.len _) (by rw [Term.len]; decide) (Term.one _) (xg (Term.len _)) fun w32 B hw32 zw32=>?_
 replace S:=S.store 0 B hw32
 clear B
 refine wd (zi rfl) (zd (zb (zb (za (wd (zj rfl) ?_)))))
 obtain ⟨r33,er33,H⟩ := zp H
 obtain ⟨B35,MB35,SB35,back⟩ := S.calln 0 ((.nil))
 refine zB (zy yq) zaI (yr SB35 er33) ?_
 rintro _ w34 ⟨rfl,S2⟩
 replace S:=back _ _ _ _ S2 rfl
 clear back S2 SB35
 refine wd (xt rfl rfl) (zd ?_)
 refine zI rfl (fun hc36=>?_) (fun hc36=>?_)
 ·replace H:=if_t hc36 H
  refine zb (za (wd (zh rfl) (zd (zt ?_))))
  refine ⟨_,(zO (zg rfl)),?_⟩
  replace S:=S.arr [] []
  obtain rfl:=zaM H
  exact ⟨rfl,S⟩
 replace H:=if_f hc36 H
 refine zw (zb (zb (za (wd (zi rfl) (zd ?_)))))
 replace S:=(S.frzO 1).frzO 1
 obtain ⟨o37,e37,Ho37⟩ := zp H
 clear H
 refine xT [4,11,12,13,14,15,16,17,18,49,50,51,52,53,54,55,56,57,58,59,60,61,62,63,64,65,66,67,68,69,70,71,72,73,74,75,76,77,78,79,80,81,82,83,84,85,86,87,88,89,90,91,92,93,94,95,96,97,98,99,100,101,102,103,104,105,106,107,108,109,110,111,112,113,114,115,116,117] (fun fr W => ∃ s37:Int,o37 = .inl s37∧fr 11 = .int .i64 s37∧St A N w W [oB b31 zk (tmC r26.1 s29),oB b2 zk (tmC a1 s_1)] [oR a7 r3.2,oT a6 r3.1,ze s29 r26.1.sub,ze s25 r22.sub,zF s15 r12.1,ze s11 r8.sub,fS 4 Nd.C s_0 a0,ze s_1 a1.sub,oPw]) ?_ ?_
 ·refine zM ?_
  refine xN (α:=Nat × Int) [4,11,12,13,14,15,16,17,18,49,50,51,52,53,54,55,56,57,58,59,60,61,62,63,64,65,66,67,68,69,70,71,72,73,74,75,76,77,78,79,80,81,82,83,84,85,86,87,88,89,90,91,92,93,94,95,96,97,98,99,100,101,102,103,104,105,106,107,108,109,110,111,112,113,114,115,116,117] (fun x fr W=>iter (fun s=>zcI.b0 r12 k a1 r3 r26 s) x.1 x.2=some o37∧fr 11 = .int .i64 (x.2)∧St A N w W [oB b31 zk (tmC r26.1 s29),oB b2 zk (tmC a1 s_1)] [oR a7 r3.2,oT a6 r3.1,ze s29 r26.1.sub,ze s25 r22.sub,zF s15 r12.1,ze s11 r8.sub,fS 4 Nd.C s_0 a0,ze s_1 a1.sub,oPw]) (fun x=>x.1) (k,0) ⟨(by dsimp only; exact e37),rfl,S⟩ ?_
  rintro ⟨m37,x37_0⟩ g37 u37 ⟨e37,q37_11,S⟩
  try dsimp only at e37
  try dsimp only at S
  try dsimp only at q37_11
  obtain ⟨m37,rfl⟩ : ∃ m,m37=m + 1:=⟨m37 - 1,by cases m37 with | zero=>cases e37 | succ m=>rfl⟩
  obtain ⟨q37,H,e37⟩ := iter_s e37
  unfold zcI.b0 at H
  try dsimp only at H
  refine zb (zb (za (wd (zj q37_11) (wd (zN rfl) (wd (jP yv rfl (S.onZ 4)) (wd (xw rfl rfl) (wd (zA rfl) ?_)))))))
  refine wg (fun hg=>zj q37_11) ?_
  refine wg (fun hg=>xw (zn hg) rfl) (wd (z7 rfl (fun hp=>(zn (xr hp)))) (zd ?_))
  refine zI rfl (fun hc38=>?_) (fun hc38=>?_)
  rotate_left
  ·replace H:=if_f hc38 H
   refine x4 ?_
   obtain rfl:=zaM H
   exact ⟨rfl,(((((((((Dif.self _ _ _).upd rfl _).upd rfl _).upd rfl _).upd rfl _).upd rfl _).upd rfl _).upd rfl _).upd rfl _),x37_0,e37,q37_11,S⟩
  replace H:=if_t hc38 H
  refine zw (zb ?_)
  refine zM (zb ?_)
  obtain ⟨r40,er40,H⟩ := zp H
  obtain ⟨hi44,H⟩ := zV H
  obtain ⟨r46,er46,H⟩ := zp H
  obtain ⟨s45,S⟩ := S.viewL_intC 4 (zD hi44)
  replace S:=S.zs [2,3,4,5,6,7,8,9,10,0,1]
  refine yw 13 ⟨fun _ _=>True,fun _ _ _=>True,fun i v _=>match i with
   | 0=>v=Value.pointer a6
   | 1=>v=Value.agg (tmC a1 s_1).toArray
   | 3=>v=s15.v
   | 4=>v=Value.int .i64 x37_0
   | 5=>v=Value.pointer (some ⟨s15.blk,s15.off + Int.toNat x37_0 * 1,none⟩)
   | 6=>v=s45.v
   | 10=>v=Value.int .i64 r46.2
   | _=>True⟩ (fun L g v => ∃ b51:Nat,∃ s53:SlV,∃ O55:List OA,∃ Z54:List OA,(∀ z ∈ [oR a7 r3.2,oT a6 r3.1,ze s29 r26.1.sub,ze s25 r22.sub,zF s15 r12.1,ze s11 r8.sub,fS 4 Nd.C s_0 a0,ze s_1 a1.sub,oPw,oCl s15.blk (s15.off + Int.toNat x37_0 * 1) (L_int.C s45),fS 1 IC s45 (at_ [] r12.1 x37_0)],z ∈ Z54)∧Made L g Z54 2 62 (fun (c:SlV)=>Value.agg (tmC r40 c).toArray) (fun (c:SlV)=>[ze c r40.sub])∧Made L g Z54 7 67 (fun (c:SlV)=>Value.tuple #[.agg (tmC r46.1 c).toArray,.int .i64 r46.2]) (fun (c:SlV)=>[ze c r46.1.sub])∧Made L g Z54 8 59 (fun (c:SlV)=>Value.tuple #[.agg (tmC r46.1 c).toArray,.int .i64 r46.2]) (fun (c:SlV)=>[ze c r46.1.sub])∧Made L g Z54 9 68 (fun (c:SlV)=>Value.agg (tmC r46.1 c).toArray) (fun (c:SlV)=>[ze c r46.1.sub])∧(L 11=true→g 12=Value.pointer (some ⟨b51,0,none⟩))∧(L 12=true → ∀ z ∈ [ze s53 r46.1.sub],z ∈ Z54)∧O55=((bif L 12 then [oB b51 zk (tmC r46.1 s53)] else (bif L 11 then [oB b51 zk (Term.C tmZ)] else [])) ++ [oB b31 zk (tmC r26.1 s29),oB b2 zk (tmC a1 s_1)])∧St A N w v O55 Z54) hmix zaL (fun _ _ _ _ _ _ _ hv=>hv) (fun g=>⟨0,SlV.nil,_,_,fun _ h=>h,Made.no,Made.no,Made.no,Made.no,(fun h=>by cases h),(fun h=>by cases h),rfl,S.ext (Ext.drawn _)⟩) ⟨?_,?_,?_,?_,?_,?_,?_,?_,?_,?_,?_,?_,?_,trivial⟩ ?_
  ·rintro L g v hL hcl hclo ⟨b51,s53,O55,Z54,hZ,hm2,hm7,hm8,hm9,hk11,hq12,hO,S⟩ 
   have hl12:L 12=false:=by cases h:L 12 with | false=>rfl | true=>exact absurd (hclo 12 0 h zaL) (by rw [hL]; decide)
   have SR:St A N w v [oB b31 zk (tmC r26.1 s29),oB b2 zk (tmC a1 s_1)] (oR a7 r3.2 :: oT a6 r3.1 :: ze s29 r26.1.sub :: ze s25 r22.sub :: zF s15 r12.1 :: ze s11 r8.sub :: fS 4 Nd.C s_0 a0 :: ze s_1 a1.sub :: oPw :: oCl s15.blk (s15.off + Int.toNat x37_0 * 1) (L_int.C s45) :: fS 1 IC s45 (at_ [] r12.1 x37_0) :: Z54):=by
    have S2:=S.zneed hZ
    rw [hO] at S2
    simp only [hl12,cond_true,cond_false,List.nil_append,List.append_assoc,List.cons_append] at S2
    exact S2.drops
   refine wd (zC rfl) ?_
   exact zd (ob4 trivial rfl ⟨b51,s53,O55,Z54,hZ,hm2.keep rfl rfl tl0,hm7.keep rfl rfl tl0,hm8.keep rfl rfl tl0,hm9.keep rfl rfl tl0,(fun h=>by rw [xi _ _ _ _ zaI]; exact hk11 (by rw [zG rfl] at h; exact h)),(fun h z q=>tl0 z (hq12 (by rw [zG rfl] at h; exact h) z q)),by rw [hO]; simp only [zG (L:=L) (i:=0) (j:=11) rfl,zG (L:=L) (i:=0) (j:=12) rfl],S⟩)
  ·rintro L g v hL hcl hclo ⟨b51,s53,O55,Z54,hZ,hm2,hm7,hm8,hm9,hk11,hq12,hO,S⟩ 
   have hl12:L 12=false:=by cases h:L 12 with | false=>rfl | true=>exact absurd (hclo 12 1 h zaL) (by rw [hL]; decide)
   have SR:St A N w v [oB b31 zk (tmC r26.1 s29),oB b2 zk (tmC a1 s_1)] (oR a7 r3.2 :: oT a6 r3.1 :: ze s29 r26.1.sub :: ze s25 r22.sub :: zF s15 r12.1 :: ze s11 r8.sub :: fS 4 Nd.C s_0 a0 :: ze s_1 a1.sub :: oPw :: oCl s15.blk (s15.off + Int.toNat x37_0 * 1) (L_int.C s45) :: fS 1 IC s45 (at_ [] r12.1 x37_0) :: Z54):=by
    have S2:=S.zneed hZ
    rw [hO] at S2
    simp only [hl12,cond_true,cond_false,List.nil_append,List.append_assoc,List.cons_append] at S2
    exact S2.drops
   refine wd (zq zT rfl ((SR.blk 1).all _ (Term.len _)) (Term.len _)) ?_
   exact zd (ob4 trivial rfl ⟨b51,s53,O55,Z54,hZ,hm2.keep rfl rfl tl0,hm7.keep rfl rfl tl0,hm8.keep rfl rfl tl0,hm9.keep rfl rfl tl0,(fun h=>by rw [xi _ _ _ _ zaI]; exact hk11 (by rw [zG rfl] at h; exact h)),(fun h z q=>tl0 z (hq12 (by rw [zG rfl] at h; exact h) z q)),by rw [hO]; simp only [zG (L:=L) (i:=1) (j:=11) rfl,zG (L:=L) (i:=1) (j:=12) rfl],S⟩)
  ·rintro L g v hL hcl hclo ⟨b51,s53,O55,Z54,hZ,hm2,hm7,hm8,hm9,hk11,hq12,hO,S⟩ hv1
   have hl12:L 12=false:=by cases h:L 12 with | false=>rfl | true=>exact absurd (hclo 12 2 h zaL) (by rw [hL]; decide)
   replace S:=(S.zneed hZ)
   obtain ⟨B58,MB58,SB58,back⟩ := S.sub [7] [] (O55)
   refine zB (zK ub (zQ hv1 rfl)) zaI (uQ (a0:=a1) SB58 er40) ?_
   rintro _ w57 ⟨s59,rfl,S2⟩
   replace S:=back _ _ _ _ _ S2 rfl rfl
   clear back S2 SB58
   exact zd (ob4 trivial trivial ⟨b51,s53,O55,_,(fun z h=>tl12 z (hZ z h)),Made.one (val:=(fun (c:SlV)=>Value.agg (tmC r40 c).toArray)) (ps:=(fun (c:SlV)=>[ze c r40.sub])) s59 (xJ List.mem_cons_self x9),hm7.keep rfl rfl tl12,hm8.keep rfl rfl tl12,hm9.keep rfl rfl tl12,(fun h=>by rw [xi _ _ _ _ zaI]; exact hk11 (by rw [zG rfl] at h; exact h)),(fun h z q=>tl12 z (hq12 (by rw [zG rfl] at h; exact h) z q)),by rw [hO]; simp only [zG (L:=L) (i:=2) (j:=11) rfl,zG (L:=L) (i:=2) (j:=12) rfl],S⟩)
  ·rintro L g v hL hcl hclo ⟨b51,s53,O55,Z54,hZ,hm2,hm7,hm8,hm9,hk11,hq12,hO,S⟩ 
   have hl12:L 12=false:=by cases h:L 12 with | false=>rfl | true=>exact absurd (hclo 12 3 h zaL) (by rw [hL]; decide)
   have SR:St A N w v [oB b31 zk (tmC r26.1 s29),oB b2 zk (tmC a1 s_1)] (oR a7 r3.2 :: oT a6 r3.1 :: ze s29 r26.1.sub :: ze s25 r22.sub :: zF s15 r12.1 :: ze s11 r8.sub :: fS 4 Nd.C s_0 a0 :: ze s_1 a1.sub :: oPw :: oCl s15.blk (s15.off + Int.toNat x37_0 * 1) (L_int.C s45) :: fS 1 IC s45 (at_ [] r12.1 x37_0) :: Z54):=by
    have S2:=S.zneed hZ
    rw [hO] at S2
    simp only [hl12,cond_true,cond_false,List.nil_append,List.append_assoc,List.cons_append] at S2
    exact S2.drops
   refine wd (zN rfl) ?_
   exact zd (ob4 trivial rfl ⟨b51,s53,O55,Z54,hZ,hm2.keep rfl rfl tl0,hm7.keep rfl rfl tl0,hm8.keep rfl rfl tl0,hm9.keep rfl rfl tl0,(fun h=>by rw [xi _ _ _ _ zaI]; exact hk11 (by rw [zG rfl] at h; exact h)),(fun h z q=>tl0 z (hq12 (by rw [zG rfl] at h; exact h) z q)),by rw [hO]; simp only [zG (L:=L) (i:=3) (j:=11) rfl,zG (L:=L) (i:=3) (j:=12) rfl],S⟩)
  ·rintro L g v hL hcl hclo ⟨b51,s53,O55,Z54,hZ,hm2,hm7,hm8,hm9,hk11,hq12,hO,S⟩ 
   have hl12:L 12=false:=by cases h:L 12 with | false=>rfl | true=>exact absurd (hclo 12 4 h zaL) (by rw [hL]; decide)
   have SR:St A N w v [oB b31 zk (tmC r26.1 s29),oB b2 zk (tmC a1 s_1)] (oR a7 r3.2 :: oT a6 r3.1 :: ze s29 r26.1.sub :: ze s25 r22.sub :: zF s15 r12.1 :: ze s11 r8.sub :: fS 4 Nd.C s_0 a0 :: ze s_1 a1.sub :: oPw :: oCl s15.blk (s15.off + Int.toNat x37_0 * 1) (L_int.C s45) :: fS 1 IC s45 (at_ [] r12.1 x37_0) :: Z54):=by
    have S2:=S.zneed hZ
    rw [hO] at S2
    simp only [hl12,cond_true,cond_false,List.nil_append,List.append_assoc,List.cons_append] at S2
    exact S2.drops
   refine wd (zj q37_11) ?_
   exact zd (ob4 trivial rfl ⟨b51,s53,O55,Z54,hZ,hm2.keep rfl rfl tl0,hm7.keep rfl rfl tl0,hm8.keep rfl rfl tl0,hm9.keep rfl rfl tl0,(fun h=>by rw [xi _ _ _ _ zaI]; exact hk11 (by rw [zG rfl] at h; exact h)),(fun h z q=>tl0 z (hq12 (by rw [zG rfl] at h; exact h) z q)),by rw [hO]; simp only [zG (L:=L) (i:=4) (j:=11) rfl,zG (L:=L) (i:=4) (j:=12) rfl],S⟩)
  ·rintro L g v hL hcl hclo ⟨b51,s53,O55,Z54,hZ,hm2,hm7,hm8,hm9,hk11,hq12,hO,S⟩ hv3 hv4
   have hl12:L 12=false:=by cases h:L 12 with | false=>rfl | true=>exact absurd (hclo 12 5 h zaL) (by rw [hL]; decide)
   have SR:St A N w v [oB b31 zk (tmC r26.1 s29),oB b2 zk (tmC a1 s_1)] (oR a7 r3.2 :: oT a6 r3.1 :: ze s29 r26.1.sub :: ze s25 r22.sub :: zF s15 r12.1 :: ze s11 r8.sub :: fS 4 Nd.C s_0 a0 :: ze s_1 a1.sub :: oPw :: oCl s15.blk (s15.off + Int.toNat x37_0 * 1) (L_int.C s45) :: fS 1 IC s45 (at_ [] r12.1 x37_0) :: Z54):=by
    have S2:=S.zneed hZ
    rw [hO] at S2
    simp only [hl12,cond_true,cond_false,List.nil_append,List.append_assoc,List.cons_append] at S2
    exact S2.drops
   refine wd (kf yv hv3 hv4 (SR.onZ 4) (zD hi44).1 (zD hi44).2) ?_
   exact zd (ob4 trivial rfl ⟨b51,s53,O55,Z54,hZ,hm2.keep rfl rfl tl0,hm7.keep rfl rfl tl0,hm8.keep rfl rfl tl0,hm9.keep rfl rfl tl0,(fun h=>by rw [xi _ _ _ _ zaI]; exact hk11 (by rw [zG rfl] at h; exact h)),(fun h z q=>tl0 z (hq12 (by rw [zG rfl] at h; exact h) z q)),by rw [hO]; simp only [zG (L:=L) (i:=5) (j:=11) rfl,zG (L:=L) (i:=5) (j:=12) rfl],S⟩)
  ·rintro L g v hL hcl hclo ⟨b51,s53,O55,Z54,hZ,hm2,hm7,hm8,hm9,hk11,hq12,hO,S⟩ hv5
   have hl12:L 12=false:=by cases h:L 12 with | false=>rfl | true=>exact absurd (hclo 12 6 h zaL) (by rw [hL]; decide)
   have SR:St A N w v [oB b31 zk (tmC r26.1 s29),oB b2 zk (tmC a1 s_1)] (oR a7 r3.2 :: oT a6 r3.1 :: ze s29 r26.1.sub :: ze s25 r22.sub :: zF s15 r12.1 :: ze s11 r8.sub :: fS 4 Nd.C s_0 a0 :: ze s_1 a1.sub :: oPw :: oCl s15.blk (s15.off + Int.toNat x37_0 * 1) (L_int.C s45) :: fS 1 IC s45 (at_ [] r12.1 x37_0) :: Z54):=by
    have S2:=S.zneed hZ
    rw [hO] at S2
    simp only [hl12,cond_true,cond_false,List.nil_append,List.append_assoc,List.cons_append] at S2
    exact S2.drops
   refine wd (zm zab hv5 ((SR.cl 9).get (i:=0) rfl)) ?_
   exact zd (ob4 trivial rfl ⟨b51,s53,O55,Z54,hZ,hm2.keep rfl rfl tl0,hm7.keep rfl rfl tl0,hm8.keep rfl rfl tl0,hm9.keep rfl rfl tl0,(fun h=>by rw [xi _ _ _ _ zaI]; exact hk11 (by rw [zG rfl] at h; exact h)),(fun h z q=>tl0 z (hq12 (by rw [zG rfl] at h; exact h) z q)),by rw [hO]; simp only [zG (L:=L) (i:=6) (j:=11) rfl,zG (L:=L) (i:=6) (j:=12) rfl],S⟩)
  ·rintro L g v hL hcl hclo ⟨b51,s53,O55,Z54,hZ,hm2,hm7,hm8,hm9,hk11,hq12,hO,S⟩ hv0 _ hv6
   obtain ⟨s43,he2,hp2⟩ := hm2 (hcl 2 zaL)
   have hl12:L 12=false:=by cases h:L 12 with | false=>rfl | true=>exact absurd (hclo 12 7 h zaL) (by rw [hL]; decide)
   replace S:=(S.zneed (xo (l1:=[ze s43 r40.sub]) hp2 hZ))
   obtain ⟨B63,MB63,SB63,back⟩ := S.sub [2,0,11,9] [] (O55)
   refine zB (zK kH (zQ hv0 (zQ he2 (zQ hv6 rfl)))) zaI (kJ (a1:=r40) SB63 er46) ?_
   rintro _ w62 ⟨s64,rfl,S2⟩
   replace S:=back _ _ _ _ _ S2 rfl rfl
   clear back S2 SB63
   exact zd (ob4 trivial trivial ⟨b51,s53,O55,_,(fun z h=>tl13 z (hZ z h)),hm2.keep rfl rfl tl13,Made.one (val:=(fun (c:SlV)=>Value.tuple #[.agg (tmC r46.1 c).toArray,.int .i64 r46.2])) (ps:=(fun (c:SlV)=>[ze c r46.1.sub])) s64 (xJ List.mem_cons_self x9),hm8.keep rfl rfl tl13,hm9.keep rfl rfl tl13,(fun h=>by rw [xi _ _ _ _ zaI]; exact hk11 (by rw [zG rfl] at h; exact h)),(fun h z q=>tl13 z (hq12 (by rw [zG rfl] at h; exact h) z q)),by rw [hO]; simp only [zG (L:=L) (i:=7) (j:=11) rfl,zG (L:=L) (i:=7) (j:=12) rfl],S⟩)
  ·rintro L g v hL hcl hclo ⟨b51,s53,O55,Z54,hZ,hm2,hm7,hm8,hm9,hk11,hq12,hO,S⟩ _
   obtain ⟨s49,he7,hp7⟩ := hm7 (hcl 7 zaL)
   have hl12:L 12=false:=by cases h:L 12 with | false=>rfl | true=>exact absurd (hclo 12 8 h zaL) (by rw [hL]; decide)
   replace S:=(S.zneed (xo (l1:=[ze s49 r46.1.sub]) hp7 hZ))
   refine wd (xb he7) ?_
   exact zd (ob4 trivial trivial ⟨b51,s53,O55,_,(fun z h=>tl12 z (hZ z h)),hm2.keep rfl rfl tl12,hm7.keep rfl rfl tl12,Made.one (val:=(fun (c:SlV)=>Value.tuple #[.agg (tmC r46.1 c).toArray,.int .i64 r46.2])) (ps:=(fun (c:SlV)=>[ze c r46.1.sub])) s49 (xJ List.mem_cons_self x9),hm9.keep rfl rfl tl12,(fun h=>by rw [xi _ _ _ _ zaI]; exact hk11 (by rw [zG rfl] at h; exact h)),(fun h z q=>tl12 z (hq12 (by rw [zG rfl] at h; exact h) z q)),by rw [hO]; simp only [zG (L:=L) (i:=8) (j:=11) rfl,zG (L:=L) (i:=8) (j:=12) rfl],S⟩)
  ·rintro L g v hL hcl hclo ⟨b51,s53,O55,Z54,hZ,hm2,hm7,hm8,hm9,hk11,hq12,hO,S⟩ _
   obtain ⟨s49,he8,hp8⟩ := hm8 (hcl 8 zaL)
   have hl12:L 12=false:=by cases h:L 12 with | false=>rfl | true=>exact absurd (hclo 12 9 h zaL) (by rw [hL]; decide)
   replace S:=(S.zneed (xo (l1:=[ze s49 r46.1.sub]) hp8 hZ))
   refine wd (zo he8 rfl) ?_
   exact zd (ob4 trivial trivial ⟨b51,s53,O55,_,(fun z h=>tl12 z (hZ z h)),hm2.keep rfl rfl tl12,hm7.keep rfl rfl tl12,hm8.keep rfl rfl tl12,Made.one (val:=(fun (c:SlV)=>Value.agg (tmC r46.1 c).toArray)) (ps:=(fun (c:SlV)=>[ze c r46.1.sub])) s49 (xJ List.mem_cons_self x9),(fun h=>by rw [xi _ _ _ _ zaI]; exact hk11 (by rw [zG rfl] at h; exact h)),(fun h z q=>tl12 z (hq12 (by rw [zG rfl] at h; exact h) z q)),by rw [hO]; simp only [zG (L:=L) (i:=9) (j:=11) rfl,zG (L:=L) (i:=9) (j:=12) rfl],S⟩)
  ·rintro L g v hL hcl hclo ⟨b51,s53,O55,Z54,hZ,hm2,hm7,hm8,hm9,hk11,hq12,hO,S⟩ _
   obtain ⟨s49,he8,hp8⟩ := hm8 (hcl 8 zaL)
   have SR:St A N w v [oB b31 zk (tmC r26.1 s29),oB b2 zk (tmC a1 s_1)] (ze s49 r46.1.sub :: oR a7 r3.2 :: oT a6 r3.1 :: ze s29 r26.1.sub :: ze s25 r22.sub :: zF s15 r12.1 :: ze s11 r8.sub :: fS 4 Nd.C s_0 a0 :: ze s_1 a1.sub :: oPw :: oCl s15.blk (s15.off + Int.toNat x37_0 * 1) (L_int.C s45) :: fS 1 IC s45 (at_ [] r12.1 x37_0) :: Z54):=by
    have S2:=S.zneed (xo (l1:=[ze s49 r46.1.sub]) hp8 hZ)
    rw [hO] at S2
    exact S2.drops
   refine wd (zo he8 rfl) ?_
   exact zd (ob4 trivial rfl ⟨b51,s53,O55,Z54,hZ,hm2.keep rfl rfl tl0,hm7.keep rfl rfl tl0,hm8.keep rfl rfl tl0,hm9.keep rfl rfl tl0,(fun h=>by rw [xi _ _ _ _ zaI]; exact hk11 (by rw [zG rfl] at h; exact h)),(fun h z q=>tl0 z (hq12 (by rw [zG rfl] at h; exact h) z q)),by rw [hO]; simp only [zG (L:=L) (i:=10) (j:=11) rfl,zG (L:=L) (i:=10) (j:=12) rfl],S⟩)
  ·rintro L g v hL hcl hclo ⟨b51,s53,O55,Z54,hZ,hm2,hm7,hm8,hm9,hk11,hq12,hO,S⟩ 
   have hl11:L 11=false:=hL
   have hl12:L 12=false:=by cases h:L 12 with | false=>rfl | true=>exact absurd (hclo 12 11 h zaL) (by rw [hL]; decide)
   have hOP : ∃ P Y,P=[]∧Y=[oB b31 zk (tmC r26.1 s29),oB b2 zk (tmC a1 s_1)]∧O55=P ++ ([] ++ Y):=⟨_,_,rfl,rfl,by rw [hO]; simp only [hl11,hl12,cond_true,cond_false,List.nil_append,List.append_assoc,List.cons_append]⟩
   obtain ⟨P,Y,hP,hY,hPY⟩ := hOP
   rw [hPY] at S
   replace S:=S
   refine zP xm zaI fun b66 w65 hw65=>?_
   replace S:=S.new hw65
   refine zd (ob4 trivial trivial ⟨b66,s53,P ++ ([oB b66 zk (Term.C tmZ)] ++ Y),_,hZ,hm2.keep rfl rfl tl0,hm7.keep rfl rfl tl0,hm8.keep rfl rfl tl0,hm9.keep rfl rfl tl0,(fun _=>upd_same _ _ _),(fun h z q=>tl0 z (hq12 (by rw [zG rfl] at h; exact h) z q)),?_,S.ins (P:=[oB b66 zk (Term.C tmZ)])⟩)
   rw [hP,hY]; simp only [zG (L:=L) (i:=11) (j:=12) rfl,xM (L:=L) (i:=11),hl12,cond_true,cond_false,List.nil_append,List.append_assoc,List.cons_append]
  ·rintro L g v hL hcl hclo ⟨b51,s53,O55,Z54,hZ,hm2,hm7,hm8,hm9,hk11,hq12,hO,S⟩ _ _
   obtain ⟨s49,he9,hp9⟩ := hm9 (hcl 9 zaL)
   have hl11:L 11=true:=hcl 11 zaL
   have hl12:L 12=false:=hL
   have hOP : ∃ P Y,P=[]∧Y=[oB b31 zk (tmC r26.1 s29),oB b2 zk (tmC a1 s_1)]∧O55=P ++ ([oB b51 zk (Term.C tmZ)] ++ Y):=⟨_,_,rfl,rfl,by rw [hO]; simp only [hl11,hl12,cond_true,cond_false,List.nil_append,List.append_assoc,List.cons_append]⟩
   obtain ⟨P,Y,hP,hY,hPY⟩ := hOP
   rw [hPY] at S
   replace S:=(S.ins.zneed (xo (l1:=[ze s49 r46.1.sub]) hp9 hZ))
   refine zU zT (hk11 (hcl 11 zaL)) he9 (S.blk 0) (Term.len _) (by rw [Term.len]; decide) (Term.one _) (xg (Term.len _)) fun w67 B hw67 zw67=>?_
   replace S:=S.store 0 B hw67
   clear B
   refine zd (ob40 trivial (fun _=>trivial) ⟨b51,s49,P ++ ([oB b51 zk (tmC r46.1 s49)] ++ Y),_,(fun z h=>tl12 z (hZ z h)),hm2.keep0 rfl tl12,hm7.keep0 rfl tl12,hm8.keep0 rfl tl12,hm9.keep0 rfl tl12,(fun h=>hk11 (by rw [zG rfl] at h; exact h)),(fun _ z q=>tl12 z (hp9 z q)),?_,S.ins (P:=[oB b51 zk (tmC r46.1 s49)])⟩)
   rw [hP,hY]; simp only [zG (L:=L) (i:=12) (j:=11) rfl,xM (L:=L) (i:=12),hl11,cond_true,cond_false,List.nil_append,List.append_assoc,List.cons_append]
  rintro L g w68 hLm ⟨b51,s53,O55,Z54,hZ,hm2,hm7,hm8,hm9,hk11,hq12,hO,S⟩ hv69_0 hv69_1 _ hv69_3 hv69_4 hv69_5 hv69_6 _ _ _ hv69_10 _ _
  have hLt : ∀ j,j < 13→L j=true:=fun j hj=>by rw [hLm]; exact decide_eq_true hj
  obtain ⟨s43,hv69_2,hp2⟩ := hm2 (hLt 2 zaI)
  obtain ⟨s49,hv69_9,hp9⟩ := hm9 (hLt 9 zaI)
  have hv69_11:=hk11 (hLt 11 zaI)
  simp only [hLt 11 zaI,hLt 12 zaI,cond_true,List.nil_append,List.cons_append] at hO
  rw [hO] at S
  replace hq12:=hq12 (hLt 12 zaI)
  replace S:=S.pickZ (xo (l1:=[ze s43 r40.sub]) hp2 (xo (l1:=[ze s49 r46.1.sub]) hp9 (xo (l1:=[ze s53 r46.1.sub]) hq12 hZ)))
  clear hp2 hp9 hZ hm2 hm7 hm8 hm9
  refine wd (zi hv69_10) (zd (zb (zb (za (wd (zj rfl) ?_)))))
  obtain ⟨r70,er70,H⟩ := zp H
  obtain ⟨B72,MB72,SB72,back⟩ := S.calln 0 ((.nil))
  refine zB (zy yq) zaI (yr SB72 er70) ?_
  rintro _ w71 ⟨rfl,S2⟩
  replace S:=back _ _ _ _ S2 rfl
  clear back S2 SB72
  refine wd (zS rfl rfl) (zd ?_)
  refine zI rfl (fun hc73=>?_) (fun hc73=>?_)
  ·replace H:=if_t hc73 H
   refine x4 (za (wd (zj q37_11) (wd (yW rfl rfl) (wd (zi rfl) (zd ?_)))))
   replace S:=S.arr [1,2] [3,4,5,6,7,8,9,10,11]
   obtain rfl:=zaM H
   exact ⟨rfl,(by repeat first | exact Dif.refl _ _ | exact Dif.self _ _ _ | refine Dif.upd ?_ rfl _ | refine Dif.mask ?_ rfl _),(m37,IntKind.i64.wrap (x37_0 + 1)),⟨e37,rfl,S⟩,by dsimp only; omega⟩
  replace H:=if_f hc73 H
  refine zw (zb (za (wd (zq zT hv69_11 ((S.blk 0).all _ (Term.len _)) (Term.len _)) ?_)))
  obtain ⟨r74,er74,H⟩ := zp H
  obtain ⟨B76,MB76,SB76,back⟩ := S.sub [2] [] [oB b51 zk (tmC r46.1 s53),oB b31 zk (tmC r26.1 s29),oB b2 zk (tmC a1 s_1)]
  refine zB (zy ub) zaI (uQ (a0:=r46.1) SB76 er74) ?_
  rintro _ w75 ⟨s77,rfl,S2⟩
  replace S:=back _ _ _ _ _ S2 rfl rfl
  clear back S2 SB76
  obtain ⟨r78,er78,H⟩ := zp H
  obtain ⟨B80,MB80,SB80,back⟩ := S.sub [0] [] [oB b51 zk (tmC r46.1 s53),oB b31 zk (tmC r26.1 s29),oB b2 zk (tmC a1 s_1)]
  refine zB (zy ko) zaI (kw (a0:=r74) SB80 er78) ?_
  rintro _ w79 ⟨s81,rfl,S2⟩
  replace S:=back _ _ _ _ _ S2 rfl rfl
  clear back S2 SB80
  refine wd (xb rfl) (wd (zo rfl rfl) (wd (zo rfl rfl) ?_))
  refine zP xm zaI fun b83 w82 hw82=>?_
  replace S:=S.new hw82
  refine zU zT rfl rfl (S.blk 0) (Term.len _) (by rw [Term.len]; decide) (Term.one _) (xg (Term.len _)) fun w84 B hw84 zw84=>?_
  replace S:=S.store 0 B hw84
  clear B
  refine wd (zi rfl) (zd (zb (zb (za (wd (zj rfl) ?_)))))
  obtain ⟨r85,er85,H⟩ := zp H
  obtain ⟨B87,MB87,SB87,back⟩ := S.calln 0 ((.nil))
  refine zB (zy yq) zaI (yr SB87 er85) ?_
  rintro _ w86 ⟨rfl,S2⟩
  replace S:=back _ _ _ _ S2 rfl
  clear back S2 SB87
  refine wd (xt rfl rfl) (wd (zA rfl) ?_)
  refine wg (fun hg=>zj rfl) ?_
  obtain ⟨r88,er88,H⟩ := zp H
  refine xW (j:=3) (pol:=false) rfl rfl rfl zaI (fun hg=>zK yq (zQ (zn hg) rfl)) zaI (fun hg=>(have ⟨M,SS⟩ := S.lend ((.nil)); quiet (yr SS (if_t (by simpa using hg) er88)) (fun v w' h=>⟨h.1,_,_,h.2⟩))) fun w89 hw89=>?_
  replace S:=S.ext hw89
  refine wg (fun hg=>xt (zn hg) rfl) (wd (xy rfl (fun hp=>(zn (xr hp)))) (zd ?_))
  refine zI rfl (fun hc90=>?_) (fun hc90=>?_)
  ·replace H:=if_t hc90 H
   refine zb (za (wd (zh rfl) (zd (zt ?_))))
   refine ⟨_,(zO (zg rfl)),?_⟩
   replace S:=S.arr [] []
   obtain rfl:=zaM H
   obtain rfl:=e37
   obtain rfl:=v7 Ho37
   exact ⟨rfl,S⟩
  replace H:=if_f hc90 H
  refine zw (zb (za (wd (zq zT rfl ((S.blk 2).all _ (Term.len _)) (Term.len _)) ?_)))
  refine zP xm zaI fun b92 w91 hw91=>?_
  replace S:=S.new hw91
  refine zU zT rfl rfl (S.blk 0) (Term.len _) (by rw [Term.len]; decide) (Term.one _) (xg (Term.len _)) fun w93 B hw93 zw93=>?_
  replace S:=S.store 0 B hw93
  clear B
  refine zd (zb (zb ?_))
  obtain ⟨hi98,H⟩ := zV H
  obtain ⟨r100,er100,H⟩ := zp H
  obtain ⟨s99,S⟩ := S.viewL_intC 9 (zD hi98)
  replace S:=S.zs [2,3,4,5,6,7,8,9,10,11,12,13,14,15,16,17,0,1]
  refine yw 7 ⟨fun _ _=>True,fun _ _ _=>True,fun i v _=>match i with
   | 0=>v=Value.pointer a7
   | 1=>v=Value.agg (tmC a1 s_1).toArray
   | 2=>v=s15.v
   | 3=>v=Value.int .i64 x37_0
   | 4=>v=Value.pointer (some ⟨s15.blk,s15.off + Int.toNat x37_0 * 1,none⟩)
   | 5=>v=s99.v
   | _=>True⟩ (fun L g v => ∃ Z104:List OA,(∀ z ∈ [ze s81 r78.1.sub,ze s77 r74.sub,ze s43 r40.sub,ze s49 r46.1.sub,ze s53 r46.1.sub,oR a7 r3.2,oT a6 r3.1,ze s29 r26.1.sub,ze s25 r22.sub,zF s15 r12.1,ze s11 r8.sub,fS 4 Nd.C s_0 a0,ze s_1 a1.sub,oPw,oCl s15.blk (s15.off + Int.toNat x37_0 * 1) (L_int.C s45),fS 1 IC s45 (at_ [] r12.1 x37_0),oCl s15.blk (s15.off + Int.toNat x37_0 * 1) (L_int.C s99),fS 1 IC s99 (at_ [] r12.1 x37_0)],z ∈ Z104)∧Made L g Z104 6 94 (fun (c:SlV)=>Value.agg (tmC r100 c).toArray) (fun (c:SlV)=>[ze c r100.sub])∧St A N w v [oB b92 zk (tmC r26.1 s29),oB b83 zk (tmC r78.1 s81),oB b51 zk (tmC r46.1 s53),oB b31 zk (tmC r26.1 s29),oB b2 zk (tmC a1 s_1)] Z104) hmix zaL (fun _ _ _ _ _ _ _ hv=>hv) (fun g=>⟨_,fun _ h=>h,Made.no,S.ext (Ext.drawn _)⟩) ⟨?_,?_,?_,?_,?_,?_,?_,trivial⟩ ?_
  ·rintro L g v hL hcl hclo ⟨Z104,hZ,hm6,S⟩ 
   refine wd (zC rfl) ?_
   exact zd (ob4 trivial rfl ⟨_,hZ,hm6.keep rfl rfl tl0,S⟩)
  ·rintro L g v hL hcl hclo ⟨Z104,hZ,hm6,S⟩ 
   refine wd (zq zT rfl ((S.blk 4).all _ (Term.len _)) (Term.len _)) ?_
   exact zd (ob4 trivial rfl ⟨_,hZ,hm6.keep rfl rfl tl0,S⟩)
  ·rintro L g v hL hcl hclo ⟨Z104,hZ,hm6,S⟩ 
   refine wd (zN rfl) ?_
   exact zd (ob4 trivial rfl ⟨_,hZ,hm6.keep rfl rfl tl0,S⟩)
  ·rintro L g v hL hcl hclo ⟨Z104,hZ,hm6,S⟩ 
   refine wd (zj q37_11) ?_
   exact zd (ob4 trivial rfl ⟨_,hZ,hm6.keep rfl rfl tl0,S⟩)
  ·rintro L g v hL hcl hclo ⟨Z104,hZ,hm6,S⟩ hv2 hv3
   replace S:=(S.zneed hZ)
   refine wd (kf yv hv2 hv3 (S.onZ 9) (zD hi98).1 (zD hi98).2) ?_
   exact zd (ob4 trivial rfl ⟨_,(fun z h=>tl18 z (hZ z h)),hm6.keep rfl rfl tl18,S⟩)
  ·rintro L g v hL hcl hclo ⟨Z104,hZ,hm6,S⟩ hv4
   replace S:=(S.zneed hZ)
   refine wd (zm zab hv4 ((S.cl 16).get (i:=0) rfl)) ?_
   exact zd (ob4 trivial rfl ⟨_,(fun z h=>tl18 z (hZ z h)),hm6.keep rfl rfl tl18,S⟩)
  ·rintro L g v hL hcl hclo ⟨Z104,hZ,hm6,S⟩ hv1 hv5
   replace S:=(S.zneed hZ)
   obtain ⟨B109,MB109,SB109,back⟩ := S.sub [12,17] [] [oB b92 zk (tmC r26.1 s29),oB b83 zk (tmC r78.1 s81),oB b51 zk (tmC r46.1 s53),oB b31 zk (tmC r26.1 s29),oB b2 zk (tmC a1 s_1)]
   refine zB (zK ca_ref14_At (zQ hv1 (zQ hv5 rfl))) zaI (ref14_At_st (a0:=a1) SB109 er100) ?_
   rintro _ w108 ⟨s110,rfl,S2⟩
   replace S:=back _ _ _ _ _ S2 rfl rfl
   clear back S2 SB109
   exact zd (ob4 trivial trivial ⟨_,(fun z h=>tl19 z (hZ z h)),Made.one (val:=(fun (c:SlV)=>Value.agg (tmC r100 c).toArray)) (ps:=(fun (c:SlV)=>[ze c r100.sub])) s110 (xJ List.mem_cons_self x9),S⟩)
  rintro L g w111 hLm ⟨Z104,hZ,hm6,S⟩ hv112_0 hv112_1 hv112_2 hv112_3 hv112_4 hv112_5 _
  have hLt : ∀ j,j < 7→L j=true:=fun j hj=>by rw [hLm]; exact decide_eq_true hj
  obtain ⟨s103,hv112_6,hp6⟩ := hm6 (hLt 6 zaI)
  replace S:=S.pickZ (xo (l1:=[ze s103 r100.sub]) hp6 hZ)
  clear hp6 hZ hm6
  obtain ⟨r113,er113,H⟩ := zp H
  obtain ⟨B115,MB115,SB115,back⟩ := S.calln 0 ((.z 6 rfl (.z 0 rfl .nil)))
  refine zB (zK ca_ref14_Row (zQ hv112_0 (zQ hv112_6 rfl))) zaI (ref14_Row_st (a1:=r100) SB115 er113) ?_
  rintro _ w114 ⟨rfl,S2⟩
  replace S:=back _ _ _ _ S2 rfl
  clear back S2 SB115
  refine wd (xt rfl rfl) (zd ?_)
  refine zI rfl (fun hc116=>?_) (fun hc116=>?_)
  ·replace H:=if_t hc116 H
   refine zb ?_
   obtain ⟨r118,er118,H⟩ := zp H
   obtain ⟨hi122,H⟩ := zV H
   obtain ⟨r124,er124,H⟩ := zp H
   obtain ⟨r128,er128,H⟩ := zp H
   obtain ⟨s123,S⟩ := S.viewL_intC 10 (zD hi122)
   replace S:=S.zs [2,3,4,5,6,7,8,9,10,11,12,13,14,15,16,17,18,19,20,0,1]
   refine yw 15 ⟨fun _ _=>True,fun _ _ _=>True,fun i v _=>match i with
    | 0=>v=Value.pointer a6
    | 1=>v=Value.agg (tmC r26.1 s29).toArray
    | 3=>v=Value.agg (tmC a1 s_1).toArray
    | 4=>v=s15.v
    | 5=>v=Value.int .i64 x37_0
    | 6=>v=Value.pointer (some ⟨s15.blk,s15.off + Int.toNat x37_0 * 1,none⟩)
    | 7=>v=s123.v
    | 12=>v=Value.int .i64 r128.2
    | _=>True⟩ (fun L g v => ∃ b133:Nat,∃ s135:SlV,∃ O137:List OA,∃ Z136:List OA,(∀ z ∈ [ze s103 r100.sub,ze s81 r78.1.sub,ze s77 r74.sub,ze s43 r40.sub,ze s49 r46.1.sub,ze s53 r46.1.sub,oR a7 r3.2,oT a6 r3.1,ze s29 r26.1.sub,ze s25 r22.sub,zF s15 r12.1,ze s11 r8.sub,fS 4 Nd.C s_0 a0,ze s_1 a1.sub,oPw,oCl s15.blk (s15.off + Int.toNat x37_0 * 1) (L_int.C s45),fS 1 IC s45 (at_ [] r12.1 x37_0),oCl s15.blk (s15.off + Int.toNat x37_0 * 1) (L_int.C s99),fS 1 IC s99 (at_ [] r12.1 x37_0),oCl s15.blk (s15.off + Int.toNat x37_0 * 1) (L_int.C s123),fS 1 IC s123 (at_ [] r12.1 x37_0)],z ∈ Z136)∧Made L g Z136 2 100 (fun (c:SlV)=>Value.agg (tmC r118 c).toArray) (fun (c:SlV)=>[ze c r118.sub])∧Made L g Z136 8 106 (fun (c:SlV)=>c.v) (fun (c:SlV)=>[fS 1 IC c r124])∧Made L g Z136 9 107 (fun (c:SlV)=>Value.tuple #[.agg (tmC r128.1 c).toArray,.int .i64 r128.2]) (fun (c:SlV)=>[ze c r128.1.sub])∧Made L g Z136 10 97 (fun (c:SlV)=>Value.tuple #[.agg (tmC r128.1 c).toArray,.int .i64 r128.2]) (fun (c:SlV)=>[ze c r128.1.sub])∧Made L g Z136 11 108 (fun (c:SlV)=>Value.agg (tmC r128.1 c).toArray) (fun (c:SlV)=>[ze c r128.1.sub])∧(L 13=true→g 17=Value.pointer (some ⟨b133,0,none⟩))∧(L 14=true → ∀ z ∈ [ze s135 r128.1.sub],z ∈ Z136)∧O137=((bif L 14 then [oB b133 zk (tmC r128.1 s135)] else (bif L 13 then [oB b133 zk (Term.C tmZ)] else [])) ++ [oB b92 zk (tmC r26.1 s29),oB b83 zk (tmC r78.1 s81),oB b51 zk (tmC r46.1 s53),oB b31 zk (tmC r26.1 s29),oB b2 zk (tmC a1 s_1)])∧St A N w v O137 Z136) hmix zaL (fun _ _ _ _ _ _ _ hv=>hv) (fun g=>⟨0,SlV.nil,_,_,fun _ h=>h,Made.no,Made.no,Made.no,Made.no,Made.no,(fun h=>by cases h),(fun h=>by cases h),rfl,S.ext (Ext.drawn _)⟩) ⟨?_,?_,?_,?_,?_,?_,?_,?_,?_,?_,?_,?_,?_,?_,?_,trivial⟩ ?_
   ·rintro L g v hL hcl hclo ⟨b133,s135,O137,Z136,hZ,hm2,hm8,hm9,hm10,hm11,hk13,hq14,hO,S⟩ 
    have hl14:L 14=false:=by cases h:L 14 with | false=>rfl | true=>exact absurd (hclo 14 0 h zaL) (by rw [hL]; decide)
    have SR:St A N w v [oB b92 zk (tmC r26.1 s29),oB b83 zk (tmC r78.1 s81),oB b51 zk (tmC r46.1 s53),oB b31 zk (tmC r26.1 s29),oB b2 zk (tmC a1 s_1)] (ze s103 r100.sub :: ze s81 r78.1.sub :: ze s77 r74.sub :: ze s43 r40.sub :: ze s49 r46.1.sub :: ze s53 r46.1.sub :: oR a7 r3.2 :: oT a6 r3.1 :: ze s29 r26.1.sub :: ze s25 r22.sub :: zF s15 r12.1 :: ze s11 r8.sub :: fS 4 Nd.C s_0 a0 :: ze s_1 a1.sub :: oPw :: oCl s15.blk (s15.off + Int.toNat x37_0 * 1) (L_int.C s45) :: fS 1 IC s45 (at_ [] r12.1 x37_0) :: oCl s15.blk (s15.off + Int.toNat x37_0 * 1) (L_int.C s99) :: fS 1 IC s99 (at_ [] r12.1 x37_0) :: oCl s15.blk (s15.off + Int.toNat x37_0 * 1) (L_int.C s123) :: fS 1 IC s123 (at_ [] r12.1 x37_0) :: Z136):=by
     have S2:=S.zneed hZ
     rw [hO] at S2
     simp only [hl14,cond_true,cond_false,List.nil_append,List.append_assoc,List.cons_append] at S2
     exact S2.drops
    refine wd (zC rfl) ?_
    exact zd (ob4 trivial rfl ⟨b133,s135,O137,Z136,hZ,hm2.keep rfl rfl tl0,hm8.keep rfl rfl tl0,hm9.keep rfl rfl tl0,hm10.keep rfl rfl tl0,hm11.keep rfl rfl tl0,(fun h=>by rw [xi _ _ _ _ zaI]; exact hk13 (by rw [zG rfl] at h; exact h)),(fun h z q=>tl0 z (hq14 (by rw [zG rfl] at h; exact h) z q)),by rw [hO]; simp only [zG (L:=L) (i:=0) (j:=13) rfl,zG (L:=L) (i:=0) (j:=14) rfl],S⟩)
   ·rintro L g v hL hcl hclo ⟨b133,s135,O137,Z136,hZ,hm2,hm8,hm9,hm10,hm11,hk13,hq14,hO,S⟩ 
    have hl14:L 14=false:=by cases h:L 14 with | false=>rfl | true=>exact absurd (hclo 14 1 h zaL) (by rw [hL]; decide)
    have SR:St A N w v [oB b92 zk (tmC r26.1 s29),oB b83 zk (tmC r78.1 s81),oB b51 zk (tmC r46.1 s53),oB b31 zk (tmC r26.1 s29),oB b2 zk (tmC a1 s_1)] (ze s103 r100.sub :: ze s81 r78.1.sub :: ze s77 r74.sub :: ze s43 r40.sub :: ze s49 r46.1.sub :: ze s53 r46.1.sub :: oR a7 r3.2 :: oT a6 r3.1 :: ze s29 r26.1.sub :: ze s25 r22.sub :: zF s15 r12.1 :: ze s11 r8.sub :: fS 4 Nd.C s_0 a0 :: ze s_1 a1.sub :: oPw :: oCl s15.blk (s15.off + Int.toNat x37_0 * 1) (L_int.C s45) :: fS 1 IC s45 (at_ [] r12.1 x37_0) :: oCl s15.blk (s15.off + Int.toNat x37_0 * 1) (L_int.C s99) :: fS 1 IC s99 (at_ [] r12.1 x37_0) :: oCl s15.blk (s15.off + Int.toNat x37_0 * 1) (L_int.C s123) :: fS 1 IC s123 (at_ [] r12.1 x37_0) :: Z136):=by
     have S2:=S.zneed hZ
     rw [hO] at S2
     simp only [hl14,cond_true,cond_false,List.nil_append,List.append_assoc,List.cons_append] at S2
     exact S2.drops
    refine wd (zq zT rfl ((SR.blk 3).all _ (Term.len _)) (Term.len _)) ?_
    exact zd (ob4 trivial rfl ⟨b133,s135,O137,Z136,hZ,hm2.keep rfl rfl tl0,hm8.keep rfl rfl tl0,hm9.keep rfl rfl tl0,hm10.keep rfl rfl tl0,hm11.keep rfl rfl tl0,(fun h=>by rw [xi _ _ _ _ zaI]; exact hk13 (by rw [zG rfl] at h; exact h)),(fun h z q=>tl0 z (hq14 (by rw [zG rfl] at h; exact h) z q)),by rw [hO]; simp only [zG (L:=L) (i:=1) (j:=13) rfl,zG (L:=L) (i:=1) (j:=14) rfl],S⟩)
   ·rintro L g v hL hcl hclo ⟨b133,s135,O137,Z136,hZ,hm2,hm8,hm9,hm10,hm11,hk13,hq14,hO,S⟩ hv1
    have hl14:L 14=false:=by cases h:L 14 with | false=>rfl | true=>exact absurd (hclo 14 2 h zaL) (by rw [hL]; decide)
    replace S:=(S.zneed hZ)
    obtain ⟨B140,MB140,SB140,back⟩ := S.sub [8] [] (O137)
    refine zB (zK ub (zQ hv1 rfl)) zaI (uQ (a0:=r26.1) SB140 er118) ?_
    rintro _ w139 ⟨s141,rfl,S2⟩
    replace S:=back _ _ _ _ _ S2 rfl rfl
    clear back S2 SB140
    exact zd (ob4 trivial trivial ⟨b133,s135,O137,_,(fun z h=>tl22 z (hZ z h)),Made.one (val:=(fun (c:SlV)=>Value.agg (tmC r118 c).toArray)) (ps:=(fun (c:SlV)=>[ze c r118.sub])) s141 (xJ List.mem_cons_self x9),hm8.keep rfl rfl tl22,hm9.keep rfl rfl tl22,hm10.keep rfl rfl tl22,hm11.keep rfl rfl tl22,(fun h=>by rw [xi _ _ _ _ zaI]; exact hk13 (by rw [zG rfl] at h; exact h)),(fun h z q=>tl22 z (hq14 (by rw [zG rfl] at h; exact h) z q)),by rw [hO]; simp only [zG (L:=L) (i:=2) (j:=13) rfl,zG (L:=L) (i:=2) (j:=14) rfl],S⟩)
   ·rintro L g v hL hcl hclo ⟨b133,s135,O137,Z136,hZ,hm2,hm8,hm9,hm10,hm11,hk13,hq14,hO,S⟩ 
    have hl14:L 14=false:=by cases h:L 14 with | false=>rfl | true=>exact absurd (hclo 14 3 h zaL) (by rw [hL]; decide)
    have SR:St A N w v [oB b92 zk (tmC r26.1 s29),oB b83 zk (tmC r78.1 s81),oB b51 zk (tmC r46.1 s53),oB b31 zk (tmC r26.1 s29),oB b2 zk (tmC a1 s_1)] (ze s103 r100.sub :: ze s81 r78.1.sub :: ze s77 r74.sub :: ze s43 r40.sub :: ze s49 r46.1.sub :: ze s53 r46.1.sub :: oR a7 r3.2 :: oT a6 r3.1 :: ze s29 r26.1.sub :: ze s25 r22.sub :: zF s15 r12.1 :: ze s11 r8.sub :: fS 4 Nd.C s_0 a0 :: ze s_1 a1.sub :: oPw :: oCl s15.blk (s15.off + Int.toNat x37_0 * 1) (L_int.C s45) :: fS 1 IC s45 (at_ [] r12.1 x37_0) :: oCl s15.blk (s15.off + Int.toNat x37_0 * 1) (L_int.C s99) :: fS 1 IC s99 (at_ [] r12.1 x37_0) :: oCl s15.blk (s15.off + Int.toNat x37_0 * 1) (L_int.C s123) :: fS 1 IC s123 (at_ [] r12.1 x37_0) :: Z136):=by
     have S2:=S.zneed hZ
     rw [hO] at S2
     simp only [hl14,cond_true,cond_false,List.nil_append,List.append_assoc,List.cons_append] at S2
     exact S2.drops
    refine wd (zq zT rfl ((SR.blk 4).all _ (Term.len _)) (Term.len _)) ?_
    exact zd (ob4 trivial rfl ⟨b133,s135,O137,Z136,hZ,hm2.keep rfl rfl tl0,hm8.keep rfl rfl tl0,hm9.keep rfl rfl tl0,hm10.keep rfl rfl tl0,hm11.keep rfl rfl tl0,(fun h=>by rw [xi _ _ _ _ zaI]; exact hk13 (by rw [zG rfl] at h; exact h)),(fun h z q=>tl0 z (hq14 (by rw [zG rfl] at h; exact h) z q)),by rw [hO]; simp only [zG (L:=L) (i:=3) (j:=13) rfl,zG (L:=L) (i:=3) (j:=14) rfl],S⟩)
   ·rintro L g v hL hcl hclo ⟨b133,s135,O137,Z136,hZ,hm2,hm8,hm9,hm10,hm11,hk13,hq14,hO,S⟩ 
    have hl14:L 14=false:=by cases h:L 14 with | false=>rfl | true=>exact absurd (hclo 14 4 h zaL) (by rw [hL]; decide)
    have SR:St A N w v [oB b92 zk (tmC r26.1 s29),oB b83 zk (tmC r78.1 s81),oB b51 zk (tmC r46.1 s53),oB b31 zk (tmC r26.1 s29),oB b2 zk (tmC a1 s_1)] (ze s103 r100.sub :: ze s81 r78.1.sub :: ze s77 r74.sub :: ze s43 r40.sub :: ze s49 r46.1.sub :: ze s53 r46.1.sub :: oR a7 r3.2 :: oT a6 r3.1 :: ze s29 r26.1.sub :: ze s25 r22.sub :: zF s15 r12.1 :: ze s11 r8.sub :: fS 4 Nd.C s_0 a0 :: ze s_1 a1.sub :: oPw :: oCl s15.blk (s15.off + Int.toNat x37_0 * 1) (L_int.C s45) :: fS 1 IC s45 (at_ [] r12.1 x37_0) :: oCl s15.blk (s15.off + Int.toNat x37_0 * 1) (L_int.C s99) :: fS 1 IC s99 (at_ [] r12.1 x37_0) :: oCl s15.blk (s15.off + Int.toNat x37_0 * 1) (L_int.C s123) :: fS 1 IC s123 (at_ [] r12.1 x37_0) :: Z136):=by
     have S2:=S.zneed hZ
     rw [hO] at S2
     simp only [hl14,cond_true,cond_false,List.nil_append,List.append_assoc,List.cons_append] at S2
     exact S2.drops
    refine wd (zN rfl) ?_
    exact zd (ob4 trivial rfl ⟨b133,s135,O137,Z136,hZ,hm2.keep rfl rfl tl0,hm8.keep rfl rfl tl0,hm9.keep rfl rfl tl0,hm10.keep rfl rfl tl0,hm11.keep rfl rfl tl0,(fun h=>by rw [xi _ _ _ _ zaI]; exact hk13 (by rw [zG rfl] at h; exact h)),(fun h z q=>tl0 z (hq14 (by rw [zG rfl] at h; exact h) z q)),by rw [hO]; simp only [zG (L:=L) (i:=4) (j:=13) rfl,zG (L:=L) (i:=4) (j:=14) rfl],S⟩)
   ·rintro L g v hL hcl hclo ⟨b133,s135,O137,Z136,hZ,hm2,hm8,hm9,hm10,hm11,hk13,hq14,hO,S⟩ 
    have hl14:L 14=false:=by cases h:L 14 with | false=>rfl | true=>exact absurd (hclo 14 5 h zaL) (by rw [hL]; decide)
    have SR:St A N w v [oB b92 zk (tmC r26.1 s29),oB b83 zk (tmC r78.1 s81),oB b51 zk (tmC r46.1 s53),oB b31 zk (tmC r26.1 s29),oB b2 zk (tmC a1 s_1)] (ze s103 r100.sub :: ze s81 r78.1.sub :: ze s77 r74.sub :: ze s43 r40.sub :: ze s49 r46.1.sub :: ze s53 r46.1.sub :: oR a7 r3.2 :: oT a6 r3.1 :: ze s29 r26.1.sub :: ze s25 r22.sub :: zF s15 r12.1 :: ze s11 r8.sub :: fS 4 Nd.C s_0 a0 :: ze s_1 a1.sub :: oPw :: oCl s15.blk (s15.off + Int.toNat x37_0 * 1) (L_int.C s45) :: fS 1 IC s45 (at_ [] r12.1 x37_0) :: oCl s15.blk (s15.off + Int.toNat x37_0 * 1) (L_int.C s99) :: fS 1 IC s99 (at_ [] r12.1 x37_0) :: oCl s15.blk (s15.off + Int.toNat x37_0 * 1) (L_int.C s123) :: fS 1 IC s123 (at_ [] r12.1 x37_0) :: Z136):=by
     have S2:=S.zneed hZ
     rw [hO] at S2
     simp only [hl14,cond_true,cond_false,List.nil_append,List.append_assoc,List.cons_append] at S2
     exact S2.drops
    refine wd (zj q37_11) ?_
    exact zd (ob4 trivial rfl ⟨b133,s135,O137,Z136,hZ,hm2.keep rfl rfl tl0,hm8.keep rfl rfl tl0,hm9.keep rfl rfl tl0,hm10.keep rfl rfl tl0,hm11.keep rfl rfl tl0,(fun h=>by rw [xi _ _ _ _ zaI]; exact hk13 (by rw [zG rfl] at h; exact h)),(fun h z q=>tl0 z (hq14 (by rw [zG rfl] at h; exact h) z q)),by rw [hO]; simp only [zG (L:=L) (i:=5) (j:=13) rfl,zG (L:=L) (i:=5) (j:=14) rfl],S⟩)
   ·rintro L g v hL hcl hclo ⟨b133,s135,O137,Z136,hZ,hm2,hm8,hm9,hm10,hm11,hk13,hq14,hO,S⟩ hv4 hv5
    have hl14:L 14=false:=by cases h:L 14 with | false=>rfl | true=>exact absurd (hclo 14 6 h zaL) (by rw [hL]; decide)
    have SR:St A N w v [oB b92 zk (tmC r26.1 s29),oB b83 zk (tmC r78.1 s81),oB b51 zk (tmC r46.1 s53),oB b31 zk (tmC r26.1 s29),oB b2 zk (tmC a1 s_1)] (ze s103 r100.sub :: ze s81 r78.1.sub :: ze s77 r74.sub :: ze s43 r40.sub :: ze s49 r46.1.sub :: ze s53 r46.1.sub :: oR a7 r3.2 :: oT a6 r3.1 :: ze s29 r26.1.sub :: ze s25 r22.sub :: zF s15 r12.1 :: ze s11 r8.sub :: fS 4 Nd.C s_0 a0 :: ze s_1 a1.sub :: oPw :: oCl s15.blk (s15.off + Int.toNat x37_0 * 1) (L_int.C s45) :: fS 1 IC s45 (at_ [] r12.1 x37_0) :: oCl s15.blk (s15.off + Int.toNat x37_0 * 1) (L_int.C s99) :: fS 1 IC s99 (at_ [] r12.1 x37_0) :: oCl s15.blk (s15.off + Int.toNat x37_0 * 1) (L_int.C s123) :: fS 1 IC s123 (at_ [] r12.1 x37_0) :: Z136):=by
     have S2:=S.zneed hZ
     rw [hO] at S2
     simp only [hl14,cond_true,cond_false,List.nil_append,List.append_assoc,List.cons_append] at S2
     exact S2.drops
    refine wd (kf yv hv4 hv5 (SR.onZ 10) (zD hi122).1 (zD hi122).2) ?_
    exact zd (ob4 trivial rfl ⟨b133,s135,O137,Z136,hZ,hm2.keep rfl rfl tl0,hm8.keep rfl rfl tl0,hm9.keep rfl rfl tl0,hm10.keep rfl rfl tl0,hm11.keep rfl rfl tl0,(fun h=>by rw [xi _ _ _ _ zaI]; exact hk13 (by rw [zG rfl] at h; exact h)),(fun h z q=>tl0 z (hq14 (by rw [zG rfl] at h; exact h) z q)),by rw [hO]; simp only [zG (L:=L) (i:=6) (j:=13) rfl,zG (L:=L) (i:=6) (j:=14) rfl],S⟩)
   ·rintro L g v hL hcl hclo ⟨b133,s135,O137,Z136,hZ,hm2,hm8,hm9,hm10,hm11,hk13,hq14,hO,S⟩ hv6
    have hl14:L 14=false:=by cases h:L 14 with | false=>rfl | true=>exact absurd (hclo 14 7 h zaL) (by rw [hL]; decide)
    have SR:St A N w v [oB b92 zk (tmC r26.1 s29),oB b83 zk (tmC r78.1 s81),oB b51 zk (tmC r46.1 s53),oB b31 zk (tmC r26.1 s29),oB b2 zk (tmC a1 s_1)] (ze s103 r100.sub :: ze s81 r78.1.sub :: ze s77 r74.sub :: ze s43 r40.sub :: ze s49 r46.1.sub :: ze s53 r46.1.sub :: oR a7 r3.2 :: oT a6 r3.1 :: ze s29 r26.1.sub :: ze s25 r22.sub :: zF s15 r12.1 :: ze s11 r8.sub :: fS 4 Nd.C s_0 a0 :: ze s_1 a1.sub :: oPw :: oCl s15.blk (s15.off + Int.toNat x37_0 * 1) (L_int.C s45) :: fS 1 IC s45 (at_ [] r12.1 x37_0) :: oCl s15.blk (s15.off + Int.toNat x37_0 * 1) (L_int.C s99) :: fS 1 IC s99 (at_ [] r12.1 x37_0) :: oCl s15.blk (s15.off + Int.toNat x37_0 * 1) (L_int.C s123) :: fS 1 IC s123 (at_ [] r12.1 x37_0) :: Z136):=by
     have S2:=S.zneed hZ
     rw [hO] at S2
     simp only [hl14,cond_true,cond_false,List.nil_append,List.append_assoc,List.cons_append] at S2
     exact S2.drops
    refine wd (zm zab hv6 ((SR.cl 19).get (i:=0) rfl)) ?_
    exact zd (ob4 trivial rfl ⟨b133,s135,O137,Z136,hZ,hm2.keep rfl rfl tl0,hm8.keep rfl rfl tl0,hm9.keep rfl rfl tl0,hm10.keep rfl rfl tl0,hm11.keep rfl rfl tl0,(fun h=>by rw [xi _ _ _ _ zaI]; exact hk13 (by rw [zG rfl] at h; exact h)),(fun h z q=>tl0 z (hq14 (by rw [zG rfl] at h; exact h) z q)),by rw [hO]; simp only [zG (L:=L) (i:=7) (j:=13) rfl,zG (L:=L) (i:=7) (j:=14) rfl],S⟩)
   ·rintro L g v hL hcl hclo ⟨b133,s135,O137,Z136,hZ,hm2,hm8,hm9,hm10,hm11,hk13,hq14,hO,S⟩ hv3 hv7
    have hl14:L 14=false:=by cases h:L 14 with | false=>rfl | true=>exact absurd (hclo 14 8 h zaL) (by rw [hL]; decide)
    replace S:=(S.zneed hZ)
    obtain ⟨B145,MB145,SB145,back⟩ := S.sub [13,20] [] (O137)
    refine zB (zK ca_ref14_Bare (zQ hv3 (zQ hv7 rfl))) zaI (ref14_Bare_st (a0:=a1) SB145 er124) ?_
    rintro _ w144 ⟨s146,rfl,S2⟩
    replace S:=back _ _ _ _ _ S2 rfl rfl
    clear back S2 SB145
    exact zd (ob4 trivial trivial ⟨b133,s135,O137,_,(fun z h=>tl22 z (hZ z h)),hm2.keep rfl rfl tl22,Made.one (val:=(fun (c:SlV)=>c.v)) (ps:=(fun (c:SlV)=>[fS 1 IC c r124])) s146 (xJ List.mem_cons_self x9),hm9.keep rfl rfl tl22,hm10.keep rfl rfl tl22,hm11.keep rfl rfl tl22,(fun h=>by rw [xi _ _ _ _ zaI]; exact hk13 (by rw [zG rfl] at h; exact h)),(fun h z q=>tl22 z (hq14 (by rw [zG rfl] at h; exact h) z q)),by rw [hO]; simp only [zG (L:=L) (i:=8) (j:=13) rfl,zG (L:=L) (i:=8) (j:=14) rfl],S⟩)
   ·rintro L g v hL hcl hclo ⟨b133,s135,O137,Z136,hZ,hm2,hm8,hm9,hm10,hm11,hk13,hq14,hO,S⟩ hv0 _ _
    obtain ⟨s121,he2,hp2⟩ := hm2 (hcl 2 zaL)
    obtain ⟨s127,he8,hp8⟩ := hm8 (hcl 8 zaL)
    have hl14:L 14=false:=by cases h:L 14 with | false=>rfl | true=>exact absurd (hclo 14 9 h zaL) (by rw [hL]; decide)
    replace S:=(S.zneed (xo (l1:=[ze s121 r118.sub]) hp2 (xo (l1:=[fS 1 IC s127 r124]) hp8 hZ)))
    obtain ⟨B149,MB149,SB149,back⟩ := S.sub [9,0,1,16] [] (O137)
    refine zB (zK kH (zQ hv0 (zQ he2 (zQ he8 rfl)))) zaI (kJ (a1:=r118) SB149 er128) ?_
    rintro _ w148 ⟨s150,rfl,S2⟩
    replace S:=back _ _ _ _ _ S2 rfl rfl
    clear back S2 SB149
    exact zd (ob4 trivial trivial ⟨b133,s135,O137,_,(fun z h=>tl24 z (hZ z h)),hm2.keep rfl rfl tl24,hm8.keep rfl rfl tl24,Made.one (val:=(fun (c:SlV)=>Value.tuple #[.agg (tmC r128.1 c).toArray,.int .i64 r128.2])) (ps:=(fun (c:SlV)=>[ze c r128.1.sub])) s150 (xJ List.mem_cons_self x9),hm10.keep rfl rfl tl24,hm11.keep rfl rfl tl24,(fun h=>by rw [xi _ _ _ _ zaI]; exact hk13 (by rw [zG rfl] at h; exact h)),(fun h z q=>tl24 z (hq14 (by rw [zG rfl] at h; exact h) z q)),by rw [hO]; simp only [zG (L:=L) (i:=9) (j:=13) rfl,zG (L:=L) (i:=9) (j:=14) rfl],S⟩)
   ·rintro L g v hL hcl hclo ⟨b133,s135,O137,Z136,hZ,hm2,hm8,hm9,hm10,hm11,hk13,hq14,hO,S⟩ _
    obtain ⟨s131,he9,hp9⟩ := hm9 (hcl 9 zaL)
    have hl14:L 14=false:=by cases h:L 14 with | false=>rfl | true=>exact absurd (hclo 14 10 h zaL) (by rw [hL]; decide)
    replace S:=(S.zneed (xo (l1:=[ze s131 r128.1.sub]) hp9 hZ))
    refine wd (xb he9) ?_
    exact zd (ob4 trivial trivial ⟨b133,s135,O137,_,(fun z h=>tl22 z (hZ z h)),hm2.keep rfl rfl tl22,hm8.keep rfl rfl tl22,hm9.keep rfl rfl tl22,Made.one (val:=(fun (c:SlV)=>Value.tuple #[.agg (tmC r128.1 c).toArray,.int .i64 r128.2])) (ps:=(fun (c:SlV)=>[ze c r128.1.sub])) s131 (xJ List.mem_cons_self x9),hm11.keep rfl rfl tl22,(fun h=>by rw [xi _ _ _ _ zaI]; exact hk13 (by rw [zG rfl] at h; exact h)),(fun h z q=>tl22 z (hq14 (by rw [zG rfl] at h; exact h) z q)),by rw [hO]; simp only [zG (L:=L) (i:=10) (j:=13) rfl,zG (L:=L) (i:=10) (j:=14) rfl],S⟩)
   ·rintro L g v hL hcl hclo ⟨b133,s135,O137,Z136,hZ,hm2,hm8,hm9,hm10,hm11,hk13,hq14,hO,S⟩ _
    obtain ⟨s131,he10,hp10⟩ := hm10 (hcl 10 zaL)
    have hl14:L 14=false:=by cases h:L 14 with | false=>rfl | true=>exact absurd (hclo 14 11 h zaL) (by rw [hL]; decide)
    replace S:=(S.zneed (xo (l1:=[ze s131 r128.1.sub]) hp10 hZ))
    refine wd (zo he10 rfl) ?_
    exact zd (ob4 trivial trivial ⟨b133,s135,O137,_,(fun z h=>tl22 z (hZ z h)),hm2.keep rfl rfl tl22,hm8.keep rfl rfl tl22,hm9.keep rfl rfl tl22,hm10.keep rfl rfl tl22,Made.one (val:=(fun (c:SlV)=>Value.agg (tmC r128.1 c).toArray)) (ps:=(fun (c:SlV)=>[ze c r128.1.sub])) s131 (xJ List.mem_cons_self x9),(fun h=>by rw [xi _ _ _ _ zaI]; exact hk13 (by rw [zG rfl] at h; exact h)),(fun h z q=>tl22 z (hq14 (by rw [zG rfl] at h; exact h) z q)),by rw [hO]; simp only [zG (L:=L) (i:=11) (j:=13) rfl,zG (L:=L) (i:=11) (j:=14) rfl],S⟩)
   ·rintro L g v hL hcl hclo ⟨b133,s135,O137,Z136,hZ,hm2,hm8,hm9,hm10,hm11,hk13,hq14,hO,S⟩ _
    obtain ⟨s131,he10,hp10⟩ := hm10 (hcl 10 zaL)
    have SR:St A N w v [oB b92 zk (tmC r26.1 s29),oB b83 zk (tmC r78.1 s81),oB b51 zk (tmC r46.1 s53),oB b31 zk (tmC r26.1 s29),oB b2 zk (tmC a1 s_1)] (ze s131 r128.1.sub :: ze s103 r100.sub :: ze s81 r78.1.sub :: ze s77 r74.sub :: ze s43 r40.sub :: ze s49 r46.1.sub :: ze s53 r46.1.sub :: oR a7 r3.2 :: oT a6 r3.1 :: ze s29 r26.1.sub :: ze s25 r22.sub :: zF s15 r12.1 :: ze s11 r8.sub :: fS 4 Nd.C s_0 a0 :: ze s_1 a1.sub :: oPw :: oCl s15.blk (s15.off + Int.toNat x37_0 * 1) (L_int.C s45) :: fS 1 IC s45 (at_ [] r12.1 x37_0) :: oCl s15.blk (s15.off + Int.toNat x37_0 * 1) (L_int.C s99) :: fS 1 IC s99 (at_ [] r12.1 x37_0) :: oCl s15.blk (s15.off + Int.toNat x37_0 * 1) (L_int.C s123) :: fS 1 IC s123 (at_ [] r12.1 x37_0) :: Z136):=by
     have S2:=S.zneed (xo (l1:=[ze s131 r128.1.sub]) hp10 hZ)
     rw [hO] at S2
     exact S2.drops
    refine wd (zo he10 rfl) ?_
    exact zd (ob4 trivial rfl ⟨b133,s135,O137,Z136,hZ,hm2.keep rfl rfl tl0,hm8.keep rfl rfl tl0,hm9.keep rfl rfl tl0,hm10.keep rfl rfl tl0,hm11.keep rfl rfl tl0,(fun h=>by rw [xi _ _ _ _ zaI]; exact hk13 (by rw [zG rfl] at h; exact h)),(fun h z q=>tl0 z (hq14 (by rw [zG rfl] at h; exact h) z q)),by rw [hO]; simp only [zG (L:=L) (i:=12) (j:=13) rfl,zG (L:=L) (i:=12) (j:=14) rfl],S⟩)
   ·rintro L g v hL hcl hclo ⟨b133,s135,O137,Z136,hZ,hm2,hm8,hm9,hm10,hm11,hk13,hq14,hO,S⟩ 
    have hl13:L 13=false:=hL
    have hl14:L 14=false:=by cases h:L 14 with | false=>rfl | true=>exact absurd (hclo 14 13 h zaL) (by rw [hL]; decide)
    have hOP : ∃ P Y,P=[]∧Y=[oB b92 zk (tmC r26.1 s29),oB b83 zk (tmC r78.1 s81),oB b51 zk (tmC r46.1 s53),oB b31 zk (tmC r26.1 s29),oB b2 zk (tmC a1 s_1)]∧O137=P ++ ([] ++ Y):=⟨_,_,rfl,rfl,by rw [hO]; simp only [hl13,hl14,cond_true,cond_false,List.nil_append,List.append_assoc,List.cons_append]⟩
    obtain ⟨P,Y,hP,hY,hPY⟩ := hOP
    rw [hPY] at S
    replace S:=S
    refine zP xm zaI fun b152 w151 hw151=>?_
    replace S:=S.new hw151
    refine zd (ob4 trivial trivial ⟨b152,s135,P ++ ([oB b152 zk (Term.C tmZ)] ++ Y),_,hZ,hm2.keep rfl rfl tl0,hm8.keep rfl rfl tl0,hm9.keep rfl rfl tl0,hm10.keep rfl rfl tl0,hm11.keep rfl rfl tl0,(fun _=>upd_same _ _ _),(fun h z q=>tl0 z (hq14 (by rw [zG rfl] at h; exact h) z q)),?_,S.ins (P:=[oB b152 zk (Term.C tmZ)])⟩)
    rw [hP,hY]; simp only [zG (L:=L) (i:=13) (j:=14) rfl,xM (L:=L) (i:=13),hl14,cond_true,cond_false,List.nil_append,List.append_assoc,List.cons_append]
   ·rintro L g v hL hcl hclo ⟨b133,s135,O137,Z136,hZ,hm2,hm8,hm9,hm10,hm11,hk13,hq14,hO,S⟩ _ _
    obtain ⟨s131,he11,hp11⟩ := hm11 (hcl 11 zaL)
    have hl13:L 13=true:=hcl 13 zaL
    have hl14:L 14=false:=hL
    have hOP : ∃ P Y,P=[]∧Y=[oB b92 zk (tmC r26.1 s29),oB b83 zk (tmC r78.1 s81),oB b51 zk (tmC r46.1 s53),oB b31 zk (tmC r26.1 s29),oB b2 zk (tmC a1 s_1)]∧O137=P ++ ([oB b133 zk (Term.C tmZ)] ++ Y):=⟨_,_,rfl,rfl,by rw [hO]; simp only [hl13,hl14,cond_true,cond_false,List.nil_append,List.append_assoc,List.cons_append]⟩
    obtain ⟨P,Y,hP,hY,hPY⟩ := hOP
    rw [hPY] at S
    replace S:=(S.ins.zneed (xo (l1:=[ze s131 r128.1.sub]) hp11 hZ))
    refine zU zT (hk13 (hcl 13 zaL)) he11 (S.blk 0) (Term.len _) (by rw [Term.len]; decide) (Term.one _) (xg (Term.len _)) fun w153 B hw153 zw153=>?_
    replace S:=S.store 0 B hw153
    clear B
    refine zd (ob40 trivial (fun _=>trivial) ⟨b133,s131,P ++ ([oB b133 zk (tmC r128.1 s131)] ++ Y),_,(fun z h=>tl22 z (hZ z h)),hm2.keep0 rfl tl22,hm8.keep0 rfl tl22,hm9.keep0 rfl tl22,hm10.keep0 rfl tl22,hm11.keep0 rfl tl22,(fun h=>hk13 (by rw [zG rfl] at h; exact h)),(fun _ z q=>tl22 z (hp11 z q)),?_,S.ins (P:=[oB b133 zk (tmC r128.1 s131)])⟩)
    rw [hP,hY]; simp only [zG (L:=L) (i:=14) (j:=13) rfl,xM (L:=L) (i:=14),hl13,cond_true,cond_false,List.nil_append,List.append_assoc,List.cons_append]
   rintro L g w154 hLm ⟨b133,s135,O137,Z136,hZ,hm2,hm8,hm9,hm10,hm11,hk13,hq14,hO,S⟩ hv155_0 hv155_1 _ hv155_3 hv155_4 hv155_5 hv155_6 hv155_7 _ _ _ _ hv155_12 _ _
   have hLt : ∀ j,j < 15→L j=true:=fun j hj=>by rw [hLm]; exact decide_eq_true hj
   obtain ⟨s121,hv155_2,hp2⟩ := hm2 (hLt 2 zaI)
   obtain ⟨s127,hv155_8,hp8⟩ := hm8 (hLt 8 zaI)
   obtain ⟨s131,hv155_11,hp11⟩ := hm11 (hLt 11 zaI)
   have hv155_13:=hk13 (hLt 13 zaI)
   simp only [hLt 13 zaI,hLt 14 zaI,cond_true,List.nil_append,List.cons_append] at hO
   rw [hO] at S
   replace hq14:=hq14 (hLt 14 zaI)
   replace S:=S.pickZ (xo (l1:=[ze s121 r118.sub]) hp2 (xo (l1:=[fS 1 IC s127 r124]) hp8 (xo (l1:=[ze s131 r128.1.sub]) hp11 (xo (l1:=[ze s135 r128.1.sub]) hq14 hZ))))
   clear hp2 hp8 hp11 hZ hm2 hm8 hm9 hm10 hm11
   refine wd (zi hv155_12) (zd (zb (zb (za (wd (zj rfl) ?_)))))
   obtain ⟨r156,er156,H⟩ := zp H
   obtain ⟨B158,MB158,SB158,back⟩ := S.calln 0 ((.nil))
   refine zB (zy yq) zaI (yr SB158 er156) ?_
   rintro _ w157 ⟨rfl,S2⟩
   replace S:=back _ _ _ _ S2 rfl
   clear back S2 SB158
   refine wd (xt rfl rfl) (zd ?_)
   refine zI rfl (fun hc159=>?_) (fun hc159=>?_)
   ·replace H:=if_t hc159 H
    refine zb (za (wd (zh rfl) (zd (zt ?_))))
    refine ⟨_,(zO (zg rfl)),?_⟩
    replace S:=S.arr [] []
    obtain rfl:=zaM H
    obtain rfl:=e37
    obtain rfl:=v7 Ho37
    exact ⟨rfl,S⟩
   replace H:=if_f hc159 H
   refine zw (za (wd (zq zT hv155_13 ((S.blk 0).all _ (Term.len _)) (Term.len _)) ?_))
   refine zU zT rfl rfl (S.blk 1) (Term.len _) (by rw [Term.len]; decide) (Term.one _) (xg (Term.len _)) fun w160 B hw160 zw160=>?_
   replace S:=S.store 1 B hw160
   clear B
   refine zd (zb (za (wd (zq zT rfl ((S.blk 2).all _ (Term.len _)) (Term.len _)) (wd (zq zT rfl ((S.blk 0).all _ (Term.len _)) (Term.len _)) ?_))))
   obtain ⟨r161,er161,H⟩ := zp H
   obtain ⟨B163,MB163,SB163,back⟩ := S.calln 0 ((.z 5 rfl (.z 3 rfl .nil)))
   refine zB (zy ca_term_Alpha) zaI (term_Alpha_st (a0:=r78.1) (a1:=r128.1) SB163 er161) ?_
   rintro _ w162 ⟨rfl,S2⟩
   replace S:=back _ _ _ _ S2 rfl
   clear back S2 SB163
   refine wd (xj rfl) (zd ?_)
   refine zI rfl (fun hc164=>?_) (fun hc164=>?_)
   ·replace H:=if_t hc164 H
    refine zb (za (wd (zh rfl) (zd (zt ?_))))
    refine ⟨_,(zO (zg rfl)),?_⟩
    replace S:=S.arr [] []
    obtain rfl:=zaM H
    obtain rfl:=e37
    obtain rfl:=v7 Ho37
    exact ⟨rfl,S⟩
   replace H:=if_f hc164 H
   refine zw (za (wd (zj q37_11) (wd (yW rfl rfl) (wd (zi rfl) (zd ?_)))))
   replace S:=S.arr [4,5] [10,11,12,13,14,15,16,17,18]
   obtain rfl:=zaM H
   exact ⟨rfl,(by repeat first | exact Dif.refl _ _ | exact Dif.self _ _ _ | refine Dif.upd ?_ rfl _ | refine Dif.mask ?_ rfl _),(m37,IntKind.i64.wrap (x37_0 + 1)),⟨e37,rfl,S⟩,by dsimp only; omega⟩
  ·replace H:=if_f hc116 H
   refine zw (zb (za (wd (zq zT rfl ((S.blk 1).all _ (Term.len _)) (Term.len _)) (wd (zq zT rfl ((S.blk 0).all _ (Term.len _)) (Term.len _)) ?_))))
   obtain ⟨r165,er165,H⟩ := zp H
   obtain ⟨B167,MB167,SB167,back⟩ := S.calln 0 ((.z 1 rfl (.z 8 rfl .nil)))
   refine zB (zy ca_term_Alpha) zaI (term_Alpha_st (a0:=r78.1) (a1:=r26.1) SB167 er165) ?_
   rintro _ w166 ⟨rfl,S2⟩
   replace S:=back _ _ _ _ S2 rfl
   clear back S2 SB167
   refine wd (xj rfl) (zd ?_)
   refine zI rfl (fun hc168=>?_) (fun hc168=>?_)
   ·replace H:=if_t hc168 H
    refine zb (za (wd (zh rfl) (zd (zt ?_))))
    refine ⟨_,(zO (zg rfl)),?_⟩
    replace S:=S.arr [] []
    obtain rfl:=zaM H
    obtain rfl:=e37
    obtain rfl:=v7 Ho37
    exact ⟨rfl,S⟩
   replace H:=if_f hc168 H
   refine zw (za (wd (zj q37_11) (wd (yW rfl rfl) (wd (zi rfl) (zd ?_)))))
   replace S:=S.arr [3,4] [6,7,8,9,10,11,12,13,14]
   obtain rfl:=zaM H
   exact ⟨rfl,(by repeat first | exact Dif.refl _ _ | exact Dif.self _ _ _ | refine Dif.upd ?_ rfl _ | refine Dif.mask ?_ rfl _),(m37,IntKind.i64.wrap (x37_0 + 1)),⟨e37,rfl,S⟩,by dsimp only; omega⟩
 rintro g169 u170 ⟨s37,rfl,p37_11,S⟩
 have H:=Ho37
 dsimp only [aft] at H
 refine zb (za ?_)
 obtain ⟨r171,er171,H⟩ := zp H
 obtain ⟨B173,MB173,SB173,back⟩ := S.calln 0 ((.z 8 rfl .nil))
 refine zB (zy ca_law14_heads) zaI (law14_heads_st SB173 er171) ?_
 rintro _ w172 ⟨rfl,S2⟩
 replace S:=back _ _ _ _ S2 rfl
 clear back S2 SB173
 refine wd (zh rfl) (zd (zt ?_))
 refine ⟨_,(zO (zg rfl)),?_⟩
 replace S:=S.arr [] []
 obtain rfl:=zaM H
 exact ⟨rfl,S⟩
end
section
open Gw
theorem forN_find {σ ρ:Type} {b:Int→σ→Option (Stp σ ρ)} {p:Nat→Bool} {r:Nat→ρ} : ∀ (n i:Nat) (s:σ),(∀ j:Nat,i ≤ j→j < i + n→b j s=some (if p j then .ret (r j) else .go s))→forN b n i s=some (match (List.range' i n).find? p with | some j => .inr (r j) | none => .inl s)
 | 0,i,s,_=>rfl
 | n + 1,i,s,h=>by
  rw [forN,h i (Nat.le_refl _) zaJ,List.range'_succ]
  cases hp:p i with
  | true=>simp [hp,List.find?_cons]
  | false =>
   have:=forN_find n (i + 1) s fun j h1 h2=>h j zaJ zaJ
   simpa [hp,List.find?_cons] using this
abbrev nd (M:List Nd) (i:Int):Nd:=(nodeS M i).1
structure Wf (M:List Nd):Prop where
 len:M.length ≤ 1024
 nodup:M.Nodup
 kind : ∀ i:Int,inb i M.length=true→(nd M i).kind=1∨(nd M i).kind=2∨(nd M i).kind=3∨(nd M i).kind=4∨(nd M i).kind=5
 kids : ∀ i:Int,inb i M.length=true→(nd M i).kind=3∨(nd M i).kind=4∨(nd M i).kind=5→(0 ≤ (nd M i).l∧(nd M i).l < i)∧0 ≤ (nd M i).r∧(nd M i).r < i
 fits : ∀ (j:Nat) (n:Nd),M[j]? = some n→vd (M.take j) n=0
theorem Wf.left {M:List Nd} (h:Wf M) {i:Int} (hi:inb i M.length=true) (hk:(nd M i).kind=3∨(nd M i).kind=4∨(nd M i).kind=5):inb (nd M i).l M.length=true:=by
 have h1:=h.kids i hi hk
 have h2:=zD hi
 simp only [inb,Bool.and_eq_true,decide_eq_true_eq]; omega
theorem Wf.right {M:List Nd} (h:Wf M) {i:Int} (hi:inb i M.length=true) (hk:(nd M i).kind=3∨(nd M i).kind=4∨(nd M i).kind=5):inb (nd M i).r M.length=true:=by
 have h1:=h.kids i hi hk
 have h2:=zD hi
 simp only [inb,Bool.and_eq_true,decide_eq_true_eq]; omega
theorem find_congr {α:Type} {p q:α→Bool} : ∀ {l:List α},(∀ x ∈ l,p x=q x)→l.find? p=l.find? q
 | [],_=>rfl
 | x :: l,h=>by
  rw [List.find?_cons,List.find?_cons,h x zaK,find_congr fun y hy=>h y (by simp [hy])]
theorem any_find {α:Type} {p:α→Bool} : ∀ (l:List α),l.any p=(l.find? p).isSome
 | []=>rfl
 | x :: l=>by
  rw [List.any_cons,List.find?_cons,any_find l]
  cases p x <;> rfl
theorem inb_nat (j n:Nat):inb (j:Int) n=decide (j < n):=by
 unfold inb
 rw [decide_eq_true (show 0 ≤ (j:Int) by omega),Bool.true_and,decide_eq_decide]
 omega
theorem wrap_small {n:Int} (h:0 ≤ n∧n < 9223372036854775808):IntKind.i64.wrap n=n:=by
 exact IntWalk.i64_in _ ⟨by omega,by omega⟩
theorem idx_find (n:Nd) : ∀ (N:List Nd) (s:Nat),(List.range' s N.length).find? (fun k=>decide (N.getD (k - s) Nd.z=n))=(N.idxOf? n).map (· + s)
 | [],s=>rfl
 | a :: N,s=>by
  rw [List.length_cons,List.range'_succ,List.find?_cons,List.idxOf?_cons]
  by_cases h:a=n
  ·simp [h]
  ·have h1:(a == n)=false:=by simpa using h
   have h2:(List.range' (s + 1) N.length).find? (fun k=>decide ((a :: N).getD (k - s) Nd.z=n))=(List.range' (s + 1) N.length).find? (fun k=>decide (N.getD (k - (s + 1)) Nd.z=n)):=find_congr fun k hk=>by
    have hk:=(List.mem_range'_1.1 hk).1
    rw [show k - s=(k - (s + 1)) + 1 by omega]; simp
   simp only [Nat.sub_self,List.getD_cons_zero,h,decide_false,h1,h2,idx_find n N (s + 1)]
   cases N.idxOf? n with
   | none=>rfl
   | some k=>simp; omega
theorem docFind (N:List Nd) (n:Nd):zcn.f (some N) n=some (match N.idxOf? n with | some k=>((k:Int),true) | none=>(0,false)):=by
 unfold zcn.f
 have h1:=forN_find (b:=fun i s=>zcn.b0 (some N) n i) (p:=fun k=>decide (N.getD k Nd.z=n)) (r:=fun k=>((k:Int),true)) N.length 0 () (by
  intro k _ hk
  unfold zcn.b0 at_
  rw [Int.toNat_natCast,Option.getD_some]
  split <;> rfl)
 have e0:(((N.length:Nat):Int) - 0).toNat=N.length:=by omega
 simp only [Option.isSome_some,Option.getD_some,chk,if_true,e0]
 rw [show (0:Int)=((0:Nat):Int) from rfl,h1]
 have h2:=idx_find n N 0
 simp only [Nat.sub_zero,Nat.add_zero] at h2
 rw [h2]
 cases N.idxOf? n <;> rfl
theorem bind_eq {α β:Type} {x:Option α} {y:α} {f:α→Option β} {r:Option β} (hx:x=some y) (h:f y=r):x.bind f=r:=by rw [hx]; exact h
theorem docPut {N:List Nd} {n:Nd} (hN:N.length ≤ 1024) (hn:n.name.size < 9223372036854775808):zco.f (some N) n=some (some (putS N n).1,(putS N n).2.1,(putS N n).2.2):=by
 have hrow : ∀ i:Int,zcm.f (some N) i=some (uB N i):=fun i=>by simp [zcm.f,chk,uB]
 have hend:((zcn.f (some N) n).bind fun r25=>if r25.2 then some (some N,r25.1,0) else chk (some N).isSome (if decide (1024 ≤ ((((some N).getD []).length:Nat):Int)) then some ((some ((some N).getD [])),0,30) else chk (decide ((((some N).getD []).length + 1) * 40 ≤ 140737488355328)) (some ((some (((some N).getD []) ++ [n])),IntKind.i64.wrap (((((some N).getD []) ++ [n]).length:Int) - 1),0)))) =
   (match N.idxOf? n with | some k=>some (some N,(k:Int),(0:Int)) | none=>if 1024 ≤ N.length then some (some N,0,30) else some (some (N ++ [n]),(N.length:Int),0)):=by
  rw [docFind]
  cases N.idxOf? n with
  | some k=>rfl
  | none =>
   simp only [zaN,Bool.false_eq_true,if_false,Option.isSome_some,Option.getD_some,chk,if_true,decide_eq_true_eq]
   by_cases h:1024 ≤ N.length
   ·have h1:(1024:Int) ≤ (N.length:Int):=by omega
    simp only [h,h1,if_true]
   ·have h1:¬ (1024:Int) ≤ (N.length:Int):=by omega
    have h2:(N.length + 1) * 40 ≤ 140737488355328:=by omega
    have h3:IntKind.i64.wrap (((N ++ [n]).length:Int) - 1)=(N.length:Int):=by
     rw [wrap_small (by simp; omega)]; simp
    simp only [h,h1,h2,h3,if_true,if_false]
 unfold zco.f
 refine bind_eq (y:=if vd N n=0 then .inl (some N) else .inr (some N,0,vd N n)) ?_ ?_
 ·unfold vd
  simp only [hrow,zaT.f,hn,chk,decide_true,if_true,zaN]
  by_cases k1:n.kind=1
  ·simp only [k1,decide_true,if_true]
   by_cases hl:n.l=0
   ·by_cases hr:n.r=0
    ·by_cases hw:isWord n.name <;> simp [hl,hr,hw]
    ·simp [hl,hr]
   ·simp [hl]
  by_cases k2:n.kind=2
  ·have e:(n={ Nd.z with kind:=2 })↔(n.name=⟨#[]⟩ ∧ n.l=0∧n.r=0):=by
    constructor
    ·intro h; rw [h]; exact ⟨rfl,rfl,rfl⟩
    ·rintro ⟨h1,h2,h3⟩
     obtain ⟨a,b,c,d⟩ := n
     simp only at k2 h1 h2 h3
     subst k2 h1 h2 h3; rfl
   simp only [k2,decide_true,if_true,show ¬ ((2:Int)=1) by decide,decide_false,Bool.false_eq_true,if_false,e]
   by_cases hm:n.name=⟨#[]⟩
   ·by_cases hl:n.l=0
    ·by_cases hr:n.r=0 <;> simp [hm,hl,hr]
    ·simp [hm,hl]
   ·simp [hm]
  by_cases k3:n.kind=3∨n.kind=4∨n.kind=5
  ·have ho:((if decide (n.kind=3)=true then some (decide (n.kind=3)) else if decide (n.kind=4)=true then some (decide (n.kind=4)) else some (decide (n.kind=5))):Option Bool)=some true:=by
    rcases k3 with k | k | k <;> simp [k]
   simp only [k1,k2,k3,decide_false,Bool.false_eq_true,if_false,if_true]
   simp only [decide_eq_true_eq] at ho ⊢
   rw [ho]
   simp only [zaN,if_true]
   by_cases hm:n.name=⟨#[]⟩
   ·cases hl:uB N n.l with
    | false=>simp [hm,hl]
    | true=>cases hr:uB N n.r <;> simp [hm,hl,hr]
   ·simp [hm]
  ·have ho:((if decide (n.kind=3)=true then some (decide (n.kind=3)) else if decide (n.kind=4)=true then some (decide (n.kind=4)) else some (decide (n.kind=5))):Option Bool)=some false:=by
    simp only [not_or] at k3; simp [k3.1,k3.2.1,k3.2.2]
   simp only [k1,k2,k3,decide_false,Bool.false_eq_true,if_false,if_true]
   simp only [decide_eq_true_eq] at ho ⊢
   rw [ho]
   simp
 ·by_cases hf:vd N n=0
  ·rw [if_pos hf]
   refine Eq.trans (show _=_ from hend) ?_
   unfold putS
   rw [if_pos hf]
   cases N.idxOf? n with
   | some k=>rfl
   | none =>
    by_cases h:1024 ≤ N.length
    ·simp only [if_pos h]
    ·simp only [if_neg h]
  ·rw [if_neg hf,put_bad hf]; rfl
theorem progPut {N:List Nd} {n:Nd} (hn:n.name.size < 9223372036854775808):zaR.f (some N) n=some (some (putS N n).1,(putS N n).2.1,(putS N n).2.2):=by
 simp [zaR.f,chk,hn]
theorem rows_take {M:List Nd} {i:Nat} (hi:i < M.length):at_ Nd.z M i=M[i]:=by
 unfold at_; rw [Int.toNat_natCast,List.getD_eq_getElem?_getD,List.getElem?_eq_getElem hi]; rfl
theorem wf_push {N:List Nd} {n:Nd} (h:Wf N) (hf:vd N n=0) (hl:N.length < 1024) (hnew:n ∉ N):Wf (N ++ [n]):=by
 have hnd : ∀ i:Int,inb i N.length=true→nd (N ++ [n]) i=nd N i:=by
  intro i hi
  have h1:=zD hi
  unfold nd nodeS uB
  have h2:i.toNat < N.length:=by omega
  rw [if_pos (by simp; omega),if_pos (by simp; omega)]
  simp only
  rw [List.getD_eq_getElem?_getD,List.getElem?_append_left h2,← List.getD_eq_getElem?_getD]
 have hlast:nd (N ++ [n]) N.length=n:=by
  unfold nd nodeS uB
  rw [if_pos (by simp; omega)]
  simp
 have hsplit : ∀ i:Int,inb i (N ++ [n]).length=true→inb i N.length=true∨i=N.length:=by
  intro i hi
  have:=zD hi
  simp at this
  simp only [inb,Bool.and_eq_true,decide_eq_true_eq]; omega
 have hkind:n.kind=1∨n.kind=2∨n.kind=3∨n.kind=4∨n.kind=5:=by
  unfold vd at hf
  by_cases k1:n.kind=1
  ·exact .inl k1
  by_cases k2:n.kind=2
  ·exact .inr (.inl k2)
  by_cases k3:n.kind=3∨n.kind=4∨n.kind=5
  ·exact .inr (.inr k3)
  ·simp [k1,k2,k3] at hf
 refine ⟨by simp; omega,by rw [List.nodup_append]; exact ⟨h.nodup,by simp,fun a ha b hb e=>hnew (by rw [← List.mem_singleton.1 hb,← e]; exact ha)⟩,fun i hi=>?_,fun i hi hk=>?_,fun j m hm=>?_⟩
 ·rcases hsplit i hi with h1 | rfl
  ·rw [hnd i h1]; exact h.kind i h1
  ·rw [hlast]; exact hkind
 ·rcases hsplit i hi with h1 | rfl
  ·rw [hnd i h1] at hk ⊢; exact h.kids i h1 hk
  ·rw [hlast] at hk ⊢
   unfold vd at hf
   have k1:¬ n.kind=1:=by omega
   have k2:¬ n.kind=2:=by omega
   rw [if_neg k1,if_neg k2,if_pos hk] at hf
   split at hf
   ·simp at hf
   ·rename_i hh
    simp only [not_or,Bool.not_eq_false] at hh
    obtain ⟨⟨_,h1⟩,h2⟩ := hh
    simp only [uB,Bool.and_eq_true,decide_eq_true_eq] at h1 h2
    exact ⟨h1,h2⟩
 ·by_cases hj:j < N.length
  ·rw [List.getElem?_append_left hj] at hm
   rw [List.take_append_of_le_length zaJ]; exact h.fits j m hm
  ·have hj2:j < (N ++ [n]).length:=(List.getElem?_eq_some_iff.1 hm).1
   have e:j=N.length:=by simp at hj2; omega
   subst e
   simp at hm
   subst hm
   simpa using hf
theorem from_some {rows:List Nd} (hn : ∀ n ∈ rows,n.name.size < 9223372036854775808) : ∃ r:Tb × Int,zcp.f rows=some r∧zck.f rows=some r∧(r.2=0→r.1=some rows∧Wf rows):=by
 have hstep : ∀ (N:List Nd) (i:Nat),i < rows.length→N.length ≤ 1024→zcp.b0 rows i (some N)=some (if (putS N (at_ Nd.z rows i)).2.2 ≠ 0 then .ret (none,(putS N (at_ Nd.z rows i)).2.2) else if (putS N (at_ Nd.z rows i)).2.1 ≠ i then .ret (none,31) else .go (some (putS N (at_ Nd.z rows i)).1)) ∧
   zck.b0 rows i (some N)=zcp.b0 rows i (some N):=by
  intro N i hi hN
  have hm:(at_ Nd.z rows i).name.size < 9223372036854775808:=by rw [rows_take hi]; exact hn _ (List.getElem_mem hi)
  have h1:zcp.b0 rows i (some N)=some (if (putS N (at_ Nd.z rows i)).2.2 ≠ 0 then .ret (none,(putS N (at_ Nd.z rows i)).2.2) else if (putS N (at_ Nd.z rows i)).2.1 ≠ i then .ret (none,31) else .go (some (putS N (at_ Nd.z rows i)).1)):=by
   unfold zcp.b0
   rw [docPut hN hm]
   simp only [zaN,decide_eq_true_eq]
   split
   ·rfl
   ·split <;> rfl
  refine ⟨h1,?_⟩
  rw [h1]
  unfold zck.b0
  rw [progPut hm]
  simp only [zaN]
  by_cases e:(putS N (at_ Nd.z rows i)).2.2=0
  ·by_cases e2:(putS N (at_ Nd.z rows i)).2.1=i
   ·simp [e,e2]
   ·simp [e,e2]
  ·simp [e]
 have main : ∀ (n i:Nat),i + n=rows.length→i ≤ 1024→Wf (rows.take i) → ∃ o,forN (fun j s=>zcp.b0 rows j s) n i (some (rows.take i))=some o∧forN (fun j s=>zck.b0 rows j s) n i (some (rows.take i))=some o ∧
   ((∃ e,e ≠ 0∧o = .inr (none,e))∨(o = .inl (some rows)∧Wf rows)):=by
  intro n
  induction n with
  | zero =>
   intro i hi _ hw
   rw [List.take_of_length_le zaJ] at hw ⊢
   exact ⟨_,rfl,rfl,.inr ⟨rfl,hw⟩⟩
  | succ n ih =>
   intro i hi hle hw
   have hil:i < rows.length:=by omega
   have hlen:(rows.take i).length=i:=by simp; omega
   obtain ⟨h1,h2⟩ := hstep (rows.take i) i hil zaJ
   simp only [forN]
   rw [h2,h1]
   by_cases e:(putS (rows.take i) (at_ Nd.z rows i)).2.2=0
   ·by_cases e2:(putS (rows.take i) (at_ Nd.z rows i)).2.1=i
    ·simp only [e,e2,ne_eq,not_true_eq_false,if_false,zaN]
     have hput:vd (rows.take i) (at_ Nd.z rows i)=0∧i < 1024∧at_ Nd.z rows i ∉ rows.take i∧(putS (rows.take i) (at_ Nd.z rows i)).1=rows.take i ++ [at_ Nd.z rows i]:=by
      by_cases hf:vd (rows.take i) (at_ Nd.z rows i)=0
      ·cases hk:(rows.take i).idxOf? (at_ Nd.z rows i) with
       | some k =>
        rw [put_old hf hk] at e2
        have:k < (rows.take i).length:=by
         have:=List.idxOf?_eq_some_iff.1 hk
         exact this.1
        simp only at e2; omega
       | none =>
        by_cases hl:1024 ≤ (rows.take i).length
        ·rw [put_full hf hk hl] at e; simp at e
        ·rw [put_new hf hk hl]
         exact ⟨hf,by omega,List.idxOf?_eq_none_iff.1 hk,rfl⟩
      ·rw [put_bad hf] at e; exact absurd e hf
     obtain ⟨hf,hlt,hnew,hp⟩ := hput
     have ht:rows.take i ++ [at_ Nd.z rows i]=rows.take (i + 1):=by
      rw [rows_take hil,List.take_succ_eq_append_getElem hil]
     rw [hp,ht]
     have:=ih (i + 1) zaJ zaJ (by rw [← ht]; exact wf_push hw hf zaJ hnew)
     simpa using this
    ·simp only [e,e2,ne_eq,not_true_eq_false,not_false_eq_true,if_false,if_true,zaN]
     exact ⟨_,rfl,rfl,.inl ⟨31,by decide,rfl⟩⟩
   ·simp only [e,ne_eq,not_false_eq_true,if_true,zaN]
    exact ⟨_,rfl,rfl,.inl ⟨_,e,rfl⟩⟩
 have e0:(((rows.length:Nat):Int) - 0).toNat=rows.length:=by omega
 obtain ⟨o,h1,h2,h3⟩ := main rows.length 0 zaJ zaJ ⟨by simp,by simp,fun i hi=>absurd (zD hi) zaK,fun i hi=>absurd (zD hi) zaK,fun j n h=>by simp at h⟩
 unfold zcp.f zck.f zaU.f
 rw [e0]
 simp only [zaN]
 rw [show (0:Int)=((0:Nat):Int) from rfl]
 rw [List.take_zero] at h1 h2
 rw [h1,h2]
 rcases h3 with ⟨e,he,rfl⟩ | ⟨rfl,hw⟩
 ·exact ⟨_,rfl,rfl,fun q=>absurd q he⟩
 ·exact ⟨_,rfl,rfl,fun _=>⟨rfl,hw⟩⟩
theorem both_some {rows:List Nd} (hn : ∀ n ∈ rows,n.name.size < 9223372036854775808) (hl:rows.length * 40 ≤ 140737488355328):zcq.f rows=some (none,none,false)∨(zcq.f rows=some (some rows,some rows,true)∧Wf rows):=by
 obtain ⟨r,h1,h2,h3⟩ := from_some hn
 have hc:(([]:List Nd).length + rows.length) * 40 ≤ 140737488355328:=by rw [List.length_nil,Nat.zero_add]; exact hl
 unfold zcq.f
 rw [chk,if_pos (decide_eq_true hc),h1]
 simp only [zaN,List.nil_append,h2]
 by_cases e:r.2=0
 ·obtain ⟨h4,hw⟩ := h3 e
  exact .inr ⟨by rw [h4]; simp [e],hw⟩
 ·exact .inl (by simp [e])
end
section

end
section
open Gw
-- terms: nodes,levels,what is right
mutual
def depT:PTerm→Nat
 | .mk _ _ _ _ s=>1 + depL s
def depL:List PTerm→Nat
 | []=>0
 | x :: l=>max (depT x) (depL l)
end
def vu (k:Int):Int:=if k=1 then 0 else if k=9 then 3 else if k=3∨k=4∨k=12 then 2 else if k=2∨k=5∨k=6∨k=7∨k=8∨k=10∨k=11 then 1 else -1
def nodeR (x:PTerm):Bool :=
 decide (vu x.kind=x.sub.length) && (if x.kind=1∨x.kind=2∨x.kind=9∨x.kind=12 then decide (isWord x.name) else decide (x.name=⟨#[]⟩)) &&
  (if x.kind=9 then decide (isWord x.other) else decide (x.other=⟨#[]⟩)) && (if x.kind=11 then decide (0 ≤ x.form) && decide (x.form < 1024) else decide (x.form=0))
mutual
def rightT:PTerm→Bool
 | .mk k n o f s=>nodeR (.mk k n o f s) && rightL s
def rightL:List PTerm→Bool
 | []=>true
 | x :: l=>rightT x && rightL l
end
theorem ya (x:PTerm):depT x=1 + depL x.sub:=by cases x; simp [depT,PTerm.sub]
theorem kO (x:PTerm):rightT x=(nodeR x && rightL x.sub):=by cases x; simp [rightT,PTerm.sub]
theorem rightL_mem : ∀ {l:List PTerm},rightL l=true → ∀ x ∈ l,rightT x=true
 | [],_,_,h=>by simp at h
 | y :: l,h,x,hx=>by
  simp only [rightL,Bool.and_eq_true] at h
  rcases List.mem_cons.1 hx with rfl | hx
  ·exact h.1
  ·exact rightL_mem h.2 x hx
theorem nmL_mem : ∀ {l:List PTerm},nmL l → ∀ x ∈ l,nmT x
 | [],_,_,h=>by simp at h
 | y :: l,h,x,hx=>by
  simp only [nmL] at h
  rcases List.mem_cons.1 hx with rfl | hx
  ·exact h.1
  ·exact nmL_mem h.2 x hx
theorem xR : ∀ {l:List PTerm},∀ x ∈ l,depT x ≤ depL l
 | [],_,h=>by simp at h
 | y :: l,x,hx=>by
  simp only [depL]
  rcases List.mem_cons.1 hx with rfl | hx
  ·omega
  ·have:=xR x hx; omega
inductive TR where
 | ok (f:Int)
 | no (c:Int) (way:List Int)
 deriving DecidableEq
namespace TR
def at_ (i:Int):TR→TR
 | ok f=>ok f
 | no c w=>no c (i :: w)
def bind (r:TR) (k:Int→TR):TR:=match r with
 | ok f=>k f
 | no c w=>no c w
def code:TR→Int
 | ok _=>0
 | no c _=>c
def way:TR→List Int
 | ok _=>[]
 | no _ w=>w
def form:TR→Int
 | ok f=>f
 | no _ _=>0
end TR
abbrev Sc:=List (ByteArray × Int)
def ofK (M:List Nd) (f k:Int) (g:Nd→TR):TR:=if (nd M f).kind=k then g (nd M f) else .no 130 []
def toldS (M:List Nd) (P:Int→Sc→Option Int→TR) (s:Sc) (x:PTerm):TR :=
 if x.kind=1 then (match s.find? (fun q=>decide (q.1=x.name)) with | some q => .ok q.2 | none => .no 131 [])
 else if x.kind=3 then (P 0 s none).bind fun f=>ofK M f 5 fun n=>(P 1 s (some n.l)).bind fun _ => .ok n.r
 else if x.kind=5 then (P 0 s none).bind fun f=>ofK M f 3 fun n => .ok n.l
 else if x.kind=6 then (P 0 s none).bind fun f=>ofK M f 3 fun n => .ok n.r
 else if x.kind=11 then (if inb x.form M.length then (P 0 s (some x.form)).bind fun _ => .ok x.form else .no 31 [])
 else if x.kind=12 then (P 0 s none).bind fun f=>P 1 ((x.name,f) :: s) none
 else if x.kind=9 then (P 0 s none).bind fun f=>ofK M f 4 fun n=>(P 1 ((x.name,n.l) :: s) none).bind fun a=>(P 2 ((x.other,n.r) :: s) none).bind fun b=>if a=b then .ok a else .no 130 []
 else .no 132 []
def chkdS (M:List Nd) (P:Int→Sc→Option Int→TR) (s:Sc) (x:PTerm) (id:Int):TR :=
 if x.kind=2 then ofK M id 5 fun n=>P 0 ((x.name,n.l) :: s) (some n.r)
 else if x.kind=4 then ofK M id 3 fun n=>(P 0 s (some n.l)).bind fun _=>P 1 s (some n.r)
 else if x.kind=7 then ofK M id 4 fun n=>P 0 s (some n.l)
 else if x.kind=8 then ofK M id 4 fun n=>P 0 s (some n.r)
 else if x.kind=9 then (P 0 s none).bind fun f=>ofK M f 4 fun n=>(P 1 ((x.name,n.l) :: s) (some id)).bind fun _=>P 2 ((x.other,n.r) :: s) (some id)
 else if x.kind=10 then (P 0 s none).bind fun f=>ofK M f 2 fun _ => .ok id
 else if x.kind=12 then (P 0 s none).bind fun f=>P 1 ((x.name,f) :: s) (some id)
 else (toldS M P s x).bind fun f=>if f=id then .ok id else .no 130 []
def tyS (M:List Nd):Nat→PTerm→Sc→Option Int→TR
 | 0,_,_,_ => .no 132 []
 | k + 1,x,s,want =>
  let P:Int→Sc→Option Int→TR:=fun i s' w=>(tyS M k (at_ PTerm.z x.sub i) s' w).at_ i
  match want with
  | none=>toldS M P s x
  | some id=>chkdS M P s x id
end
section
open Gw
theorem chk_t {α:Type} {b:Bool} {x:Option α} (h:b=true):chk b x=x:=by rw [chk,if_pos h]
theorem wrap_nat {n:Nat} (h:n < 9223372036854775808):IntKind.i64.wrap (n:Int)=n:=wrap_small ⟨by omega,by omega⟩
theorem iter_count {τ ρ:Type} {b:τ × Int→Option (Stp (τ × Int) ρ)} (g:Nat→τ) (n:Nat)
  (h : ∀ i,i < n→b (g i,(i:Int))=some (.go (g (i + 1),((i + 1:Nat):Int)))∨(b (g i,(i:Int))=some (.brk (g i,(i:Int)))∧g i=g n)) (he:b (g n,(n:Int))=some (.brk (g n,(n:Int)))) :
  ∀ (k i:Nat),i ≤ n→n - i < k → ∃ j:Int,iter b k (g i,(i:Int))=some (.inl (g n,j))
 | 0,i,_,hk=>by omega
 | k + 1,i,hi,hk=>by
  by_cases hin:i=n
  ·subst hin; exact ⟨(i:Int),by simp only [iter,he,zaN]⟩
  ·rcases h i zaJ with h1 | ⟨h1,h2⟩
   ·obtain ⟨j,hj⟩ := iter_count g n h he k (i + 1) zaJ zaJ
    exact ⟨j,by simp only [iter,h1,zaN]; exact hj⟩
   ·exact ⟨(i:Int),by rw [iter,h1]; simp only [zaN,h2]⟩
theorem depL_take : ∀ {l:List PTerm} {i:Nat} {x:PTerm},l[i]? = some x→depL (l.take (i + 1))=max (depL (l.take i)) (depT x)
 | [],_,_,h=>by simp at h
 | y :: l,0,x,h=>by simp at h; subst h; simp [depL]
 | y :: l,i + 1,x,h=>by
  have:=depL_take (l:=l) (i:=i) (by simpa using h)
  simp only [List.take_succ_cons,depL]; omega
theorem depL_le : ∀ {l:List PTerm} (i:Nat),depL (l.take i) ≤ depL l
 | [],i=>by simp
 | y :: l,0=>by simp [depL]
 | y :: l,i + 1=>by have:=depL_le (l:=l) i; simp only [List.take_succ_cons,depL]; omega
theorem len_sizeL : ∀ (l:List PTerm),l.length ≤ sizeL l
 | []=>by simp
 | y :: l=>by have:=len_sizeL l; have:=jY y; simp only [List.length_cons,sizeL]; omega
theorem y8 : ∀ {l:List PTerm} {x:PTerm},x ∈ l→sizeT x ≤ sizeL l
 | [],_,h=>by simp at h
 | y :: l,x,h=>by
  simp only [sizeL]
  rcases List.mem_cons.1 h with rfl | h
  ·omega
  ·have:=y8 h; omega
theorem jq {l:List PTerm} {i:Nat} (h:i < l.length):at_ PTerm.z l (i:Int)=l[i]:=by
 unfold at_; rw [Int.toNat_natCast,List.getD_eq_getElem?_getD,List.getElem?_eq_getElem h]; rfl
theorem yj (x:PTerm):1 ≤ depT x:=by rw [ya]; omega
-- levels,as the program counts them
theorem deep_some : ∀ (K:Nat) (x:PTerm) (most:Nat),1 ≤ most→most ≤ 1025→sizeT x ≤ 65536→sizeT x + most < K→zba.f K x (most:Int)=some ((min (depT x) most:Nat):Int)
 | 0,_,_,_,_,_,h=>by omega
 | K + 1,x,most,h1,h2,h3,hK=>by
  show zba.g (zba.f K) K x most=_
  unfold zba.g
  by_cases hm:most=1
  ·subst hm
   rw [if_pos zaI]
   have:=yj x
   rw [show min (depT x) 1=1 by omega]
  rw [if_neg (by simp; omega)]
  have hw:IntKind.i64.wrap ((most:Int) - 1)=((most - 1:Nat):Int):=by
   rw [show ((most:Int) - 1)=((most - 1:Nat):Int) by omega]; exact wrap_nat zaJ
  have hs:=yk x
  have hls:=len_sizeL x.sub
  obtain ⟨j,hj⟩ := iter_count (b:=fun s=>zba.b0 x most (zba.f K) s.1 s.2) (g:=fun i=>((min (depL (x.sub.take i)) (most - 1):Nat):Int)) x.sub.length (fun i hi=>by
   have he:=List.getElem?_eq_getElem hi
   have hd:=depL_take he
   have hle:=depL_le (l:=x.sub) i
   simp only [zba.b0,hw]
   by_cases hc:min (depL (x.sub.take i)) (most - 1) < most - 1
   ·left
    rw [if_pos (by simp; omega),chk_t (by rw [inb_nat]; exact decide_eq_true hi),jq hi,deep_some K _ (most - 1) zaJ zaJ (by have:=y8 (List.getElem_mem hi); omega) (by have:=y8 (List.getElem_mem hi); omega)]
    simp only [zaN]
    rw [show (i:Int) + 1=((i + 1:Nat):Int) by omega,wrap_nat zaJ]
    congr 3
    rw [hd]
    split <;> omega
   ·right
    rw [if_neg (by simp; omega)]
    refine ⟨rfl,?_⟩
    rw [List.take_length]
    congr 1
    omega) (by
   simp only [zba.b0,hw]
   rw [if_neg zaK]) K 0 zaJ zaJ
  simp only [List.take_zero,depL,Nat.zero_min,List.take_length] at hj
  rw [show ((0:Nat):Int)=0 from rfl] at hj
  rw [hj]
  simp only [zaN,aft]
  rw [show ((min (depL x.sub) (most - 1):Nat):Int) + 1=((min (depL x.sub) (most - 1) + 1:Nat):Int) by omega,wrap_nat zaJ,ya]
  congr 2
  omega
-- what is right,as the program tells it
theorem shape_some (k:Int):zaY.f k=some (if vu k = -1 then (0,false,false,false) else (vu k,decide (k=1∨k=2∨k=9∨k=12),decide (k=9),true)):=by
 by_cases h:k=1∨k=2∨k=3∨k=4∨k=5∨k=6∨k=7∨k=8∨k=9∨k=10∨k=11∨k=12
 ·rcases h with rfl | rfl | rfl | rfl | rfl | rfl | rfl | rfl | rfl | rfl | rfl | rfl <;> decide
 ·simp only [not_or] at h
  obtain ⟨h1,h2,h3,h4,h5,h6,h7,h8,h9,h10,h11,h12⟩ := h
  simp [zaY.f,vu,h1,h2,h3,h4,h5,h6,h7,h8,h9,h10,h11,h12]
theorem named_some {s:ByteArray} (hs:s.size < 9223372036854775808) (b:Bool):zaZ.f s b=some (if b then decide (isWord s) else decide (s=⟨#[]⟩)):=by
 unfold zaZ.f zaS.f
 rw [chk_t (decide_eq_true hs)]
 cases b <;> simp
theorem rightL_all : ∀ (l:List PTerm),rightL l=l.all rightT
 | []=>rfl
 | x :: l=>by simp [rightL,rightL_all l]
theorem contains_some {rec:PTerm→Option Bool} {l:List PTerm} (h : ∀ x ∈ l,rec x=some (rightT x)):zbe.g rec l=some (!rightL l):=by
 unfold zbe.g zbd.g
 have h1:=forN_find (b:=fun i s=>zbd.b0 rec l i) (p:=fun k => !rightT (l.getD k PTerm.z)) (r:=fun k=>(k:Int)) l.length 0 () (by
  intro k _ hk
  unfold zbd.b0 zbc.g
  have hk':k < l.length:=by omega
  rw [jq hk',h _ (List.getElem_mem hk')]
  simp only [zaN,List.getD_eq_getElem?_getD,List.getElem?_eq_getElem hk',Option.getD_some]
  cases rightT l[k] <;> rfl)
 have e0:(((l.length:Nat):Int) - 0).toNat=l.length:=by omega
 rw [e0,show (0:Int)=((0:Nat):Int) from rfl,h1]
 have h2:rightL l = !((List.range' 0 l.length).find? fun k => !rightT (l.getD k PTerm.z)).isSome:=by
  rw [rightL_all,← any_find]
  rw [Bool.eq_iff_iff]
  simp only [List.all_eq_true,Bool.not_eq_true',List.any_eq_false,Bool.not_eq_true,Bool.not_eq_false',List.mem_range'_1]
  constructor
  ·intro hh k hk
   have hk':k < l.length:=by omega
   simp only [List.getD_eq_getElem?_getD,List.getElem?_eq_getElem hk',Option.getD_some]
   simpa using hh _ (List.getElem_mem hk')
  ·intro hh x hx
   obtain ⟨k,hk,rfl⟩ := List.getElem_of_mem hx
   have:=hh k ⟨by omega,by omega⟩
   simp only [List.getD_eq_getElem?_getD,List.getElem?_eq_getElem hk,Option.getD_some] at this
   simpa using this
 rw [h2]
 cases (List.range' 0 l.length).find? fun k => !rightT (l.getD k PTerm.z) with
 | none=>simp [aft]
 | some k=>simp [aft]
theorem right_some : ∀ (K:Nat) (x:PTerm),nmT x→depT x ≤ K→zbf.f K x=some (rightT x)
 | 0,x,_,h=>by have:=yj x; omega
 | K + 1,x,hn,hK=>by
  have hd:=ya x
  obtain ⟨n1,n2,n3⟩ := (kv x).1 hn
  show zbf.g (zbf.f K) x=_
  unfold zbf.g
  rw [shape_some,contains_some (l:=x.sub) fun y hy=>right_some K y (nmL_mem n3 y hy) (by have:=xR y hy; omega)]
  rw [kO]
  unfold nodeR
  by_cases hp:vu x.kind = -1
  ·have:¬ (-1:Int)=(x.sub.length:Int):=by omega
   simp [hp,this]
  ·simp only [hp,if_false,zaN,named_some n1,named_some n2]
   generalize vu x.kind=p at hp
   by_cases hl:p=(x.sub.length:Int)
   ·by_cases hk:x.kind=1∨x.kind=2∨x.kind=9∨x.kind=12
    ·simp only [if_pos hk,decide_eq_true hk]
     by_cases hw:isWord x.name
     ·by_cases h9:x.kind=9
      ·simp only [if_pos h9,decide_eq_true h9]
       by_cases ho:isWord x.other
       ·by_cases hf:x.form=0
        ·simp [hl,h9,hw,ho,hf]
        ·simp [hl,h9,hw,ho,hf]
       ·simp [hl,h9,hw,ho]
      ·simp only [if_neg h9,decide_eq_false h9]
       by_cases ho:x.other=⟨#[]⟩
       ·by_cases h11:x.kind=11
        ·omega
        ·by_cases hf:x.form=0
         ·simp [hl,h11,hw,ho,hf]
         ·simp [hl,h11,hw,ho,hf]
       ·simp [hl,hw,ho]
     ·simp [hl,hw]
    ·have h9:¬ x.kind=9:=fun e=>hk (.inr (.inr (.inl e)))
     simp only [if_neg hk,decide_eq_false hk,if_neg h9,decide_eq_false h9]
     by_cases hw:x.name=⟨#[]⟩
     ·by_cases ho:x.other=⟨#[]⟩
      ·by_cases h11:x.kind=11
       ·by_cases hf:0 ≤ x.form
        ·by_cases hg:x.form < 1024
         ·have q1:¬ x.form < 0:=by omega
          have q2:¬ 1024 ≤ x.form:=by omega
          simp [hl,h11,hw,ho,hf,hg,q1,q2]
         ·have q2:1024 ≤ x.form:=by omega
          simp [hl,h11,hw,ho,hf,hg,q2]
        ·have q1:x.form < 0:=by omega
         simp [hl,h11,hw,ho,hf,q1]
       ·by_cases hf:x.form=0
        ·simp [hl,h11,hw,ho,hf]
        ·simp [hl,h11,hw,ho,hf]
      ·simp [hl,hw,ho]
     ·simp [hl,hw]
   ·have hl':¬ (x.sub.length:Int)=p:=fun e=>hl e.symm
    simp [hl,hl']
def x6 (x:PTerm):Int:=if 65536 < sizeT x∨1024 < depT x then 121 else if rightT x then 0 else 120
theorem jM {K:Nat} {x:PTerm} (hK:66562 ≤ K) (hn:nmT x):zbg.f K x=some (x6 x):=by
 unfold zbg.f zaX.f zbb.f x6
 simp only [zaN]
 by_cases hs:65536 < sizeT x
 ·have h1:min (sizeT x) 65537=65537:=by omega
  simp [h1,hs]
 ·have h1:min (sizeT x) 65537=sizeT x:=by omega
  have h2:¬ (65536:Int) < (sizeT x:Int):=by omega
  rw [h1,show (1025:Int)=((1025:Nat):Int) from rfl]
  simp only [h2,decide_false,Bool.not_false,if_true,deep_some K x 1025 zaJ zaJ zaJ zaJ,zaN,Bool.false_or,decide_eq_true_eq,hs,false_or]
  by_cases hd:1024 < depT x
  ·have h3:(1024:Int) < ((min (depT x) 1025:Nat):Int):=by omega
   simp [h3,hd]
  ·have h3:¬ (1024:Int) < ((min (depT x) 1025:Nat):Int):=by omega
   rw [if_neg h3,if_neg hd,right_some K x hn zaJ]
   cases rightT x <;> rfl
end
section
open Gw
theorem ba_app (a b:List UInt8):(⟨a.toArray⟩ : ByteArray) ++ ⟨b.toArray⟩ = ⟨(a ++ b).toArray⟩ := by
 apply ByteArray.ext
 simp [ByteArray.data_append]
theorem ba_size (l:List UInt8):(⟨l.toArray⟩ : ByteArray).size=l.length:=by simp [ByteArray.size]
theorem ba_inj {a b:List UInt8} (h:(⟨a.toArray⟩ : ByteArray)=⟨b.toArray⟩):a=b:=by
 have:=congrArg (fun s:ByteArray=>s.data.toList) h
 simpa using this
theorem u8_of {n:Nat} (h:n < 256):(UInt8.ofNat n).toNat=n:=by
 rw [UInt8.toNat_ofNat']; exact Nat.mod_eq_of_lt h
theorem decK_len : ∀ (k u:Nat),(decK k u).length ≤ k
 | 0,u=>by simp [decK]
 | k + 1,u=>by
  unfold decK
  split
  ·simp
  ·have:=decK_len k (u / 10); simp; omega
theorem decK_ne (k u:Nat):decK (k + 1) u ≠ []:=by
 unfold decK
 split <;> simp
theorem decK_dig : ∀ (k u:Nat),∀ c ∈ decK k u,48 ≤ c.toNat∧c.toNat ≤ 57
 | 0,u,c,h=>by simp [decK] at h
 | k + 1,u,c,h=>by
  unfold decK at h
  split at h
  ·rename_i hu
   rw [List.mem_singleton] at h; subst h; rw [u8_of zaJ]; omega
  ·rcases List.mem_append.1 h with h | h
   ·exact decK_dig k _ c h
   ·have:u % 10 < 10:=Nat.mod_lt _ zaI
    rw [List.mem_singleton] at h; subst h; rw [u8_of zaJ]; omega
def valD (l:List UInt8):Nat:=l.foldl (fun a c=>a * 10 + (c.toNat - 48)) 0
theorem decK_val : ∀ (k u:Nat),u < 10 ^ k→valD (decK k u)=u
 | 0,u,h=>by simp at h; subst h; rfl
 | k + 1,u,h=>by
  unfold decK
  split
  ·rename_i hu
   unfold valD
   simp only [List.foldl_cons,List.foldl_nil]
   rw [u8_of zaJ]; omega
  ·have h1:=decK_val k (u / 10) (by rw [Nat.pow_succ] at h; omega)
   have:u % 10 < 10:=Nat.mod_lt _ zaI
   unfold valD at h1 ⊢
   rw [List.foldl_append,h1]
   simp only [List.foldl_cons,List.foldl_nil]
   rw [u8_of zaJ]; omega
theorem decN_nn {n:Int} (h:0 ≤ n):decN n=⟨(decK 20 n.toNat).toArray⟩ := by
 unfold decN; rw [if_neg zaJ]
theorem sb_list (l:List UInt8) (i:Nat) (h:i < l.length):sb ⟨l.toArray⟩ i=(l[i].toNat:Int):=by
 unfold sb
 rw [show (⟨l.toArray⟩ : ByteArray)[i]? = some l[i] from by
  rw [getElem?_pos _ i (by simpa [ByteArray.size] using h)]; rfl]
 rfl
theorem word_of {c:UInt8} (hc:isL (c.toNat:Int)=true) {l:List UInt8} (h0:l ≠ []) (h1:l.length ≤ 30) (h2 : ∀ x ∈ l,48 ≤ x.toNat∧x.toNat ≤ 57):isWord ⟨(c :: l).toArray⟩ := by
 have hz:(⟨(c :: l).toArray⟩ : ByteArray).size=l.length + 1:=by rw [ba_size]; rfl
 refine ⟨by omega,by omega,fun i hi=>?_,?_⟩
 ·have hil:i < (c :: l).length:=by rw [hz] at hi; exact hi
  unfold okAt
  rw [sb_list _ _ hil]
  cases i with
  | zero=>exact hc
  | succ i =>
   rw [if_neg zaJ,List.getElem_cons_succ]
   have:=h2 _ (List.getElem_mem (show i < l.length by simpa using hil))
   unfold isC
   simp only [Bool.or_eq_true,Bool.and_eq_true,decide_eq_true_eq]
   left; left; right; omega
 ·unfold jA
  rw [List.any_eq_false]
  intro t ht
  simp only [decide_eq_true_eq]
  intro e
  have h3 : ∀ t ∈ resv,97 ≤ (t.data.toList.getD 1 0).toNat:=by decide
  have h4:=h3 t ht
  rw [← e] at h4
  cases l with
  | nil=>exact h0 rfl
  | cons d l =>
   have h5:=h2 d (List.mem_cons_self ..)
   have:((⟨(c :: d :: l).toArray⟩ : ByteArray).data.toList.getD 1 0)=d:=rfl
   rw [this] at h4
   omega
theorem decN_size {f:Int} (h:0 ≤ f):(decN f).size ≤ 20:=by rw [decN_nn h,ba_size]; exact decK_len 20 _
theorem dec_ok (c:UInt8) {f:Int} (h:0 ≤ f):decide ((⟨#[c]⟩ : ByteArray).size + (decN f).size ≤ 1000000)=true:=by
 have h1:(⟨#[c]⟩ : ByteArray).size=1:=rfl
 have:=decN_size h
 rw [h1]; simp; omega
end
end Go.Proofs.YtmggdbbmmkkplaaGreatDoor
