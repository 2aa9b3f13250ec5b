/- Texts put together. -/
import Derived.Test.YtmggdbbmmkkplaaGreatDoorMRCanon2
import Derived.ControlIn
set_option linter.unusedVariables false
set_option linter.unusedSimpArgs false
namespace Go.Proofs.YtmggdbbmmkkplaaGreatDoor
section
open Gw Go.RowKit
set_option maxHeartbeats 4000000
set_option maxRecDepth 20000
theorem term_right_1_gst {zes:PTerm→Option Bool} (zec : ∀ {A:Nat→Prop} {N:Oth} {w:World} {a0:PTerm} {s_0:SlV} (S:St A N w w [] [zg s_0 a0.sub]) {r:Bool} (H:zes a0=some r),Calls PP v8 #[.agg (tmC a0 s_0).toArray] w fun e w' => ∃ v,e = .returned v∧(v = .bool r∧St A N w w' [] [])) {A:Nat→Prop} {N:Oth} {w:World} {a0:PTerm} {s_0:SlV} (S:St A N w w [] [zg s_0 a0.sub]) {r:Bool} (H:zcg.g zes a0=some r) :
  Calls PP j1 #[.agg (tmC a0 s_0).toArray] w fun e w' => ∃ v,e = .returned v∧(v = .bool r∧St A N w w' [] []):=by
 unfold zcg.g at H
 refine zx (n:=6) fn_term_right_1 rfl rfl zbL (zd (za ?_))
 refine zE rfl zbJ fun b2 w1 hw1=>?_
 replace S:=S.new hw1
 refine wd (zi rfl) (zb (zd (za (wd (zm zS rfl ((S.blk 0).all _ (Term.len _)) (Term.len _)) ?_))))
 obtain ⟨r3,er3,H⟩ := zq H
 obtain ⟨B5,MB5,SB5,back⟩ := S.calln 0 ((.z 0 rfl .nil))
 refine zw (zt ca_term_right) zbJ (zec (a0:=a0) SB5 er3) ?_
 rintro _ w4 ⟨rfl,S2⟩
 replace S:=back _ _ _ _ S2 rfl
 clear back S2 SB5
 refine wd (xh rfl) (wd (zi rfl) (zb (zr ?_)))
 refine ⟨_,(zQ (ze rfl)),?_⟩
 replace S:=S.arr [] []
 obtain rfl:=zbN H
 exact ⟨rfl,S⟩
theorem vD {zes:PTerm→Option Bool} (zec : ∀ {A:Nat→Prop} {N:Oth} {w:World} {a0:PTerm} {s_0:SlV} (S:St A N w w [] [zg s_0 a0.sub]) {r:Bool} (H:zes a0=some r),Calls PP v8 #[.agg (tmC a0 s_0).toArray] w fun e w' => ∃ v,e = .returned v∧(v = .bool r∧St A N w w' [] [])) {A:Nat→Prop} {N:Oth} {w:World} {a0:List PTerm} {s_0:SlV} (S:St A N w w [] [zg s_0 a0]) {r:Int} (H:zch.g zes a0=some r) :
  Calls PP yt #[s_0.v,.func (.func j1) #[] #[]] w fun e w' => ∃ v,e = .returned v∧(v = .int .i64 r∧St A N w w' [] []):=by
 unfold zch.g at H
 refine zx (n:=19) vo rfl rfl zbL (zd (za (wd (zh rfl) (zb (zd (zd (za (wd (zT rfl) ?_))))))))
 refine wd (does_lenF zz rfl (S.onZ 0)) (wd (zj rfl) (zb ?_))
 obtain ⟨o1,e1,Ho1⟩ := zq H
 clear H
 refine xX [4,5,8,9,10,11,12,13,14,15,16,17,18] (fun fr W => ∃ s1:Unit,o1 = .inl s1∧St A N w W [] [zg s_0 a0]) ?_ ?_
 ·refine zO ?_
  refine xR (α:=Nat × Int × Unit) [4,5,8,9,10,11,12,13,14,15,16,17,18] (fun x fr W=>(x.1:Int)=(a0.length:Int) - x.2.1∧0 ≤ x.2.1∧forN (fun i s=>zch.b0 zes a0 i) x.1 x.2.1 x.2.2=some o1∧fr 8 = .int .i64 x.2.1∧St A N w W [] [zg s_0 a0]) (fun x=>x.1) (((a0.length:Int) - 0).toNat,0,()) ⟨(by dsimp only; have hle:=Int.natCast_nonneg (a0.length); omega),(Int.le_refl _),(by dsimp only; exact e1),rfl,S⟩ ?_
  rintro ⟨m1,i1,_⟩ g1 u1 ⟨hm1,hl1,e1,q1_i,S⟩
  try dsimp only at hm1
  try dsimp only at hl1
  try dsimp only at e1
  try dsimp only at S
  try dsimp only at q1_i
  refine zd (za (wd (xz q1_i rfl) (zb (zd ?_))))
  refine zJ rfl (fun hc2=>?_) (fun hc2=>?_)
  rotate_left
  ·refine ya ?_
   have hge:(a0.length:Int) ≤ i1:=Int.not_lt.1 (of_decide_eq_false hc2)
   obtain rfl:m1=0:=by omega
   replace e1:=zbj e1
   exact ⟨rfl,((Dif.self _ _ _).upd rfl _),(),e1,S⟩
  refine zy ?_
  have hlt1:i1 < (a0.length:Int):=of_decide_eq_true hc2
  obtain ⟨m1,rfl⟩ : ∃ m,m1=m + 1:=⟨m1 - 1,by omega⟩
  obtain ⟨q1,H,e1⟩ := zbk e1
  unfold zch.b0 at H
  try dsimp only at H
  have hb1:=(S.lenFZ 0)
  refine zd ?_
  refine zO (zd (za (wd (zj q1_i) (wd (zh rfl) (zb (zd (za ?_)))))))
  refine wd (jP rfl) (wd (zT rfl) (wd (zj rfl) (wd (does_indexF zz rfl rfl (S.onZ 0) (And.intro (show 0 ≤ i1 by omega) (show i1 < (a0.length:Int) from hlt1)).1 (And.intro (show 0 ≤ i1 by omega) (show i1 < (a0.length:Int) from hlt1)).2) ?_)))
  obtain ⟨s4,hc5,S⟩ := S.viewTerm 0 (And.intro (show 0 ≤ i1 by omega) (show i1 < (a0.length:Int) from hlt1))
  replace S:=S
  refine wd (zm zS rfl hc5 (Term.len _)) ?_
  obtain ⟨r6,er6,H⟩ := zq H
  obtain ⟨B8,MB8,SB8,back⟩ := S.calln 0 ((.z 0 rfl .nil))
  refine zw (yZ ca_term_right_1 rfl) zbJ (term_right_1_gst zec (a0:=(at_ PTerm.z a0 i1)) SB8 er6) ?_
  rintro _ w7 ⟨rfl,S2⟩
  replace S:=back _ _ _ _ S2 rfl
  clear back S2 SB8
  refine zb ?_
  refine zJ rfl (fun hc9=>?_) (fun hc9=>?_)
  ·replace H:=if_t hc9 H
   refine zd (za (wd (zj rfl) (wd (zh rfl) (zb (zr ?_)))))
   refine ⟨_,(zQ (ze rfl)),?_⟩
   replace S:=S.arr [] []
   obtain rfl:=zbN H
   obtain rfl:=e1
   obtain rfl:=jB Ho1
   exact ⟨rfl,S⟩
  replace H:=if_f hc9 H
  refine zy (za (wd (xp q1_i rfl (c:=i1 + 1) rfl zbK zbK) (wd (zj rfl) (zb ?_))))
  replace S:=S.arr [] [1]
  obtain rfl:=zbN H
  exact ⟨rfl,((((((((((((Dif.self _ _ _).upd rfl _).upd rfl _).upd rfl _).upd rfl _).upd rfl _).upd rfl _).upd rfl _).upd rfl _).upd rfl _).upd rfl _).upd rfl _),(m1,i1 + 1,()),⟨(by dsimp only; omega),(by dsimp only; omega),e1,rfl,S⟩,by dsimp only; omega⟩
 rintro g10 u11 ⟨s1,rfl,S⟩
 have H:=Ho1
 dsimp only [aft] at H
 refine zd (za (wd (zh rfl) (zb (zr ?_))))
 refine ⟨_,(zQ (ze rfl)),?_⟩
 replace S:=S.arr [] []
 obtain rfl:=zbN H
 exact ⟨rfl,S⟩
theorem vh {zes:PTerm→Option Bool} (zec : ∀ {A:Nat→Prop} {N:Oth} {w:World} {a0:PTerm} {s_0:SlV} (S:St A N w w [] [zg s_0 a0.sub]) {r:Bool} (H:zes a0=some r),Calls PP v8 #[.agg (tmC a0 s_0).toArray] w fun e w' => ∃ v,e = .returned v∧(v = .bool r∧St A N w w' [] [])) {A:Nat→Prop} {N:Oth} {w:World} {a0:List PTerm} {s_0:SlV} (S:St A N w w [] [zg s_0 a0]) {r:Bool} (H:zci.g zes a0=some r) :
  Calls PP yg #[s_0.v,.func (.func j1) #[] #[]] w fun e w' => ∃ v,e = .returned v∧(v = .bool r∧St A N w w' [] []):=by
 unfold zci.g at H
 refine zx (n:=9) yW rfl rfl zbL (zd (za (wd (zi rfl) (zb (zd (za (wd (zT rfl) ?_)))))))
 refine wd (jP rfl) ?_
 obtain ⟨r1,er1,H⟩ := zq H
 obtain ⟨B3,MB3,SB3,back⟩ := S.calln 0 ((.z 0 rfl .nil))
 refine zw (zt vm) zbJ (vD zec SB3 er1) ?_
 rintro _ w2 ⟨rfl,S2⟩
 replace S:=back _ _ _ _ S2 rfl
 clear back S2 SB3
 refine wd (jn rfl rfl) (wd (zi rfl) (zb (zr ?_)))
 refine ⟨_,(zQ (ze rfl)),?_⟩
 replace S:=S.arr [] []
 obtain rfl:=zbN H
 exact ⟨rfl,S⟩
theorem term_right_gst {zes:PTerm→Option Bool} (zec : ∀ {A:Nat→Prop} {N:Oth} {w:World} {a0:PTerm} {s_0:SlV} (S:St A N w w [] [zg s_0 a0.sub]) {r:Bool} (H:zes a0=some r),Calls PP v8 #[.agg (tmC a0 s_0).toArray] w fun e w' => ∃ v,e = .returned v∧(v = .bool r∧St A N w w' [] [])) {A:Nat→Prop} {N:Oth} {w:World} {a0:PTerm} {s_0:SlV} (S:St A N w w [] [zg s_0 a0.sub]) {r:Bool} (H:zcj.g zes a0=some r) :
  Calls PP v8 #[.agg (tmC a0 s_0).toArray] w fun e w' => ∃ v,e = .returned v∧(v = .bool r∧St A N w w' [] []):=by
 unfold zcj.g at H
 refine zx (n:=60) fn_term_right rfl rfl zbL (zd (za ?_))
 refine zE rfl zbJ fun b2 w1 hw1=>?_
 replace S:=S.new hw1
 refine wd (zi rfl) (zb (zd (za (wd (zf xd rfl (o':=0) rfl) (wd (zl zW rfl ((S.blk 0).cell (Term.get_kind _))) ?_)))))
 obtain ⟨r3,er3,H⟩ := zq H
 obtain ⟨B5,MB5,SB5,back⟩ := S.calln 0 ((.nil))
 refine zw (zt ca_term_shape) zbJ (term_shape_st SB5 er3) ?_
 rintro _ w4 ⟨rfl,S2⟩
 replace S:=back _ _ _ _ S2 rfl
 clear back S2 SB5
 refine wd (zX rfl) (wd (zn rfl rfl) (wd (zn rfl rfl) (wd (zn rfl rfl) (wd (zn rfl rfl) (wd (zh rfl) ?_)))))
 refine wd (zi rfl) (wd (zi rfl) (wd (zi rfl) (zb (zd (zd (za (wd (zA rfl) ?_)))))))
 refine wd (xh rfl) (wd (zA rfl) ?_)
 refine wg (fun hg=>zf zG rfl (o':=4) rfl) ?_
 refine wg (fun hg=>zl zB (zp hg) ((S.blk 0).cell (Term.get_sub _))) ?_
 refine wg (fun hg=>does_lenF zz (zp hg) (S.onZ 0)) ?_
 refine wg (fun hg=>zj rfl) ?_
 refine wg (fun hg=>xw (zp hg) (zp hg)) (wd (xD rfl (fun hp=>(zp (xt hp)))) (wd (zA rfl) ?_))
 refine wg (fun hg=>zf xH rfl (o':=1) rfl) ?_
 refine wg (fun hg=>zl xl (zp hg) ((S.blk 0).cell (Term.get_name _))) ?_
 refine wg (fun hg=>zA rfl) ?_
 obtain ⟨r6,er6,H⟩ := zq H
 refine xN (j:=9) (pol:=false) rfl rfl rfl zbJ (fun hg=>zF ca_term_named (zK (zp hg) (zK (zp hg) rfl))) zbJ (fun hg=>(have ⟨M,SS⟩ := S.lend ((.nil)); quiet (term_named_st SS (if_t (by simpa using hg) er6)) (fun v w' h=>⟨h.1,_,_,h.2⟩))) fun w7 hw7=>?_
 replace S:=S.ext hw7
 refine wg (fun hg=>xh (zp hg)) (wd (xD rfl (fun hp=>(zp (xt hp)))) (wd (zA rfl) ?_))
 refine wg (fun hg=>zf vH rfl (o':=2) rfl) ?_
 refine wg (fun hg=>zl xl (zp hg) ((S.blk 0).cell (Term.get_other _))) ?_
 refine wg (fun hg=>zA rfl) ?_
 obtain ⟨r8,er8,H⟩ := zq H
 refine xN (j:=16) (pol:=false) rfl rfl rfl zbJ (fun hg=>zF ca_term_named (zK (zp hg) (zK (zp hg) rfl))) zbJ (fun hg=>(have ⟨M,SS⟩ := S.lend ((.nil)); quiet (term_named_st SS (if_t (by simpa using hg) er8)) (fun v w' h=>⟨h.1,_,_,h.2⟩))) fun w9 hw9=>?_
 replace S:=S.ext hw9
 refine wg (fun hg=>xh (zp hg)) (wd (xD rfl (fun hp=>(zp (xt hp)))) (zb ?_))
 refine zJ rfl (fun hc10=>?_) (fun hc10=>?_)
 ·replace H:=if_t hc10 H
  refine zd (za (wd (zi rfl) (zb (zr ?_))))
  refine ⟨_,(zQ (ze rfl)),?_⟩
  replace S:=S.arr [] []
  obtain rfl:=zbN H
  exact ⟨rfl,S⟩
 replace H:=if_f hc10 H
 refine zy (zd (zd (za (wd (zf xd rfl (o':=0) rfl) (wd (zl zW rfl ((S.blk 0).cell (Term.get_kind _))) (wd (xw rfl rfl) (wd (zA rfl) ?_)))))))
 refine wg (fun hg=>zf yI rfl (o':=3) rfl) ?_
 refine wg (fun hg=>zl xr (zp hg) ((S.blk 0).cell (Term.get_form _))) ?_
 refine wg (fun hg=>xw (zp hg) rfl) (wd (z7 rfl (fun hp=>(zp (xt hp)))) (wd (zA rfl) ?_))
 refine wg (fun hg=>zf yI rfl (o':=3) rfl) ?_
 refine wg (fun hg=>zl xr (zp hg) ((S.blk 0).cell (Term.get_form _))) ?_
 refine wg (fun hg=>xz (zp hg) rfl) (wd (xD rfl (fun hp=>(zp (xt hp)))) (wd (zA rfl) ?_))
 refine wg (fun hg=>zf yI rfl (o':=3) rfl) ?_
 refine wg (fun hg=>zl xr (zp hg) ((S.blk 0).cell (Term.get_form _))) ?_
 refine wg (fun hg=>jn (zp hg) rfl) (wd (xD rfl (fun hp=>(zp (xt hp)))) (zb ?_))
 refine zJ rfl (fun hc11=>?_) (fun hc11=>?_)
 ·replace H:=if_t hc11 H
  refine zd (za (wd (zi rfl) (zb (zr ?_))))
  refine ⟨_,(zQ (ze rfl)),?_⟩
  replace S:=S.arr [] []
  obtain rfl:=zbN H
  exact ⟨rfl,S⟩
 replace H:=if_f hc11 H
 refine zy (zd (za (wd (zf zG rfl (o':=4) rfl) (wd (zl zB rfl ((S.blk 0).cell (Term.get_sub _))) ?_))))
 obtain ⟨r12,er12,H⟩ := zq H
 obtain ⟨B14,MB14,SB14,back⟩ := S.calln 0 ((.z 0 rfl .nil))
 refine zw (zt yT) zbJ (vh zec SB14 er12) ?_
 rintro _ w13 ⟨rfl,S2⟩
 replace S:=back _ _ _ _ S2 rfl
 clear back S2 SB14
 refine wd (xh rfl) (wd (zi rfl) (zb (zr ?_)))
 refine ⟨_,(zQ (ze rfl)),?_⟩
 replace S:=S.arr [] []
 obtain rfl:=zbN H
 exact ⟨rfl,S⟩
theorem term_right_st {A:Nat→Prop} {N:Oth} {w:World} {a0:PTerm} {s_0:SlV} (S:St A N w w [] [zg s_0 a0.sub]) {k:Nat} {r:Bool} (H:zcj.f k a0=some r) :
  Calls PP v8 #[.agg (tmC a0 s_0).toArray] w fun e w' => ∃ v,e = .returned v∧(v = .bool r∧St A N w w' [] []):=by
 have main : ∀ (k:Nat) {A:Nat→Prop} {N:Oth} {w:World} {a0:PTerm} {s_0:SlV} (S:St A N w w [] [zg s_0 a0.sub]) {r:Bool} (H:zcj.f k a0=some r),Calls PP v8 #[.agg (tmC a0 s_0).toArray] w fun e w' => ∃ v,e = .returned v∧(v = .bool r∧St A N w w' [] []):=by
  intro k
  induction k with
  | zero=>intro A N w a0 s_0 S r H; cases H
  | succ k ih=>intro A N w a0 s_0 S r H; exact term_right_gst ih S H
 exact main k S H
theorem uM {A:Nat→Prop} {N:Oth} {w:World} {a0:PTerm} {s_0:SlV} (S:St A N w w [] [zg s_0 a0.sub]) {k:Nat} {r:Int} (H:zck.f k a0=some r) :
  Calls PP F_term_Check #[.agg (tmC a0 s_0).toArray] w fun e w' => ∃ v,e = .returned v∧(v = .int .i64 r∧St A N w w' [] []):=by
 unfold zck.f at H
 refine zx (n:=16) fn_term_Check rfl rfl zbL (zd (za ?_))
 refine zE rfl zbJ fun b2 w1 hw1=>?_
 replace S:=S.new hw1
 refine wd (zh rfl) (zb (zd ?_))
 refine zO (zd (za (wd (zm zS rfl ((S.blk 0).all _ (Term.len _)) (Term.len _)) ?_)))
 obtain ⟨r3,er3,H⟩ := zq H
 obtain ⟨B5,MB5,SB5,back⟩ := S.calln 0 ((.z 0 rfl .nil))
 refine zw (zt ca_term_Size) zbJ (term_Size_st (a0:=a0) SB5 er3) ?_
 rintro _ w4 ⟨rfl,S2⟩
 replace S:=back _ _ _ _ S2 rfl
 clear back S2 SB5
 refine wd (zax rfl rfl) (wd (zA rfl) ?_)
 refine wg (fun hg=>zm zS rfl ((S.blk 0).all _ (Term.len _)) (Term.len _)) ?_
 obtain ⟨r6,er6,H⟩ := zq H
 refine xN (j:=3) (pol:=false) rfl rfl rfl zbJ (fun hg=>zF ca_term_Deep (zK (zp hg) rfl)) zbJ (fun hg=>(have ⟨M,SS⟩ := S.lend ((.z 0 rfl .nil)); quiet (term_Deep_st (a0:=a0) SS (if_t (by simpa using hg) er6)) (fun v w' h=>⟨h.1,_,_,h.2⟩))) fun w7 hw7=>?_
 replace S:=S.ext hw7
 refine wg (fun hg=>zax (zp hg) rfl) (wd (xD rfl (fun hp=>(zp (xt hp)))) (wd (zi rfl) (zb ?_)))
 refine zJ rfl (fun hc8=>?_) (fun hc8=>?_)
 ·replace H:=if_t hc8 H
  refine zd (za (wd (zh rfl) (zb (zr ?_))))
  refine ⟨_,(zQ (ze rfl)),?_⟩
  replace S:=S.arr [] []
  obtain rfl:=zbN H
  exact ⟨rfl,S⟩
 replace H:=if_f hc8 H
 refine zd (za (wd (zm zS rfl ((S.blk 0).all _ (Term.len _)) (Term.len _)) ?_))
 obtain ⟨r9,er9,H⟩ := zq H
 obtain ⟨B11,MB11,SB11,back⟩ := S.calln 0 ((.z 0 rfl .nil))
 refine zw (zt ca_term_right) zbJ (term_right_st (a0:=a0) SB11 er9) ?_
 rintro _ w10 ⟨rfl,S2⟩
 replace S:=back _ _ _ _ S2 rfl
 clear back S2 SB11
 refine wd (xh rfl) (wd (zi rfl) (zb ?_))
 refine zJ rfl (fun hc12=>?_) (fun hc12=>?_)
 ·replace H:=if_t hc12 H
  refine zd (za (wd (zh rfl) (zb (zr ?_))))
  refine ⟨_,(zQ (ze rfl)),?_⟩
  replace S:=S.arr [] []
  obtain rfl:=zbN H
  exact ⟨rfl,S⟩
 replace H:=if_f hc12 H
 refine zy (zd (za (wd (zh rfl) (zb (zr ?_)))))
 refine ⟨_,(zQ (ze rfl)),?_⟩
 replace S:=S.arr [] []
 obtain rfl:=zbN H
 exact ⟨rfl,S⟩
end
section
open Go.RowKit
namespace Gw
section
variable {P:Program} {F:Fence} {n:Nat} {a:Act} {w:World}
theorem wpIn_scope_straight {c:Code} {Q:Exit→Act→World→Prop} (h:c.wpIn F n P (fun e a w=>match e with | .goto _=>False | e=>Q e a w) a w):(Code.scope c).wpIn F n P Q a w:=by
 intro b k cs hro hb hr
 have h0:(lone (b.atR a (.code (.scope c) :: k)) cs w).fenced P F:=fenced_calm hb hr rfl
 have s0:step P (lone (b.atR a (.code (.scope c) :: k)) cs w) = .next (lone (b.atR a (.code c :: .inScope c :: k)) cs w):=step_lone_go (by simp [stepG,stepG.exec,Frame.atR])
 have s1 : ∀ a w,step P (lone (b.atR a (.inScope c :: k)) cs w) = .next (lone (b.atR a k) cs w):=fun a w=>step_lone_go (by simp [stepG,stepG.exec,Frame.atR])
 obtain ⟨e,a₁,w₁,hq,harr⟩ := h b (.inScope c :: k) cs hro hb hr
 cases e with
 | normal=>exact ⟨.normal,a₁,w₁,hq,.head h0 s0 (StepsIn.trans harr (.one (fenced_calm hb hr rfl) (s1 _ _)))⟩
 | exit id =>
  have hx:exitTo id (.inScope c :: k)=exitTo id k:=by simp [exitTo]
  exact ⟨_,a₁,w₁,hq,fun k' hk => .head h0 s0 (harr.1 k' (by rw [hx]; exact hk)),fun hr' hk=>let ⟨k₁,h1,h2⟩ := harr.2 hr' (by rw [hx]; exact hk); ⟨k₁,h1,.head h0 s0 h2⟩⟩
 | goto l=>exact hq.elim
 | ret=>exact ⟨_,a₁,w₁,hq,.of_steps (.one h0 s0) harr⟩
 | panic ch=>exact ⟨_,a₁,w₁,hq,.of_steps (.one h0 s0) harr⟩
 | outgrown=>exact ⟨_,a₁,w₁,hq,.of_steps (.one h0 s0) harr⟩
end
section
variable {P:Program} {rd:Option Nat} {n:Nat} {dm:List Nat} {Q:Post} {f:Fr} {w:World}
theorem wc_label {l:Nat} (h:Q dm .normal f w):wc P rd n dm (.label l) Q f w:=fun _ ha=>wpIn_label ⟨dm,f,ha,h⟩
theorem wc_scope {c:Code} (h:wc P rd n dm c (fun dm e f w=>match e with | .goto _=>False | e=>Q dm e f w) f w):wc P rd n dm (.scope c) Q f w:=fun a ha =>
 wpIn_scope_straight (wpIn_mono (h a ha) fun e a' w' ⟨dm',f',hf',q⟩ => by
  cases e with
  | goto l=>exact q.elim
  | _=>exact ⟨dm',f',hf',q⟩)
end
end Gw
end
section
open Go.RowKit
namespace Gw
def obPost4 (dm:List Nat) (D:Draw) (T:(Nat→Bool)→Fr→World→Prop) (L:Nat→Bool) (i:Nat) (d:Option Tmp) (g f:Fr) (w:World):Post:=fun dm' e f' w'=>e = .normal∧dm'=dm∧D.Le L w w'∧match d with
 | some d => ∃ v,f'=upd f d v∧D.V i v w'∧T (plus L i) (upd g d v) w'
 | none=>f'=f∧(∀ v,D.V i v w')∧T (plus L i) g w'
theorem ob4 {dm:List Nat} {D:Draw} {T:(Nat→Bool)→Fr→World→Prop} {L:Nat→Bool} {i:Nat} {d:Tmp} {g f:Fr} {w w':World} {v:Value} (hL:D.Le L w w') (hV:D.V i v w') (hT:T (plus L i) (upd g d v) w'):obPost4 dm D T L i (some d) g f w dm .normal (upd f d v) w':=⟨rfl,rfl,hL,v,rfl,hV,hT⟩
theorem ob40 {dm:List Nat} {D:Draw} {T:(Nat→Bool)→Fr→World→Prop} {L:Nat→Bool} {i:Nat} {g f:Fr} {w w':World} (hL:D.Le L w w') (hV : ∀ v,D.V i v w') (hT:T (plus L i) g w'):obPost4 dm D T L i none g f w dm .normal f w':=⟨rfl,rfl,hL,rfl,hV,hT⟩
section
variable {P:Program} {rd:Option Nat} {n m:Nat} {dm:List Nat} {ops:Array Oper} {Q:Post} {f:Fr} {w:World}
end
section
variable {w0:World} {ia ist da t d i:Nat} {zc fc:List Value} {L:Nat→Bool} {g:Fr} {v v':World} {x:Value}
theorem plus_ne {j:Nat} (h:Nat.beq j i=false):plus L i j=L j:=by simp only [plus,h,Bool.false_or]
end
end Gw
end
section
open Go.RowKit
namespace Gw
def Owe5 (P:Program) (rd:Option Nat) (n:Nat) (dm:List Nat) (ops:Array Oper) (ds:List Nat) (D:Draw) (T:(Nat→Bool)→Fr→World→Prop) (f:Fr) (i:Nat) (o:Oper):Prop :=
 ∀ (L:Nat→Bool) (g:Fr) (w:World),L i=false→(∀ j,((Region.before ops).getD i 0).testBit j=true→L j=true)→(∀ j q,L j=true→((Region.before ops).getD j 0).testBit q=true→L q=true)→T L g w→givens ops D g w (ve o) (wl P rd n dm ops [o] (obPost4 dm D T L i o.dst g (mask ds g f) w) (mask ds g f) w)
def Owes5 (P:Program) (rd:Option Nat) (n:Nat) (dm:List Nat) (ops:Array Oper) (ds:List Nat) (D:Draw) (T:(Nat→Bool)→Fr→World→Prop) (f:Fr):List Oper→Nat→Prop
 | [],_=>True
 | o :: l,i=>Owe5 P rd n dm ops ds D T f i o∧Owes5 P rd n dm ops ds D T f l (i + 1)
section
variable {P:Program} {rd:Option Nat} {n m:Nat} {dm:List Nat} {ops:Array Oper} {Q:Post} {f:Fr} {w:World}
theorem clos_of {l:List Oper} {j q:Nat} {listed:Array Bool} (hc:Closed l.toArray listed) (hj:listed.getD j false=true) (hq:((Region.before l.toArray).getD j 0).testBit q=true):listed.getD q false=true:=by
 by_cases hl:j < l.length
 ·have ho:l.toArray[j]? = some l[j]:=by simp [hl]
  refine jl hc [] #[] rfl zbL zbL l.toArray.toList zbL j (by simpa using hl) q ?_ ?_
  ·unfold Region.before at hq
   rw [← Array.foldl_toList] at hq
   exact hq
  ·rw [ho]
   intro e he hb
   exact hc j _ ho hj e (by simpa using he) hb
 ·have h0:(Region.before l.toArray).getD j 0=0:=by
   have hs:(Region.before l.toArray).size=l.length:=by
    unfold Region.before
    rw [← Array.foldl_toList]
    have:=before_foldl l #[]
    simpa using this
   rw [Array.getD_eq_getD_getElem?,Array.getElem?_eq_none zbK]; rfl
  rw [h0] at hq; simp at hq
theorem owes5_at {ds:List Nat} {D:Draw} {T:(Nat→Bool)→Fr→World→Prop} : ∀ (l:List Oper) (i:Nat),Owes5 P rd n dm ops ds D T f l i → ∀ j o,l[j]? = some o→Owe5 P rd n dm ops ds D T f (i + j) o
 | [],_,_,j,o,hj=>by simp at hj
 | o :: l,i,h,0,o',hj=>by simp at hj; subst hj; exact h.1
 | o :: l,i,h,j + 1,o',hj=>by
  have:=owes5_at l (i + 1) h.2 j o' (by simpa using hj)
  rwa [show i + 1 + j=i + (j + 1) by omega] at this
theorem vz {id:Nat} {l:List Oper} (m:Nat) (D:Draw) (T:(Nat→Bool)→Fr→World→Prop) (hm:P.follows .mixedOrders=true) (hB:drawB2 l.toArray m=true)
  (hst : ∀ L i v w w',L i=true→D.Le L w w'→D.V i v w→D.V i v w') (hT : ∀ g,T (fun _=>false) g { w with drawn:=w.drawn + 1 })
  (ho:Owes5 P rd n dm l.toArray ((l.take m).filterMap (·.dst)) D T f (l.take m) 0)
  (hq : ∀ L g w,(∀ j,L j=decide (j < m))→T L g w→allV D g w (l.take m) 0 (wl P rd n dm l.toArray (l.drop m) Q (mask ((l.take m).filterMap (·.dst)) g f) w)):wc P rd n dm (.region id l.toArray true) Q f w:=by
 intro a ha
 refine wpIn_region_any hm ?_
 simp only [drawB2,Bool.and_eq_true,decide_eq_true_eq,List.all_eq_true] at hB
 obtain ⟨⟨⟨hnd,hback⟩,htail⟩,hml⟩ := hB
 simp only [List.size_toArray] at hml
 generalize hds:(l.take m).filterMap (·.dst)=ds at *
 have hb:Back l.toArray:=by
  intro i o hi e he hbd
  have:=hback (o,i) (by
   rw [List.mem_zipIdx_iff_getElem?]
   simpa using hi) e (by simpa using he)
  simp only [hbd,Bool.not_true,Bool.false_or,decide_eq_true_eq] at this
  exact this
 have hord : ∀ k,m ≤ k→k < l.toArray.size → ∀ listed:Array Bool,listed.size=l.toArray.size→k ∈ Region.ready .any l.toArray listed→Closed l.toArray listed → ∀ j,j < k→listed.getD j false=true:=by
  intro k hmk hk listed hs hr hc j hj
  have hkl:k < l.length:=by simpa using hk
  have h1:=htail (l[k],k) (by
   rw [List.mem_zipIdx_iff_getElem?]
   simp)
  simp only [Bool.or_eq_true,decide_eq_true_eq] at h1
  rcases h1 with h1 | h1
  ·omega
  ·rw [List.all_eq_true] at h1
   have h2:=h1 j (by simpa using hj)
   rw [mem_ready] at hr
   obtain ⟨_,o,ho',hall⟩ := hr
   refine jl hc [] #[] rfl zbL zbL l.toArray.toList zbL k hk j ?_ ?_
   ·unfold Region.before at h2
    rw [← Array.foldl_toList] at h2
    exact h2
   ·rw [ho']
    simpa using hall
 have hmd : ∀ j o,(l.take m)[j]? = some o→j < m∧l.toArray[j]? = some o ∧ ∀ d,o.dst=some d→d ∈ ds:=by
  intro j o hj
  have hjm:j < m:=by
   have:=(List.getElem?_eq_some_iff.1 hj).1
   simp at this; omega
  have hjo:l[j]? = some o:=by rw [List.getElem?_take] at hj; simpa [hjm] using hj
  exact ⟨hjm,by simpa using hjo,fun d hd=>by rw [← hds]; exact List.mem_filterMap.2 ⟨o,List.mem_of_getElem? hj,hd⟩⟩
 have hinj : ∀ (i j:Nat) (oi oj:Oper) (d:Nat),(l.take m)[i]? = some oi→(l.take m)[j]? = some oj→oi.dst=some d→oj.dst=some d→i=j:=by
  have hgen : ∀ (L:List Oper),(L.filterMap (·.dst)).Nodup → ∀ (i j:Nat) (oi oj:Oper) (d:Nat),L[i]? = some oi→L[j]? = some oj→oi.dst=some d→oj.dst=some d→i=j:=by
   intro L
   induction L with
   | nil=>intro _ i j oi oj d h; simp at h
   | cons o L ih =>
    intro hn i j oi oj d hi hj hdi hdj
    have hn':(L.filterMap (·.dst)).Nodup:=by
     rw [List.filterMap_cons] at hn
     split at hn
     ·exact hn
     ·exact (List.nodup_cons.1 hn).2
    have hno : ∀ (k:Nat) (ok:Oper) (dd:Nat),L[k]? = some ok→o.dst=some dd→ok.dst ≠ some dd:=by
     intro k ok dd hk hod hkd
     rw [List.filterMap_cons,hod] at hn
     exact (List.nodup_cons.1 hn).1 (List.mem_filterMap.2 ⟨ok,List.mem_of_getElem? hk,hkd⟩)
    cases i with
    | zero =>
     cases j with
     | zero=>rfl
     | succ j=>simp at hi; subst hi; exact absurd hdj (hno j oj d (by simpa using hj) hdi)
    | succ i =>
     cases j with
     | zero=>simp at hj; subst hj; exact absurd hdi (hno i oi d (by simpa using hi) hdj)
     | succ j=>rw [ih hn' i j oi oj d (by simpa using hi) (by simpa using hj) hdi hdj]
  exact hgen _ (by rw [hds]; exact hnd)
 have main : ∀ (fuel:Nat) (listed:Array Bool) (g:Fr) (a:Act) (w:World),listed.size=l.length→fuel + cnt listed l.length=l.length→Closed l.toArray listed→(∀ j,m ≤ j→j < l.length→listed.getD j false=false) →
   Is n dm a (mask ds g f)→T (fun j=>listed.getD j false) g w→(∀ j o,(l.take m)[j]? = some o→listed.getD j false=true→overV D g w j o.dst)→wpAnyIn (fen rd) 0 P .any l.toArray (lift n Q) fuel listed a w:=by
  intro fuel
  induction fuel with
  | zero =>
   intro listed g a w hs hcnt hc hno ha hT hV
   have hall:=cnt_full listed l.length zbK
   have hm':m=l.length:=by
    by_cases h:m < l.length
    ·have:=hno m (Nat.le_refl _) h
     rw [hall m h] at this
     cases this
    ·omega
   have hfin:=jk (l.take m) 0 (fun j o hj=>by rw [Nat.zero_add]; exact (hV j o hj (hall j (by have:=(hmd j o hj).1; omega))).get) (hq _ g w (fun j=>by
    by_cases hj:j < l.length
    ·rw [hall j hj,decide_eq_true zbK]
    ·rw [jp listed j zbK,decide_eq_false zbK]) hT)
   rw [List.drop_eq_nil_of_le zbK] at hfin
   refine ⟨?_,?_⟩
   ·refine List.eq_nil_iff_forall_not_mem.2 fun i hi=>?_
    obtain ⟨h1,h2⟩ := jh (ops:=l.toArray) (by simpa using hs) hi
    rw [hall i (by simpa using h1)] at h2
    cases h2
   ·exact hfin a ha
  | succ fuel ih =>
   intro listed g a w hs hcnt hc hno ha hT hV
   have hs':listed.size=l.toArray.size:=by simpa using hs
   refine ⟨fun hr=>?_,fun i hi=>?_⟩
   ·have hall:=ready_nil hb hs' hr
    have:=zaw listed l.length (fun j hj=>hall j (by simpa using hj))
    omega
   ·obtain ⟨h1,h2⟩ := jh hs' hi
    have h1':i < l.length:=by simpa using h1
    by_cases him:i < m
    ·have hio:(l.take m)[i]? = some l[i]:=by
      rw [List.getElem?_take,if_pos him]
      exact List.getElem?_eq_getElem h1'
     obtain ⟨_,hio',hdds⟩ := hmd i _ hio
     have howe:=owes5_at _ 0 ho i _ hio (fun j=>listed.getD j false) g w (by rw [Nat.zero_add]; exact h2) (fun j hj=>by rw [Nat.zero_add] at hj; exact ord_of h1' hj hi hc) (fun j q hj hq=>clos_of hc hj hq) hT
     rw [Nat.zero_add] at howe
     have hready:=hi
     rw [mem_ready] at hready
     obtain ⟨_,o,hoo,hall⟩ := hready
     rw [hio'] at hoo
     cases hoo
     have hwl:=zae (ops:=l.toArray) (ve l[i]) (fun j hj=>by
      unfold ve at hj
      obtain ⟨e,he,rfl⟩ := List.mem_map.1 hj
      obtain ⟨he1,he2⟩ := List.mem_filter.1 he
      have hbd:Region.binds .any e=true:=by
       unfold Region.binds
       cases hg:e.ground <;> rw [hg] at he2 <;> simp at he2 ⊢
      have hlt:=hb i _ hio' e (by simpa using he1) hbd
      have hlst:=hall e (by simpa using he1) hbd
      have hjm:e.on < m:=by omega
      have hjo:(l.take m)[e.on]? = some l[e.on]:=by
       rw [List.getElem?_take,if_pos hjm]
       exact List.getElem?_eq_getElem zbK
      have:=(hV e.on _ hjo hlst).get
      unfold yz
      obtain ⟨_,hj2,_⟩ := hmd _ _ hjo
      rw [hj2]
      simp only [Option.bind_some]
      exact this) howe
     refine wpOp_of_wl hio' hwl (fun dm e f' w' q=>q.1) ?_ ha
     rintro dm' a' f' w' ha' ⟨_,rfl,hL',hV'⟩
     cases hd:l[i].dst with
     | none =>
      rw [hd] at hV'
      obtain ⟨rfl,hV',hT'⟩ := hV'
      rw [plus_set listed i zbK] at hT'
      refine ih _ g a' w' (by simpa using hs) ?_ (hc.set hs' hi) ?_ ha' hT' ?_
      ·rw [cnt_set listed i zbK h2,if_pos h1']; omega
      ·intro j hmj hjl
       rw [vd _ _ _ zbK,if_neg zbK]
       exact hno j hmj hjl
      ·intro j oj hj hlj
       rw [vd _ _ _ zbK] at hlj
       by_cases hij:i=j
       ·subst hij
        rw [hio] at hj
        cases hj
        rw [hd]
        exact hV'
       ·rw [if_neg hij] at hlj
        have hvj:=hV j oj hj hlj
        cases hdj:oj.dst with
        | none=>rw [hdj] at hvj; exact fun v=>hst _ j _ _ _ hlj hL' (hvj v)
        | some dj=>rw [hdj] at hvj; exact hst _ j _ _ _ hlj hL' hvj
     | some d =>
     rw [hd] at hV'
     obtain ⟨v,rfl,hV',hT'⟩ := hV'
     rw [plus_set listed i zbK] at hT'
     have hdds:=hdds d hd
     have hmask:upd (mask ds g f) d v=mask ds (upd g d v) f:=by
      funext k
      by_cases hk:k=d
      ·subst hk
       rw [upd_same,xW hdds,upd_same]
      ·rw [yd _ _ _ _ hk]
       by_cases hkd:k ∈ ds
       ·rw [xW hkd,xW hkd,yd _ _ _ _ hk]
       ·rw [xM hkd,xM hkd]
     rw [hmask] at ha'
     refine ih _ (upd g d v) a' w' (by simpa using hs) ?_ (hc.set hs' hi) ?_ ha' hT' ?_
     ·rw [cnt_set listed i zbK h2,if_pos h1']; omega
     ·intro j hmj hjl
      rw [vd _ _ _ zbK,if_neg zbK]
      exact hno j hmj hjl
     ·intro j oj hj hlj
      rw [vd _ _ _ zbK] at hlj
      by_cases hij:i=j
      ·subst hij
       rw [hio] at hj
       cases hj
       rw [hd]
       show D.V i (upd g d v d) _
       rw [upd_same]
       exact hV'
      ·rw [if_neg hij] at hlj
       have hvj:=hV j oj hj hlj
       cases hdj:oj.dst with
       | none=>rw [hdj] at hvj; exact fun v=>hst _ j _ _ _ hlj hL' (hvj v)
       | some dj =>
        rw [hdj] at hvj
        have hne:dj ≠ d:=fun e=>hij (hinj i j _ oj d hio hj hd (by rw [hdj,e]))
        show D.V j (upd g d v dj) _
        rw [yd _ _ _ _ hne]
        exact hst _ j _ _ _ hlj hL' hvj
    ·have hallj:=hord i zbK h1 listed hs' hi hc
     have him':i=m:=by
      by_cases h:m < i
      ·have:=hno m (Nat.le_refl _) zbK
       rw [hallj m h] at this
       cases this
      ·omega
     subst him'
     have hfin:=jk (l.take i) 0 (fun j o hj=>by rw [Nat.zero_add]; exact (hV j o hj (hallj j (by have:=(hmd j o hj).1; omega))).get) (hq _ g w (fun j=>by
      by_cases hj:j < i
      ·rw [hallj j hj,decide_eq_true hj]
      ·rw [decide_eq_false hj]
       by_cases hjl:j < l.length
       ·exact hno j zbK hjl
       ·exact jp listed j zbK) hT)
     have hfa:=hfin a ha
     have hcn:cnt listed l.length=i:=by
      have hz : ∀ k,i ≤ k→k ≤ l.length→cnt listed k=i:=by
       intro k
       induction k with
       | zero=>intro h _; rw [show i=0 by omega]; rfl
       | succ k ihk =>
        intro h1 h2
        by_cases hk:i ≤ k
        ·rw [kZ,ihk hk zbK,hno k hk zbK]; simp
        ·have:k + 1=i:=by omega
         rw [this]
         exact zaw listed i hallj
      exact hz _ zbK (Nat.le_refl _)
     have htl:=any_tail (rd:=rd) (P:=P) (m:=i) (R:=lift n Q) hb hord (fuel + 1) i listed a w (Nat.le_refl _) hs' hc (fun j hj=>⟨(fun h=>by
      refine Nat.lt_of_not_le fun hij=>?_
      rw [hno j hij (by simpa using hj)] at h
      cases h),hallj j⟩) (by simp; omega) hfa
     exact htl.2 i hi
 have h0:Is n dm a (mask ds f f):=by
  have:mask ds f f=f:=by funext k; unfold mask; cases ds.elem k <;> rfl
  rw [this]; exact ha
 have hz:cnt (Array.replicate l.toArray.size false) l.length=0:=by
  unfold cnt
  rw [List.length_eq_zero_iff]
  refine List.filter_eq_nil_iff.2 fun j hj=>?_
  rw [yl]
  simp
 refine main _ _ f a _ zbL (by rw [hz]; simp) ?_ (by intro j _ _; rw [yl]) h0 (by rw [show (fun j=>(Array.replicate l.toArray.size false).getD j false)=fun _=>false from funext fun j=>yl _ j]; exact hT _) ?_
 ·intro j o _ h; rw [yl] at h; cases h
 ·intro j o _ h; rw [yl] at h; cases h
theorem yh {L:Nat→Bool} {i:Nat}:plus L i i=true:=by simp [plus]
end
end Gw
end
section
open Go.RowKit
namespace Gw
def Made {γ:Type} (L:Nat→Bool) (g:Fr) (Z:List OA) (j:Nat) (d:Tmp) (val:γ→Value) (ps:γ→List OA):Prop:=L j=true → ∃ c:γ,g d=val c ∧ ∀ z ∈ ps c,z ∈ Z
section
variable {γ:Type} {L:Nat→Bool} {g:Fr} {Z Z':List OA} {i j:Nat} {d e:Tmp} {x:Value} {val:γ→Value} {ps:γ→List OA}
theorem Made.no:Made (fun _=>false) g Z j d val ps:=fun h=>by cases h
theorem Made.keep (h:Made L g Z j d val ps) (h1:Nat.beq j i=false) (h2:Nat.beq d e=false) (hs : ∀ z ∈ Z,z ∈ Z'):Made (plus L i) (upd g e x) Z' j d val ps:=fun hl=>by
 rw [plus_ne h1] at hl
 obtain ⟨c,hc,hp⟩ := h hl
 exact ⟨c,by rw [yd _ _ _ _ (by intro q; rw [q] at h2; simp at h2)]; exact hc,fun z hz=>hs z (hp z hz)⟩
theorem Made.one (c:γ) (hp : ∀ z ∈ ps c,z ∈ Z'):Made (plus L i) (upd g d (val c)) Z' i d val ps:=fun _=>⟨c,upd_same _ _ _,hp⟩
theorem clF {a b:Bool} (hb:b=false) (h:a=true→b=true):a=false:=by
 cases a with
 | false=>rfl
 | true=>rw [h rfl] at hb; exact hb
theorem pN (L:Nat→Bool) (i j:Nat) (h:Nat.beq j i=false:=by rfl):plus L i j=L j:=plus_ne h
theorem kpP {X:Prop} (hk:L j=true→X) (h1:Nat.beq j i=false:=by rfl):plus L i j=true→X:=fun h=>hk (by rw [plus_ne h1] at h; exact h)
theorem kpU {v:Value} (hk:L j=true→g d=v) (h1:Nat.beq j i=false:=by rfl) (h2:d ≠ e:=by decide):plus L i j=true→upd g e x d=v:=fun h=>by rw [yd _ _ _ _ h2]; exact hk (by rw [plus_ne h1] at h; exact h)
theorem kpZ {Y:List OA} (hs : ∀ z ∈ Z,z ∈ Z') (hq:L j=true → ∀ z ∈ Y,z ∈ Z) (h1:Nat.beq j i=false:=by rfl):plus L i j=true → ∀ z ∈ Y,z ∈ Z':=fun h z q=>hs z (hq (by rw [plus_ne h1] at h; exact h) z q)
theorem y7 : ∀ z ∈ ([]:List OA),z ∈ Z:=fun _ h=>by cases h
theorem yp {a:OA} {l:List OA} (h:a ∈ Z) (hl : ∀ z ∈ l,z ∈ Z) : ∀ z ∈ a :: l,z ∈ Z:=fun z hz=>(List.mem_cons.1 hz).elim (fun e=>e ▸ h) (hl z)
theorem xP {l1 l2:List OA} (h : ∀ z ∈ l1,z ∈ Z) (hl : ∀ z ∈ l2,z ∈ Z) : ∀ z ∈ l1 ++ l2,z ∈ Z:=fun z hz=>(List.mem_append.1 hz).elim (h z) (hl z)
theorem tl0 : ∀ z ∈ Z,z ∈ Z:=fun _ h=>h
theorem tl3 {a b c:OA} : ∀ z ∈ Z,z ∈ a :: b :: c :: Z:=fun z q => .tail _ (.tail _ (.tail _ (q)))
theorem tl4 {a b c d:OA} : ∀ z ∈ Z,z ∈ a :: b :: c :: d :: Z:=fun z q => .tail _ (.tail _ (.tail _ (.tail _ (q))))
theorem tl5 {a b c d e:OA} : ∀ z ∈ Z,z ∈ a :: b :: c :: d :: e :: Z:=fun z q => .tail _ (.tail _ (.tail _ (.tail _ (.tail _ (q)))))
theorem tl6 {a b c d e f:OA} : ∀ z ∈ Z,z ∈ a :: b :: c :: d :: e :: f :: Z:=fun z q => .tail _ (.tail _ (.tail _ (.tail _ (.tail _ (.tail _ (q))))))
theorem tl7 {a b c d e f g:OA} : ∀ z ∈ Z,z ∈ a :: b :: c :: d :: e :: f :: g :: Z:=fun z q => .tail _ (.tail _ (.tail _ (.tail _ (.tail _ (.tail _ (.tail _ (q)))))))
theorem tl8 {a b c d e f g h:OA} : ∀ z ∈ Z,z ∈ a :: b :: c :: d :: e :: f :: g :: h :: Z:=fun z q => .tail _ (.tail _ (.tail _ (.tail _ (.tail _ (.tail _ (.tail _ (.tail _ (q))))))))
theorem tl9 {a b c d e f g h i:OA} : ∀ z ∈ Z,z ∈ a :: b :: c :: d :: e :: f :: g :: h :: i :: Z:=fun z q => .tail _ (.tail _ (.tail _ (.tail _ (.tail _ (.tail _ (.tail _ (.tail _ (.tail _ (q)))))))))
theorem St.zneed {A:Nat→Prop} {N:Oth} {w0 w:World} {L Z Z1:List OA} (h:St A N w0 w L Z) (hz : ∀ z ∈ Z1,z ∈ Z):St A N w0 w L (Z1 ++ Z):=h.pickZ fun z q=>(List.mem_append.1 q).elim (hz z) id
theorem Made.keep0 (h:Made L g Z j d val ps) (h1:Nat.beq j i=false) (hs : ∀ z ∈ Z,z ∈ Z'):Made (plus L i) g Z' j d val ps:=fun hl=>by
 rw [plus_ne h1] at hl
 obtain ⟨c,hc,hp⟩ := h hl
 exact ⟨c,hc,fun z hz=>hs z (hp z hz)⟩
theorem Sep.ins {w:World} : ∀ {P X Y:List OA} {U:Nat→Prop},Sep w U (P ++ (X ++ Y))→Sep w U (X ++ (P ++ Y)):=fun {P X Y U} h=>by
 obtain ⟨A1,h1,hP,h2⟩ := Sep.split h
 obtain ⟨A2,h3,hX,hY⟩ := Sep.split h2
 refine Sep.join (A:=A2) (B:=fun i=>U i∧¬ A2 i) hX ?_ (fun i hi=>(h3 i hi).1.1) (fun i hi=>hi.1) (fun i hi q=>q.2 hi)
 refine Sep.join (A:=A1) (B:=fun i=>(U i∧¬ A1 i)∧¬ A2 i) hP hY (fun i hi=>⟨(h1 i hi).1,fun q=>(h3 i q).1.2 hi⟩) (fun i hi=>⟨hi.1.1,hi.2⟩) (fun i hi q=>q.1.2 hi)
theorem St.ins {A:Nat→Prop} {N:Oth} {w0 w:World} {P X Y Z:List OA} (h:St A N w0 w (P ++ (X ++ Y)) Z):St A N w0 w (X ++ (P ++ Y)) Z:=by
 obtain ⟨U,hU,hN,hA,hL,hZ,hW⟩ := h
 exact ⟨U,hU,hN,hA,Sep.ins hL,hZ,hW⟩
theorem St.drops {A:Nat→Prop} {N:Oth} {w0 w:World} {X Y Z:List OA} (h:St A N w0 w (X ++ Y) Z):St A N w0 w Y Z:=by
 obtain ⟨U,hU,hN,hA,hL,hZ,hW⟩ := h
 obtain ⟨A1,h1,hX,hY⟩ := Sep.split hL
 exact ⟨U,hU,hN,hA,hY.mono fun i hi=>hi.1,hZ,hW⟩
theorem does_callvg {P:Program} {f:Fr} {w:World} {dd:Option Tmp} {ty:TypeId} {pos:String} {af:Array Edge} {gd:Option (Nat × Bool)} {c:Operand} {k:FuncId} {fi ca:Array Value} {xs:Array Operand} {ats:Array TypeId} {l:List Value} (hg:zI P k) (hv:evF f c = .func (.func k) fi ca) (hx:xs.toList.map (evF f)=l):Enters P ⟨dd,.call ⟨.value c,xs,ats⟩,ty,pos,af,gd⟩ f w k (fi.toList ++ l ++ ca.toList).toArray:=hx ▸ yZ hg hv
end
end Gw
end
section
open Gw Go.RowKit
set_option maxHeartbeats 4000000
set_option maxRecDepth 20000
variable {A:Nat→Prop} {N:Oth} {w:World}
theorem kN {a0:PTerm} {s_0:SlV} {a1:Int} (S:St A N w w [] [zg s_0 a0.sub]) {r:PTerm} (H:zcm.f a0 a1=some r) :
  Calls PP F_reduce_the #[.agg (tmC a0 s_0).toArray,.int .i64 a1] w fun e w' => ∃ v,e = .returned v∧(∃ so0:SlV,v = .agg (tmC r so0).toArray∧St A N w w' [] [zg so0 r.sub]):=by
 unfold zcm.f at H
 refine zx (n:=9) fn_reduce_the rfl rfl zbL (zd (za ?_))
 refine zE rfl zbJ fun b2 w1 hw1=>?_
 replace S:=S.new hw1
 refine zP xy zbJ fun b4 w3 hw3=>?_
 replace S:=S.new hw3
 refine zb (zd (za (wd (zj rfl) (wd (ldT rfl (S.blk 1)) ?_))))
 refine vE (C:=Term.C) (l:=[(tmT a0 s_0)]) (vs:=[.agg (tmC a0 s_0).toArray]) zz jo.zero rfl rfl (fun a _=>Term.len a) zbJ rfl zbJ fun b6 w5 s7 hBw5 hw5=>?_
 replace S:=((S.lit hBw5 hw5 zbL).bigTm).consTm (x:=a0) 0
 replace S:=(S.frzTm 0 0).zs [0,2]
 refine wd (Does.to (v' := .agg (Term.C (tmN 11 a1 s7)).toArray) (xa (vs:=[(0,.int .i64 11),(3,.int .i64 a1),(4,s7.v)]) yP (xS rfl (xS rfl (xS rfl rfl))) (Bld.one rfl rfl (by rw [Term.len]; decide) (Term.set_kind _ _) (Bld.one rfl rfl (by rw [Term.len]; decide) (Term.set_form _ _) (Bld.one rfl (SlV.one _ _ rfl) (by rw [Term.len]; decide) (Term.set_sub _ _) Bld.nil)))) rfl) ?_
 refine wsT rfl rfl (S.blk 0) fun w8 B hw8 zw8=>?_
 replace S:=S.store 0 B hw8
 clear B
 refine zb (zr ?_)
 refine ⟨_,(zQ (rtT rfl (S.blk 0))),?_⟩
 replace S:=S.arr [] [0]
 obtain rfl:=zbN H
 exact ⟨s7,rfl,S⟩
theorem y0 {a0:PTerm} {s_0:SlV} {a1:Int} (S:St A N w w [] [zg s_0 a0.sub]) {r:Bool} (H:zcn.f a0 a1=some r) :
  Calls PP F_reduce_headed #[.agg (tmC a0 s_0).toArray,.int .i64 a1] w fun e w' => ∃ v,e = .returned v∧(v = .bool r∧St A N w w' [] []):=by
 unfold zcn.f at H
 refine zx (n:=18) fn_reduce_headed rfl rfl zbL (zd (za ?_))
 refine zE rfl zbJ fun b2 w1 hw1=>?_
 replace S:=S.new hw1
 refine wd (zi rfl) (zb (zd (za (wd (zf zG rfl (o':=4) rfl) (wd (zl zB rfl ((S.blk 0).cell (Term.get_sub _))) (wd (does_lenF zz rfl (S.onZ 0)) ?_))))))
 refine wd (zax rfl rfl) (wd (zA rfl) ?_)
 refine wg (fun hg=>zf zG rfl (o':=4) rfl) ?_
 refine wg (fun hg=>zl zB (zp hg) ((S.blk 0).cell (Term.get_sub _))) ?_
 obtain ⟨hi3,H⟩ := chk_g H
 refine wg (fun hg=>does_indexF zz (zp hg) rfl (S.onZ 0) (zL (hi3 (by simpa using hg))).1 (zL (hi3 (by simpa using hg))).2) ?_
 refine wg (fun hg=>zf xd (zp hg) (o':=_) rfl) ?_
 refine wg (fun hg=>zl zW (zp hg) (vc.get_kind (S.onZ 0) (zL (hi3 (by simpa using hg))))) ?_
 refine wg (fun hg=>zj rfl) ?_
 refine wg (fun hg=>zR (zp hg) (zp hg)) (wd (z7 rfl (fun hp=>(zp (xt hp)))) (wd (zi rfl) (zb (zr ?_))))
 refine ⟨_,(zQ (ze rfl)),?_⟩
 replace S:=S.arr [] []
 obtain rfl:=zbN H
 exact ⟨rfl,S⟩
theorem jq {a0:Tb} {a_0:Option Addr} {a1:PTerm} {s_1:SlV} {a2:Int} {a3:Int} (S:St A N w w [] [oT a_0 a0,zg s_1 a1.sub]) {r:Bool} (H:zco.f a0 a1 a2 a3=some r) :
  Calls PP F_reduce_beside #[.pointer a_0,.agg (tmC a1 s_1).toArray,.int .i64 a2,.int .i64 a3] w fun e w' => ∃ v,e = .returned v∧(v = .bool r∧St A N w w' [] []):=by
 unfold zco.f at H
 refine zx (n:=37) fn_reduce_beside rfl rfl zbL (zd (za ?_))
 refine zE rfl zbJ fun b2 w1 hw1=>?_
 replace S:=S.new hw1
 refine wd (zi rfl) (zb (zd (zd (za (wd (ldT rfl (S.blk 0)) ?_)))))
 obtain ⟨r3,er3,H⟩ := zq H
 obtain ⟨B5,MB5,SB5,back⟩ := S.calln 0 ((.z 1 rfl .nil))
 refine zw (zt yY) zbJ (y0 (a0:=a1) SB5 er3) ?_
 rintro _ w4 ⟨rfl,S2⟩
 replace S:=back _ _ _ _ S2 rfl
 clear back S2 SB5
 refine wd (xh rfl) (wd (zA rfl) ?_)
 refine wg (fun hg=>zf zG rfl (o':=4) rfl) ?_
 refine wg (fun hg=>zl zB (zp hg) ((S.blk 0).cell (Term.get_sub _))) ?_
 obtain ⟨hi6,H⟩ := chk_g H
 refine wg (fun hg=>does_indexF zz (zp hg) rfl (S.onZ 1) (zL (hi6 (by simpa using hg))).1 (zL (hi6 (by simpa using hg))).2) ?_
 obtain ⟨s7,hc8,S⟩ := S.viewTermG (i:=0) 1
 replace S:=S
 refine wg (fun hg=>zm zS (zp hg) (hc8 (zL (hi6 (by simpa using hg)))) (Term.len _)) ?_
 refine wg (fun hg=>zj rfl) ?_
 obtain ⟨r9,er9,H⟩ := zq H
 refine xN (j:=3) (pol:=false) rfl rfl rfl zbJ (fun hg=>zF yY (zK (zp hg) (zK (zp hg) rfl))) zbJ (fun hg=>(have ⟨M,SS⟩ := S.lend ((.z 0 rfl .nil)); quiet (y0 (a0:=(kd a1 0)) SS (if_t (by simpa using hg) er9)) (fun v w' h=>⟨h.1,_,_,h.2⟩))) fun w10 hw10=>?_
 replace S:=S.ext hw10
 refine wg (fun hg=>xh (zp hg)) (wd (xD rfl (fun hp=>(zp (xt hp)))) (zb ?_))
 refine zJ rfl (fun hc11=>?_) (fun hc11=>?_)
 ·replace H:=if_t hc11 H
  refine zd (za (wd (zi rfl) (zb (zr ?_))))
  refine ⟨_,(zQ (ze rfl)),?_⟩
  replace S:=S.arr [] []
  obtain rfl:=zbN H
  exact ⟨rfl,S⟩
 replace H:=if_f hc11 H
 refine zy (zd (za (wd (zu rfl) (wd (zf zG rfl (o':=4) rfl) (wd (zl zB rfl ((S.blk 0).cell (Term.get_sub _))) ?_)))))
 obtain ⟨hi12,H⟩ := xb H
 refine wd (does_indexF zz rfl rfl (S.onZ 2) (zL hi12).1 (zL hi12).2) (wd (zf yI rfl (o':=_) rfl) (wd (zl xr rfl (vc.get_form (S.onZ 2) (zL hi12))) ?_))
 obtain ⟨r13,er13,H⟩ := zq H
 obtain ⟨B15,MB15,SB15,back⟩ := S.calln 0 ((.z 1 rfl .nil))
 refine zw (zt yS) zbJ (yX SB15 er13) ?_
 rintro _ w14 ⟨rfl,S2⟩
 replace S:=back _ _ _ _ S2 rfl
 clear back S2 SB15
 refine wd (zX rfl) (wd (zn rfl rfl) (wd (zn rfl rfl) ?_))
 refine zP km zbJ fun b17 w16 hw16=>?_
 replace S:=S.new hw16
 refine zU ym rfl rfl (S.blk 0) (Nd.len _) (by rw [Nd.len]; decide) (Nd.one _) (xg (Nd.len _)) fun w18 B hw18 zw18=>?_
 replace S:=S.store 0 B hw18
 clear B
 refine wd (zi rfl) (zb (zd (za (wd (zf zaN rfl (o':=0) rfl) (wd (zl jg rfl ((S.blk 0).cell (Nd.get_kind _))) (wd (zj rfl) ?_))))))
 refine wd (zR rfl rfl) (wd (zi rfl) (zb (zr ?_)))
 refine ⟨_,(zQ (ze rfl)),?_⟩
 replace S:=S.arr [] []
 obtain rfl:=zbN H
 exact ⟨rfl,S⟩
theorem kh {a0:Tb} {a_0:Option Addr} {a1:PTerm} {s_1:SlV} {a2:Bool} (S:St A N w w [] [oT a_0 a0,zg s_1 a1.sub]) {r:Int} (H:zcp.f a0 a1 a2=some r) :
  Calls PP F_reduce_half #[.pointer a_0,.agg (tmC a1 s_1).toArray,.bool a2] w fun e w' => ∃ v,e = .returned v∧(v = .int .i64 r∧St A N w w' [] []):=by
 unfold zcp.f at H
 refine zx (n:=24) fn_reduce_half rfl rfl zbL (zd (za ?_))
 refine zE rfl zbJ fun b2 w1 hw1=>?_
 replace S:=S.new hw1
 refine wd (zh rfl) (zb (zd (za (wd (zu rfl) (wd (zf zG rfl (o':=4) rfl) (wd (zl zB rfl ((S.blk 0).cell (Term.get_sub _))) ?_))))))
 obtain ⟨hi3,H⟩ := xb H
 refine wd (does_indexF zz rfl rfl (S.onZ 1) (zL hi3).1 (zL hi3).2) (wd (zf yI rfl (o':=_) rfl) (wd (zl xr rfl (vc.get_form (S.onZ 1) (zL hi3))) ?_))
 obtain ⟨r4,er4,H⟩ := zq H
 obtain ⟨B6,MB6,SB6,back⟩ := S.calln 0 ((.z 0 rfl .nil))
 refine zw (zt yS) zbJ (yX SB6 er4) ?_
 rintro _ w5 ⟨rfl,S2⟩
 replace S:=back _ _ _ _ S2 rfl
 clear back S2 SB6
 refine wd (zX rfl) (wd (zn rfl rfl) (wd (zn rfl rfl) ?_))
 refine zP km zbJ fun b8 w7 hw7=>?_
 replace S:=S.new hw7
 refine zU ym rfl rfl (S.blk 0) (Nd.len _) (by rw [Nd.len]; decide) (Nd.one _) (xg (Nd.len _)) fun w9 B hw9 zw9=>?_
 replace S:=S.store 0 B hw9
 clear B
 refine wd (zi rfl) (zb (zd (zd (za (wd (zA rfl) (zb ?_))))))
 refine zJ rfl (fun hc10=>?_) (fun hc10=>?_)
 ·replace H:=if_t hc10 H
  refine zd (za (wd (zf uC rfl (o':=3) rfl) (wd (zl xr rfl ((S.blk 0).cell (Nd.get_r _))) (wd (zh rfl) (zb (zr ?_))))))
  refine ⟨_,(zQ (ze rfl)),?_⟩
  replace S:=S.arr [] []
  obtain rfl:=zbN H
  exact ⟨rfl,S⟩
 replace H:=if_f hc10 H
 refine zy (zd (za (wd (zf uB rfl (o':=2) rfl) (wd (zl xr rfl ((S.blk 0).cell (Nd.get_l _))) (wd (zh rfl) (zb (zr ?_)))))))
 refine ⟨_,(zQ (ze rfl)),?_⟩
 replace S:=S.arr [] []
 obtain rfl:=zbN H
 exact ⟨rfl,S⟩
theorem reduce_takes_st {a0:PTerm} {s_0:SlV} (S:St A N w w [] [zg s_0 a0.sub]) {r:Bool} (H:zcq.f a0=some r) :
  Calls PP F_reduce_takes #[.agg (tmC a0 s_0).toArray] w fun e w' => ∃ v,e = .returned v∧(v = .bool r∧St A N w w' [] []):=by
 unfold zcq.f at H
 refine zx (n:=11) fn_reduce_takes rfl rfl zbL (zd (za ?_))
 refine zE rfl zbJ fun b2 w1 hw1=>?_
 replace S:=S.new hw1
 refine wd (zi rfl) (zb (zd (za (wd (zf xd rfl (o':=0) rfl) (wd (zl zW rfl ((S.blk 0).cell (Term.get_kind _))) (wd (zR rfl rfl) ?_))))))
 refine wd (zA rfl) ?_
 refine wg (fun hg=>zf xd rfl (o':=0) rfl) ?_
 refine wg (fun hg=>zl zW (zp hg) ((S.blk 0).cell (Term.get_kind _))) ?_
 refine wg (fun hg=>zR (zp hg) rfl) (wd (xD rfl (fun hp=>(zp (xt hp)))) (wd (zi rfl) (zb (zr ?_))))
 refine ⟨_,(zQ (ze rfl)),?_⟩
 replace S:=S.arr [] []
 obtain rfl:=zbN H
 exact ⟨rfl,S⟩
theorem reduce_side_st {a0:PTerm} {s_0:SlV} {a1:PTerm} {s_1:SlV} (S:St A N w w [] [zg s_0 a0.sub,zg s_1 a1.sub]) {r:PTerm} (H:zcr.f a0 a1=some r) :
  Calls PP F_reduce_side #[.agg (tmC a0 s_0).toArray,.agg (tmC a1 s_1).toArray] w fun e w' => ∃ v,e = .returned v∧(∃ so0:SlV,v = .agg (tmC r so0).toArray∧St A N w w' [] [zg so0 r.sub]):=by
 unfold zcr.f at H
 refine zx (n:=16) fn_reduce_side rfl rfl zbL (zd (za ?_))
 refine zE rfl zbJ fun b2 w1 hw1=>?_
 replace S:=S.new hw1
 refine zE rfl zbJ fun b4 w3 hw3=>?_
 replace S:=S.new hw3
 refine zP xy zbJ fun b6 w5 hw5=>?_
 replace S:=S.new hw5
 refine zb (zd (zd (za (wd (zf xd rfl (o':=0) rfl) (wd (zl zW rfl ((S.blk 2).cell (Term.get_kind _))) (wd (zR rfl rfl) (zb ?_)))))))
 refine zJ rfl (fun hc7=>?_) (fun hc7=>?_)
 ·replace H:=if_t hc7 H
  refine zd (za (wd (zf zG rfl (o':=4) rfl) (wd (zl zB rfl ((S.blk 1).cell (Term.get_sub _))) ?_)))
  obtain ⟨hi8,H⟩ := xb H
  refine wd (does_indexF zz rfl rfl (S.onZ 1) (zL hi8).1 (zL hi8).2) ?_
  obtain ⟨s9,hc10,S⟩ := S.viewTerm 1 (zL hi8)
  replace S:=S
  refine wd (ldC rfl hc10) ?_
  refine wsT rfl rfl (S.blk 0) fun w11 B hw11 zw11=>?_
  replace S:=S.store 0 B hw11
  clear B
  refine zb (zr ?_)
  refine ⟨_,(zQ (rtT rfl (S.blk 0))),?_⟩
  replace S:=S.arr [] [0]
  obtain rfl:=zbN H
  exact ⟨s9,rfl,S⟩
 replace H:=if_f hc7 H
 refine zy (zd (za (wd (zf zG rfl (o':=4) rfl) (wd (zl zB rfl ((S.blk 1).cell (Term.get_sub _))) ?_))))
 obtain ⟨hi12,H⟩ := xb H
 refine wd (does_indexF zz rfl rfl (S.onZ 1) (zL hi12).1 (zL hi12).2) ?_
 obtain ⟨s13,hc14,S⟩ := S.viewTerm 1 (zL hi12)
 replace S:=S
 refine wd (ldC rfl hc14) ?_
 refine wsT rfl rfl (S.blk 0) fun w15 B hw15 zw15=>?_
 replace S:=S.store 0 B hw15
 clear B
 refine zb (zr ?_)
 refine ⟨_,(zQ (rtT rfl (S.blk 0))),?_⟩
 replace S:=S.arr [] [0]
 obtain rfl:=zbN H
 exact ⟨s13,rfl,S⟩
theorem zaS {a0:PTerm} {s_0:SlV} (S:St A N w w [] [zg s_0 a0.sub]) {r:Bool × Bool} (H:zcs.f a0=some r) :
  Calls PP zaY #[.agg (tmC a0 s_0).toArray] w fun e w' => ∃ v,e = .returned v∧(v = .tuple #[.bool r.1,.bool r.2]∧St A N w w' [] []):=by
 unfold zcs.f at H
 refine zx (n:=17) fn_reduce_injected rfl rfl zbL (zd (za ?_))
 refine zE rfl zbJ fun b2 w1 hw1=>?_
 replace S:=S.new hw1
 refine wd (zi rfl) (wd (zi rfl) (zb (zd ?_)))
 refine yq 14 (Ext w1) hmix zbM zbM (Ext.drawn _) (zD (fun v K=>zm zS rfl (((S.ext K).blk 0).all _ (Term.len _)) (Term.len _)) ?_)
 obtain ⟨r3,er3,H⟩ := zq H
 refine wq_call (fun v=>zt yY) (fun v K=>(have ⟨M,SS⟩ := (S.ext K).lend ((.z 0 rfl .nil)); quiet (y0 (a0:=a0) SS er3) (fun v w' h=>⟨h.1,_,_,h.2⟩))) (fun v v' K h=>K.thenExt h) (zD (fun v K=>zf xd rfl (o':=0) rfl) (zD (fun v K=>zl zW rfl (((S.ext K).blk 0).cell (Term.get_kind _))) (zD (fun v K=>zR rfl rfl) (zD (fun v K=>zA rfl) (zbI (j:=5) (pol:=true) rfl rfl rfl (fun hg v K=>zm zS rfl (((S.ext K).blk 0).all _ (Term.len _)) (Term.len _)) ?_)))))
 obtain ⟨r4,er4,H⟩ := zq H
 refine wq_gcall (j:=5) (pol:=true) rfl rfl rfl (fun hg v=>zF yY (zK (zp hg) (zK rfl rfl))) (fun hg v K=>(have ⟨M,SS⟩ := (S.ext K).lend ((.z 0 rfl .nil)); quiet (y0 (a0:=a0) SS (if_t (by simpa using hg) er4)) (fun v w' h=>⟨h.1,_,_,h.2⟩))) (fun v v' K h=>K.thenExt h) (zbI (j:=5) (pol:=true) rfl rfl rfl (fun hg v K=>zA (zp hg)) (wq_guard2 (j:=8) (pol:=false) rfl rfl rfl (fun hg v K=>zm zS rfl (((S.ext K).blk 0).all _ (Term.len _)) (Term.len _)) ?_))
 obtain ⟨r5,er5,H⟩ := zq H
 refine wq_gcall2 (j:=8) (pol:=false) rfl rfl rfl (fun hg v=>zF yY (zK (zp hg) (zK rfl rfl))) (fun hg v K=>(have ⟨M,SS⟩ := (S.ext K).lend ((.z 0 rfl .nil)); quiet (y0 (a0:=a0) SS (if_t (by simpa using hg) er5)) (fun v w' h=>⟨h.1,_,_,h.2⟩))) (fun v v' K h=>K.thenExt h) (zbI (j:=5) (pol:=true) rfl rfl rfl (fun hg v K=>xD (zp hg) (fun hp=>(zp (and_b hg hp)))) (zD (fun v K=>z7 rfl (fun hp=>(zp (xt hp)))) (zD (fun v K=>zi rfl) ?_)))
 refine vX fun w6 K=>?_
 replace S:=S.ext K
 clear K
 refine wd (zi rfl) (zb (zr ?_))
 refine ⟨_,(xe (ze rfl) (ze rfl)),?_⟩
 replace S:=S.arr [] []
 obtain rfl:=zbN H
 exact ⟨rfl,S⟩
theorem reduce_told_st {a0:Tb} {a_0:Option Addr} {a1:PTerm} {s_1:SlV} (S:St A N w w [] [oT a_0 a0,zg s_1 a1.sub]) {r:Bool × Bool} (H:zct.f a0 a1=some r) :
  Calls PP F_reduce_told #[.pointer a_0,.agg (tmC a1 s_1).toArray] w fun e w' => ∃ v,e = .returned v∧(v = .tuple #[.bool r.1,.bool r.2]∧St A N w w' [] []):=by
 unfold zct.f at H
 refine zx (n:=22) fn_reduce_told rfl rfl zbL (zd (za ?_))
 refine zE rfl zbJ fun b2 w1 hw1=>?_
 replace S:=S.new hw1
 refine wd (zi rfl) (wd (zi rfl) (zb (zd (za (wd (zu rfl) (wd (ldT rfl (S.blk 0)) ?_))))))
 obtain ⟨r3,er3,H⟩ := zq H
 obtain ⟨B5,MB5,SB5,back⟩ := S.calln 0 ((.z 0 rfl (.z 1 rfl .nil)))
 refine zw (zt jm) zbJ (jq (a1:=a1) SB5 er3) ?_
 rintro _ w4 ⟨rfl,S2⟩
 replace S:=back _ _ _ _ S2 rfl
 clear back S2 SB5
 refine wd (zi rfl) (zb (zd (za (wd (zA rfl) (wd (zf xd rfl (o':=0) rfl) (wd (zl zW rfl ((S.blk 0).cell (Term.get_kind _))) ?_))))))
 refine wd (zR rfl rfl) (wd (zA rfl) ?_)
 refine wg (fun hg=>zA rfl) ?_
 refine wg (fun hg=>zA (zp hg)) (xA (j:=6) (pol:=false) rfl rfl rfl zbJ (fun hg=>zu rfl) zbJ (xA (j:=6) (pol:=false) rfl rfl rfl zbJ (fun hg=>ldT rfl (S.blk 0)) zbJ ?_))
 obtain ⟨r6,er6,H⟩ := zq H
 refine wl_gcall2 (j:=6) (pol:=false) rfl rfl rfl zbJ (fun hg=>zF jm (zK (zp hg) (zK (zp hg) (zK rfl (zK rfl rfl))))) zbJ (fun hg=>(have ⟨M,SS⟩ := S.lend ((.z 0 rfl (.z 1 rfl .nil))); quiet (jq (a1:=a1) SS (if_t (by simpa using hg) er6)) (fun v w' h=>⟨h.1,_,_,h.2⟩))) fun w7 hw7=>?_
 replace S:=S.ext hw7
 refine wg (fun hg=>xD (zp hg) (fun hp=>(zp (and_b hg hp)))) (wd (z7 rfl (fun hp=>(zp (xt hp)))) (wd (zi rfl) (wd (zi rfl) (zb (zr ?_)))))
 refine ⟨_,(xe (ze rfl) (ze rfl)),?_⟩
 replace S:=S.arr [] []
 obtain rfl:=zbN H
 exact ⟨rfl,S⟩
theorem reduce_rules_1_st {a0:Tb} {a_0:Option Addr} {a1:PTerm} {s_1:SlV} (S:St A N w w [] [oT a_0 a0,zg s_1 a1.sub]) {r:Bool} (H:zcu.f a0 a1=some r) :
  Calls PP uq #[.pointer a_0,.agg (tmC a1 s_1).toArray] w fun e w' => ∃ v,e = .returned v∧(v = .bool r∧St A N w w' [] []):=by
 unfold zcu.f at H
 refine zx (n:=12) fn_reduce_rules_1 rfl rfl zbL (zd (za ?_))
 refine zE rfl zbJ fun b2 w1 hw1=>?_
 replace S:=S.new hw1
 refine wd (zi rfl) (zb (zd (za (wd (zf xd rfl (o':=0) rfl) (wd (zl zW rfl ((S.blk 0).cell (Term.get_kind _))) (wd (zR rfl rfl) ?_))))))
 refine wd (zA rfl) ?_
 refine wg (fun hg=>ldT rfl (S.blk 0)) ?_
 obtain ⟨r3,er3,H⟩ := zq H
 refine xN (j:=3) (pol:=true) rfl rfl rfl zbJ (fun hg=>zF yY (zK (zp hg) (zK rfl rfl))) zbJ (fun hg=>(have ⟨M,SS⟩ := S.lend ((.z 1 rfl .nil)); quiet (y0 (a0:=a1) SS (if_t (by simpa using hg) er3)) (fun v w' h=>⟨h.1,_,_,h.2⟩))) fun w4 hw4=>?_
 replace S:=S.ext hw4
 refine wd (z7 rfl (fun hp=>(zp (xt hp)))) (wd (zi rfl) (zb (zr ?_)))
 refine ⟨_,(zQ (ze rfl)),?_⟩
 replace S:=S.arr [] []
 obtain rfl:=zbN H
 exact ⟨rfl,S⟩
theorem reduce_rules_3_st {a0:Tb} {a_0:Option Addr} {a1:PTerm} {s_1:SlV} (S:St A N w w [] [oT a_0 a0,zg s_1 a1.sub]) {r:Bool} (H:zcv.f a0 a1=some r) :
  Calls PP ur #[.pointer a_0,.agg (tmC a1 s_1).toArray] w fun e w' => ∃ v,e = .returned v∧(v = .bool r∧St A N w w' [] []):=by
 unfold zcv.f at H
 refine zx (n:=13) fn_reduce_rules_3 rfl rfl zbL (zd (za ?_))
 refine zE rfl zbJ fun b2 w1 hw1=>?_
 replace S:=S.new hw1
 refine wd (zi rfl) (zb (zd (za (wd (zf xd rfl (o':=0) rfl) (wd (zl zW rfl ((S.blk 0).cell (Term.get_kind _))) (wd (zR rfl rfl) ?_))))))
 refine wd (zA rfl) ?_
 refine wg (fun hg=>zu rfl) ?_
 refine wg (fun hg=>ldT rfl (S.blk 0)) ?_
 obtain ⟨r3,er3,H⟩ := zq H
 refine xN (j:=3) (pol:=true) rfl rfl rfl zbJ (fun hg=>zF jm (zK (zp hg) (zK (zp hg) (zK rfl (zK rfl rfl))))) zbJ (fun hg=>(have ⟨M,SS⟩ := S.lend ((.z 0 rfl (.z 1 rfl .nil))); quiet (jq (a1:=a1) SS (if_t (by simpa using hg) er3)) (fun v w' h=>⟨h.1,_,_,h.2⟩))) fun w4 hw4=>?_
 replace S:=S.ext hw4
 refine wd (z7 rfl (fun hp=>(zp (xt hp)))) (wd (zi rfl) (zb (zr ?_)))
 refine ⟨_,(zQ (ze rfl)),?_⟩
 replace S:=S.arr [] []
 obtain rfl:=zbN H
 exact ⟨rfl,S⟩
theorem reduce_rules_5_st {a0:Tb} {a_0:Option Addr} {a1:PTerm} {s_1:SlV} (S:St A N w w [] [oT a_0 a0,zg s_1 a1.sub]) {r:Bool} (H:zcw.f a0 a1=some r) :
  Calls PP ut #[.pointer a_0,.agg (tmC a1 s_1).toArray] w fun e w' => ∃ v,e = .returned v∧(v = .bool r∧St A N w w' [] []):=by
 unfold zcw.f at H
 refine zx (n:=11) fn_reduce_rules_5 rfl rfl zbL (zd (za ?_))
 refine zE rfl zbJ fun b2 w1 hw1=>?_
 replace S:=S.new hw1
 refine wd (zi rfl) (zb (zd (za (wd (ldT rfl (S.blk 0)) ?_))))
 obtain ⟨r3,er3,H⟩ := zq H
 obtain ⟨B5,MB5,SB5,back⟩ := S.calln 0 ((.z 1 rfl .nil))
 refine zw (zt ca_reduce_takes) zbJ (reduce_takes_st (a0:=a1) SB5 er3) ?_
 rintro _ w4 ⟨rfl,S2⟩
 replace S:=back _ _ _ _ S2 rfl
 clear back S2 SB5
 refine wd (zA rfl) ?_
 refine wg (fun hg=>ldT rfl (S.blk 0)) ?_
 obtain ⟨r6,er6,H⟩ := zq H
 refine xN (j:=2) (pol:=true) rfl rfl rfl zbJ (fun hg=>zF yY (zK (zp hg) (zK rfl rfl))) zbJ (fun hg=>(have ⟨M,SS⟩ := S.lend ((.z 1 rfl .nil)); quiet (y0 (a0:=a1) SS (if_t (by simpa using hg) er6)) (fun v w' h=>⟨h.1,_,_,h.2⟩))) fun w7 hw7=>?_
 replace S:=S.ext hw7
 refine wd (z7 rfl (fun hp=>(zp (xt hp)))) (wd (zi rfl) (zb (zr ?_)))
 refine ⟨_,(zQ (ze rfl)),?_⟩
 replace S:=S.arr [] []
 obtain rfl:=zbN H
 exact ⟨rfl,S⟩
theorem reduce_rules_6_st {a0:Tb} {a_0:Option Addr} {a1:PTerm} {s_1:SlV} (S:St A N w w [] [oT a_0 a0,zg s_1 a1.sub]) {r:PTerm × Int} (H:zcx.f a0 a1=some r) :
  Calls PP vK #[.pointer a_0,.agg (tmC a1 s_1).toArray] w fun e w' => ∃ v,e = .returned v∧(∃ so0:SlV,v = .tuple #[.agg (tmC r.1 so0).toArray,.int .i64 r.2]∧St A N w w' [] [zg so0 r.1.sub]):=by
 unfold zcx.f at H
 refine zx (n:=12) fn_reduce_rules_6 rfl rfl zbL (zd (za ?_))
 refine zE rfl zbJ fun b2 w1 hw1=>?_
 replace S:=S.new hw1
 refine zP xy zbJ fun b4 w3 hw3=>?_
 replace S:=S.new hw3
 refine wd (zh rfl) (zb (zd ?_))
 refine yq 5 (Ext w3) hmix zbM zbM (Ext.drawn _) (zD (fun v K=>zm zS rfl (((S.ext K).blk 1).all _ (Term.len _)) (Term.len _)) (zD (fun v K=>zf zG rfl (o':=4) rfl) (zD (fun v K=>zl zB rfl (((S.ext K).blk 1).cell (Term.get_sub _))) ?_)))
 obtain ⟨hi5,H⟩ := xb H
 refine zD (fun v K=>does_indexF zz rfl rfl ((S.ext K).onZ 1) (zL hi5).1 (zL hi5).2) ?_
 obtain ⟨s6,hc7,S⟩ := S.viewTerm 1 (zL hi5)
 replace S:=S
 refine zD (fun v K=>zm zS rfl (hc7.chg K (fun x=>x)) (Term.len _)) ?_
 refine vX fun w8 K=>?_
 replace S:=S.ext K
 clear K
 obtain ⟨r9,er9,H⟩ := zq H
 obtain ⟨B11,MB11,SB11,back⟩ := S.sub [2,0] [] [oB b4 zo (Term.C tmZ),oB b2 zo (tmC a1 s_1)]
 refine zw (zt ca_reduce_side) zbJ (reduce_side_st (a0:=a1) (a1:=(kd a1 0)) SB11 er9) ?_
 rintro _ w10 ⟨s12,rfl,S2⟩
 replace S:=back _ _ _ _ _ S2 rfl rfl
 clear back S2 SB11
 refine wsT rfl rfl (S.blk 0) fun w13 B hw13 zw13=>?_
 replace S:=S.store 0 B hw13
 clear B
 refine wd (zh rfl) (zb (zr ?_))
 refine ⟨_,(xe (rtT rfl (S.blk 0)) (ze rfl)),?_⟩
 replace S:=S.arr [] [0]
 obtain rfl:=zbN H
 exact ⟨s12,rfl,S⟩
theorem reduce_rules_7_st {a0:Tb} {a_0:Option Addr} {a1:PTerm} {s_1:SlV} (S:St A N w w [] [oT a_0 a0,zg s_1 a1.sub]) {r:Bool} (H:zcy.f a0 a1=some r) :
  Calls PP uu #[.pointer a_0,.agg (tmC a1 s_1).toArray] w fun e w' => ∃ v,e = .returned v∧(v = .bool r∧St A N w w' [] []):=by
 unfold zcy.f at H
 refine zx (n:=12) fn_reduce_rules_7 rfl rfl zbL (zd (za ?_))
 refine zE rfl zbJ fun b2 w1 hw1=>?_
 replace S:=S.new hw1
 refine wd (zi rfl) (zb (zd (za (wd (ldT rfl (S.blk 0)) ?_))))
 obtain ⟨r3,er3,H⟩ := zq H
 obtain ⟨B5,MB5,SB5,back⟩ := S.calln 0 ((.z 1 rfl .nil))
 refine zw (zt ca_reduce_takes) zbJ (reduce_takes_st (a0:=a1) SB5 er3) ?_
 rintro _ w4 ⟨rfl,S2⟩
 replace S:=back _ _ _ _ S2 rfl
 clear back S2 SB5
 refine wd (zA rfl) ?_
 refine wg (fun hg=>zu rfl) ?_
 refine wg (fun hg=>ldT rfl (S.blk 0)) ?_
 obtain ⟨r6,er6,H⟩ := zq H
 refine xN (j:=2) (pol:=true) rfl rfl rfl zbJ (fun hg=>zF jm (zK (zp hg) (zK (zp hg) (zK rfl (zK rfl rfl))))) zbJ (fun hg=>(have ⟨M,SS⟩ := S.lend ((.z 0 rfl (.z 1 rfl .nil))); quiet (jq (a1:=a1) SS (if_t (by simpa using hg) er6)) (fun v w' h=>⟨h.1,_,_,h.2⟩))) fun w7 hw7=>?_
 replace S:=S.ext hw7
 refine wd (z7 rfl (fun hp=>(zp (xt hp)))) (wd (zi rfl) (zb (zr ?_)))
 refine ⟨_,(zQ (ze rfl)),?_⟩
 replace S:=S.arr [] []
 obtain rfl:=zbN H
 exact ⟨rfl,S⟩
theorem reduce_rules_8_st {a0:Tb} {a_0:Option Addr} {a1:PTerm} {s_1:SlV} (S:St A N w w [] [oT a_0 a0,zg s_1 a1.sub]) {r:PTerm × Int} (H:zcz.f a0 a1=some r) :
  Calls PP vM #[.pointer a_0,.agg (tmC a1 s_1).toArray] w fun e w' => ∃ v,e = .returned v∧(∃ so0:SlV,v = .tuple #[.agg (tmC r.1 so0).toArray,.int .i64 r.2]∧St A N w w' [] [zg so0 r.1.sub]):=by
 unfold zcz.f at H
 refine zx (n:=22) fn_reduce_rules_8 rfl rfl zbL (zd (za ?_))
 refine zE rfl zbJ fun b2 w1 hw1=>?_
 replace S:=S.new hw1
 refine zP xy zbJ fun b4 w3 hw3=>?_
 replace S:=S.new hw3
 refine wd (zh rfl) (zb (zd ?_))
 obtain ⟨hi12,H⟩ := xb H
 obtain ⟨hi14,H⟩ := xb H
 obtain ⟨r16,er16,H⟩ := zq H
 obtain ⟨s13,S⟩ := S.viewTermC 1 (zL hi12)
 replace S:=S
 obtain ⟨s15,S⟩ := S.viewTermC 1 (zL hi14)
 replace S:=S.zs [4,5,2,3,0,1]
 refine vz 14 ⟨fun _ _=>True,fun _ _ _=>True,fun i v _=>match i with
  | 0=>v=Value.agg (tmC a1 s_1).toArray
  | 1=>v=Value.pointer (some ⟨b2,4,none⟩)
  | 2=>v=s_1.v
  | 3=>v=Value.pointer (some ⟨s_1.blk,s_1.off + Int.toNat 0 * 5,none⟩)
  | 4=>v=Value.pointer (some ⟨s_1.blk,s_1.off + Int.toNat 0 * 5 + 4,none⟩)
  | 5=>v=s13.v
  | 6=>v=Value.pointer (some ⟨s13.blk,s13.off + Int.toNat 0 * 5,none⟩)
  | 7=>v=Value.agg (tmC (kd (kd a1 0) 0) s15).toArray
  | 9=>v=Value.pointer a_0
  | 10=>v=Value.agg (tmC a1 s_1).toArray
  | 11=>v=Value.pointer (some ⟨b2,0,none⟩)
  | 12=>v=Value.int .i64 a1.kind
  | 13=>v=Value.bool (decide (a1.kind=6))
  | _=>True⟩ (fun L g v => ∃ Z20:List OA,(∀ z ∈ [oT a_0 a0,zg s_1 a1.sub,oCl s_1.blk (s_1.off + Int.toNat 0 * 5) (tmC (kd a1 0) s13),zg s13 ((kd a1 0).sub),oCl s13.blk (s13.off + Int.toNat 0 * 5) (tmC (kd (kd a1 0) 0) s15),zg s15 ((kd (kd a1 0) 0).sub)],z ∈ Z20)∧Made L g Z20 8 14 (fun (c:SlV)=>Value.agg (tmC r16 c).toArray) (fun (c:SlV)=>[zg c r16.sub])∧St A N w v [oB b4 zo (Term.C tmZ),oB b2 zo (tmC a1 s_1)] Z20) hmix zbM (fun _ _ _ _ _ _ _ hv=>hv) (fun g=>⟨_,fun _ h=>h,Made.no,S.ext (Ext.drawn _)⟩) ⟨?_,?_,?_,?_,?_,?_,?_,?_,?_,?_,?_,?_,?_,?_,trivial⟩ ?_
 ·rintro L g v hL hcl hclo ⟨Z20,hZ,hm8,S⟩ 
  refine wd (ldT rfl (S.blk 1)) ?_
  exact zb (ob4 trivial rfl ⟨_,hZ,hm8.keep rfl rfl tl0,S⟩)
 ·rintro L g v hL hcl hclo ⟨Z20,hZ,hm8,S⟩ 
  refine wd (zf zG rfl (o':=4) rfl) ?_
  exact zb (ob4 trivial rfl ⟨_,hZ,hm8.keep rfl rfl tl0,S⟩)
 ·rintro L g v hL hcl hclo ⟨Z20,hZ,hm8,S⟩ hv1
  refine wd (zl zB hv1 ((S.blk 1).cell (Term.get_sub _))) ?_
  exact zb (ob4 trivial rfl ⟨_,hZ,hm8.keep rfl rfl tl0,S⟩)
 ·rintro L g v hL hcl hclo ⟨Z20,hZ,hm8,S⟩ hv2
  replace S:=(S.zneed hZ)
  refine wd (does_indexF zz hv2 rfl (S.onZ 1) (zL hi12).1 (zL hi12).2) ?_
  exact zb (ob4 trivial rfl ⟨_,(fun z h=>tl6 z (hZ z h)),hm8.keep rfl rfl tl6,S⟩)
 ·rintro L g v hL hcl hclo ⟨Z20,hZ,hm8,S⟩ hv3
  refine wd (zf zG hv3 (o':=_) rfl) ?_
  exact zb (ob4 trivial rfl ⟨_,hZ,hm8.keep rfl rfl tl0,S⟩)
 ·rintro L g v hL hcl hclo ⟨Z20,hZ,hm8,S⟩ hv4
  replace S:=(S.zneed hZ)
  refine wd (zl zB hv4 ((S.cl 2).get (Term.get_sub _))) ?_
  exact zb (ob4 trivial rfl ⟨_,(fun z h=>tl6 z (hZ z h)),hm8.keep rfl rfl tl6,S⟩)
 ·rintro L g v hL hcl hclo ⟨Z20,hZ,hm8,S⟩ hv5
  replace S:=(S.zneed hZ)
  refine wd (does_indexF zz hv5 rfl (S.onZ 3) (zL hi14).1 (zL hi14).2) ?_
  exact zb (ob4 trivial rfl ⟨_,(fun z h=>tl6 z (hZ z h)),hm8.keep rfl rfl tl6,S⟩)
 ·rintro L g v hL hcl hclo ⟨Z20,hZ,hm8,S⟩ hv6
  replace S:=(S.zneed hZ)
  refine wd (zm zS hv6 (S.cl 4) (Term.len _)) ?_
  exact zb (ob4 trivial rfl ⟨_,(fun z h=>tl6 z (hZ z h)),hm8.keep rfl rfl tl6,S⟩)
 ·rintro L g v hL hcl hclo ⟨Z20,hZ,hm8,S⟩ hv0 hv7
  replace S:=(S.zneed hZ)
  obtain ⟨B26,MB26,SB26,back⟩ := S.sub [1,5] [] [oB b4 zo (Term.C tmZ),oB b2 zo (tmC a1 s_1)]
  refine zw (zF ca_reduce_side (zK hv0 (zK hv7 rfl))) zbJ (reduce_side_st (a0:=a1) (a1:=(kd (kd a1 0) 0)) SB26 er16) ?_
  rintro _ w25 ⟨s27,rfl,S2⟩
  replace S:=back _ _ _ _ _ S2 rfl rfl
  clear back S2 SB26
  exact zb (ob4 trivial trivial ⟨_,(fun z h=>tl7 z (hZ z h)),Made.one (val:=(fun (c:SlV)=>Value.agg (tmC r16 c).toArray)) (ps:=(fun (c:SlV)=>[zg c r16.sub])) s27 (yp List.mem_cons_self y7),S⟩)
 ·rintro L g v hL hcl hclo ⟨Z20,hZ,hm8,S⟩ 
  refine wd (zu rfl) ?_
  exact zb (ob4 trivial rfl ⟨_,hZ,hm8.keep rfl rfl tl0,S⟩)
 ·rintro L g v hL hcl hclo ⟨Z20,hZ,hm8,S⟩ 
  refine wd (ldT rfl (S.blk 1)) ?_
  exact zb (ob4 trivial rfl ⟨_,hZ,hm8.keep rfl rfl tl0,S⟩)
 ·rintro L g v hL hcl hclo ⟨Z20,hZ,hm8,S⟩ 
  refine wd (zf xd rfl (o':=0) rfl) ?_
  exact zb (ob4 trivial rfl ⟨_,hZ,hm8.keep rfl rfl tl0,S⟩)
 ·rintro L g v hL hcl hclo ⟨Z20,hZ,hm8,S⟩ hv11
  refine wd (zl zW hv11 ((S.blk 1).cell (Term.get_kind _))) ?_
  exact zb (ob4 trivial rfl ⟨_,hZ,hm8.keep rfl rfl tl0,S⟩)
 ·rintro L g v hL hcl hclo ⟨Z20,hZ,hm8,S⟩ hv12
  refine wd (zR hv12 rfl) ?_
  exact zb (ob4 trivial rfl ⟨_,hZ,hm8.keep rfl rfl tl0,S⟩)
 rintro L g w28 hLm ⟨Z20,hZ,hm8,S⟩ hv29_0 hv29_1 hv29_2 hv29_3 hv29_4 hv29_5 hv29_6 hv29_7 _ hv29_9 hv29_10 hv29_11 hv29_12 hv29_13
 have hLt : ∀ j,j < 14→L j=true:=fun j hj=>by rw [hLm]; exact decide_eq_true hj
 obtain ⟨s19,hv29_8,hp8⟩ := hm8 (hLt 8 zbJ)
 replace S:=S.pickZ (xP (l1:=[zg s19 r16.sub]) hp8 hZ)
 clear hp8 hZ hm8
 obtain ⟨r30,er30,H⟩ := zq H
 obtain ⟨B32,MB32,SB32,back⟩ := S.calln 0 ((.z 1 rfl (.z 2 rfl .nil)))
 refine zw (zF j7 (zK hv29_9 (zK hv29_10 (zK hv29_13 rfl)))) zbJ (kh (a1:=a1) SB32 er30) ?_
 rintro _ w31 ⟨rfl,S2⟩
 replace S:=back _ _ _ _ S2 rfl
 clear back S2 SB32
 obtain ⟨r33,er33,H⟩ := zq H
 obtain ⟨B35,MB35,SB35,back⟩ := S.sub [0] [] [oB b4 zo (Term.C tmZ),oB b2 zo (tmC a1 s_1)]
 refine zw (zF kL (zK hv29_8 (zK rfl rfl))) zbJ (kN (a0:=r16) SB35 er33) ?_
 rintro _ w34 ⟨s36,rfl,S2⟩
 replace S:=back _ _ _ _ _ S2 rfl rfl
 clear back S2 SB35
 refine wsT rfl rfl (S.blk 0) fun w37 B hw37 zw37=>?_
 replace S:=S.store 0 B hw37
 clear B
 refine wd (zh rfl) (zb (zr ?_))
 refine ⟨_,(xe (rtT rfl (S.blk 0)) (ze rfl)),?_⟩
 replace S:=S.arr [] [0]
 obtain rfl:=zbN H
 exact ⟨s36,rfl,S⟩
theorem reduce_rules_9_st {a0:Tb} {a_0:Option Addr} {a1:PTerm} {s_1:SlV} (S:St A N w w [] [oT a_0 a0,zg s_1 a1.sub]) {r:Bool} (H:zcA.f a0 a1=some r) :
  Calls PP uv #[.pointer a_0,.agg (tmC a1 s_1).toArray] w fun e w' => ∃ v,e = .returned v∧(v = .bool r∧St A N w w' [] []):=by
 unfold zcA.f at H
 refine zx (n:=13) fn_reduce_rules_9 rfl rfl zbL (zd (za ?_))
 refine zE rfl zbJ fun b2 w1 hw1=>?_
 replace S:=S.new hw1
 refine wd (zi rfl) (zb (zd (za (wd (ldT rfl (S.blk 0)) ?_))))
 obtain ⟨r3,er3,H⟩ := zq H
 obtain ⟨B5,MB5,SB5,back⟩ := S.calln 0 ((.z 1 rfl .nil))
 refine zw (zt zaK) zbJ (zaS (a0:=a1) SB5 er3) ?_
 rintro _ w4 ⟨rfl,S2⟩
 replace S:=back _ _ _ _ S2 rfl
 clear back S2 SB5
 refine wd (zX rfl) (wd (zn rfl rfl) (wd (zn rfl rfl) (wd (zi rfl) (wd (zi rfl) (zb (zd (za ?_)))))))
 refine wd (zA rfl) (wd (zi rfl) (zb (zr ?_)))
 refine ⟨_,(zQ (ze rfl)),?_⟩
 replace S:=S.arr [] []
 obtain rfl:=zbN H
 exact ⟨rfl,S⟩
theorem reduce_rules_11_st {a0:Tb} {a_0:Option Addr} {a1:PTerm} {s_1:SlV} (S:St A N w w [] [oT a_0 a0,zg s_1 a1.sub]) {r:Bool} (H:zcB.f a0 a1=some r) :
  Calls PP vY #[.pointer a_0,.agg (tmC a1 s_1).toArray] w fun e w' => ∃ v,e = .returned v∧(v = .bool r∧St A N w w' [] []):=by
 unfold zcB.f at H
 refine zx (n:=14) fn_reduce_rules_11 rfl rfl zbL (zd (za ?_))
 refine zE rfl zbJ fun b2 w1 hw1=>?_
 replace S:=S.new hw1
 refine wd (zi rfl) (zb (zd (za (wd (zu rfl) (wd (ldT rfl (S.blk 0)) ?_)))))
 obtain ⟨r3,er3,H⟩ := zq H
 obtain ⟨B5,MB5,SB5,back⟩ := S.calln 0 ((.z 0 rfl (.z 1 rfl .nil)))
 refine zw (zt ca_reduce_told) zbJ (reduce_told_st (a1:=a1) SB5 er3) ?_
 rintro _ w4 ⟨rfl,S2⟩
 replace S:=back _ _ _ _ S2 rfl
 clear back S2 SB5
 refine wd (zX rfl) (wd (zn rfl rfl) (wd (zn rfl rfl) (wd (zi rfl) (wd (zi rfl) (zb (zd (za ?_)))))))
 refine wd (zA rfl) (wd (zi rfl) (zb (zr ?_)))
 refine ⟨_,(zQ (ze rfl)),?_⟩
 replace S:=S.arr [] []
 obtain rfl:=zbN H
 exact ⟨rfl,S⟩
theorem reduce_rules_13_st {a0:Tb} {a_0:Option Addr} {a1:PTerm} {s_1:SlV} (S:St A N w w [] [oT a_0 a0,zg s_1 a1.sub]) {r:Bool} (H:zcC.f a0 a1=some r) :
  Calls PP vZ #[.pointer a_0,.agg (tmC a1 s_1).toArray] w fun e w' => ∃ v,e = .returned v∧(v = .bool r∧St A N w w' [] []):=by
 unfold zcC.f at H
 refine zx (n:=8) fn_reduce_rules_13 rfl rfl zbL (zd (za ?_))
 refine zE rfl zbJ fun b2 w1 hw1=>?_
 replace S:=S.new hw1
 refine wd (zi rfl) (zb (zd (za (wd (zf xd rfl (o':=0) rfl) (wd (zl zW rfl ((S.blk 0).cell (Term.get_kind _))) (wd (zR rfl rfl) ?_))))))
 refine wd (zi rfl) (zb (zr ?_))
 refine ⟨_,(zQ (ze rfl)),?_⟩
 replace S:=S.arr [] []
 obtain rfl:=zbN H
 exact ⟨rfl,S⟩
theorem reduce_rules_15_st {a0:Tb} {a_0:Option Addr} {a1:PTerm} {s_1:SlV} (S:St A N w w [] [oT a_0 a0,zg s_1 a1.sub]) {r:Bool} (H:zcD.f a0 a1=some r) :
  Calls PP v6 #[.pointer a_0,.agg (tmC a1 s_1).toArray] w fun e w' => ∃ v,e = .returned v∧(v = .bool r∧St A N w w' [] []):=by
 unfold zcD.f at H
 refine zx (n:=19) fn_reduce_rules_15 rfl rfl zbL (zd (za ?_))
 refine zE rfl zbJ fun b2 w1 hw1=>?_
 replace S:=S.new hw1
 refine wd (zi rfl) (zb (zd (zd (za (wd (zf xd rfl (o':=0) rfl) (wd (zl zW rfl ((S.blk 0).cell (Term.get_kind _))) (wd (xw rfl rfl) (zb ?_))))))))
 refine zJ rfl (fun hc3=>?_) (fun hc3=>?_)
 ·replace H:=if_t hc3 H
  refine zd (za (wd (zi rfl) (zb (zr ?_))))
  refine ⟨_,(zQ (ze rfl)),?_⟩
  replace S:=S.arr [] []
  obtain rfl:=zbN H
  exact ⟨rfl,S⟩
 replace H:=if_f hc3 H
 refine zy (zd (zd (za (wd (zf zG rfl (o':=4) rfl) (wd (zl zB rfl ((S.blk 0).cell (Term.get_sub _))) ?_)))))
 obtain ⟨hi4,H⟩ := xb H
 refine wd (does_indexF zz rfl rfl (S.onZ 1) (zL hi4).1 (zL hi4).2) (wd (zf xd rfl (o':=_) rfl) (wd (zl zW rfl (vc.get_kind (S.onZ 1) (zL hi4))) (zb ?_)))
 refine zO (zd (zd (za (wd (zR rfl rfl) (wd (zi rfl) (zb ?_))))))
 refine zJ rfl (fun hc5=>?_) (fun hc5=>?_)
 ·replace H:=if_t hc5 H
  refine zy ?_
  refine zJ rfl (fun hc6=>?_) (fun hc6=>?_)
  ·replace H:=if_t hc6 H
   refine zd (za (wd (zi rfl) (zb (zr ?_))))
   refine ⟨_,(zQ (ze rfl)),?_⟩
   replace S:=S.arr [] []
   obtain rfl:=zbN H
   exact ⟨rfl,S⟩
  replace H:=if_f hc6 H
  refine zy (zd (za (wd (zi rfl) (zb (zr ?_)))))
  refine ⟨_,(zQ (ze rfl)),?_⟩
  replace S:=S.arr [] []
  obtain rfl:=zbN H
  exact ⟨rfl,S⟩
 ·replace H:=if_f hc5 H
  refine zd (za (wd (zR rfl rfl) (wd (zi rfl) (zb ?_))))
  refine zJ rfl (fun hc7=>?_) (fun hc7=>?_)
  ·replace H:=if_t hc7 H
   refine zy ?_
   refine zJ rfl (fun hc8=>?_) (fun hc8=>?_)
   ·replace H:=if_t hc8 H
    refine zd (za (wd (zi rfl) (zb (zr ?_))))
    refine ⟨_,(zQ (ze rfl)),?_⟩
    replace S:=S.arr [] []
    obtain rfl:=zbN H
    exact ⟨rfl,S⟩
   replace H:=if_f hc8 H
   refine zy (zd (za (wd (zi rfl) (zb (zr ?_)))))
   refine ⟨_,(zQ (ze rfl)),?_⟩
   replace S:=S.arr [] []
   obtain rfl:=zbN H
   exact ⟨rfl,S⟩
  ·replace H:=if_f hc7 H
   refine zd (za (wd (zR rfl rfl) (wd (zi rfl) (zb ?_))))
   refine zJ rfl (fun hc9=>?_) (fun hc9=>?_)
   ·replace H:=if_t hc9 H
    refine zy ?_
    refine zJ rfl (fun hc10=>?_) (fun hc10=>?_)
    ·replace H:=if_t hc10 H
     refine zd (za (wd (zi rfl) (zb (zr ?_))))
     refine ⟨_,(zQ (ze rfl)),?_⟩
     replace S:=S.arr [] []
     obtain rfl:=zbN H
     exact ⟨rfl,S⟩
    replace H:=if_f hc10 H
    refine zy (zd (za (wd (zi rfl) (zb (zr ?_)))))
    refine ⟨_,(zQ (ze rfl)),?_⟩
    replace S:=S.arr [] []
    obtain rfl:=zbN H
    exact ⟨rfl,S⟩
   ·replace H:=if_f hc9 H
    refine zd (za (wd (zR rfl rfl) (wd (zi rfl) (zb ?_))))
    refine zJ rfl (fun hc11=>?_) (fun hc11=>?_)
    ·replace H:=if_t hc11 H
     refine zy ?_
     refine zJ rfl (fun hc12=>?_) (fun hc12=>?_)
     ·replace H:=if_t hc12 H
      refine zd (za (wd (zi rfl) (zb (zr ?_))))
      refine ⟨_,(zQ (ze rfl)),?_⟩
      replace S:=S.arr [] []
      obtain rfl:=zbN H
      exact ⟨rfl,S⟩
     replace H:=if_f hc12 H
     refine zy (zd (za (wd (zi rfl) (zb (zr ?_)))))
     refine ⟨_,(zQ (ze rfl)),?_⟩
     replace S:=S.arr [] []
     obtain rfl:=zbN H
     exact ⟨rfl,S⟩
    ·replace H:=if_f hc11 H
     refine za (wd (zR rfl rfl) (wd (zi rfl) (zb ?_)))
     refine zJ rfl (fun hc13=>?_) (fun hc13=>?_)
     ·replace H:=if_t hc13 H
      refine zd (za (wd (zi rfl) (zb (zr ?_))))
      refine ⟨_,(zQ (ze rfl)),?_⟩
      replace S:=S.arr [] []
      obtain rfl:=zbN H
      exact ⟨rfl,S⟩
     replace H:=if_f hc13 H
     refine zy (zd (za (wd (zi rfl) (zb (zr ?_)))))
     refine ⟨_,(zQ (ze rfl)),?_⟩
     replace S:=S.arr [] []
     obtain rfl:=zbN H
     exact ⟨rfl,S⟩
theorem reduce_rules_16_st {a0:Tb} {a_0:Option Addr} {a1:PTerm} {s_1:SlV} (S:St A N w w [] [oT a_0 a0,zg s_1 a1.sub]) {r:PTerm × Int} (H:zcE.f a0 a1=some r) :
  Calls PP vl #[.pointer a_0,.agg (tmC a1 s_1).toArray] w fun e w' => ∃ v,e = .returned v∧(∃ so0:SlV,v = .tuple #[.agg (tmC r.1 so0).toArray,.int .i64 r.2]∧St A N w w' [] [zg so0 r.1.sub]):=by
 unfold zcE.f at H
 refine zx (n:=10) fn_reduce_rules_16 rfl rfl zbL (zd (za ?_))
 refine zE rfl zbJ fun b2 w1 hw1=>?_
 replace S:=S.new hw1
 refine zP xy zbJ fun b4 w3 hw3=>?_
 replace S:=S.new hw3
 refine wd (zh rfl) (zb (zd (za (wd (zf zG rfl (o':=4) rfl) (wd (zl zB rfl ((S.blk 1).cell (Term.get_sub _))) ?_)))))
 obtain ⟨hi5,H⟩ := xb H
 refine wd (does_indexF zz rfl rfl (S.onZ 1) (zL hi5).1 (zL hi5).2) ?_
 obtain ⟨s6,hc7,S⟩ := S.viewTerm 1 (zL hi5)
 replace S:=S
 refine wd (ldC rfl hc7) ?_
 refine wsT rfl rfl (S.blk 0) fun w8 B hw8 zw8=>?_
 replace S:=S.store 0 B hw8
 clear B
 refine wd (zh rfl) (zb (zr ?_))
 refine ⟨_,(xe (rtT rfl (S.blk 0)) (ze rfl)),?_⟩
 replace S:=S.arr [] [0]
 obtain rfl:=zbN H
 exact ⟨s6,rfl,S⟩
theorem reduce_known_1_gst {zeg:Tb→PTerm→Option Bool} (zdQ : ∀ {A:Nat→Prop} {N:Oth} {w:World} {a0:Tb} {a_0:Option Addr} {a1:PTerm} {s_1:SlV} (S:St A N w w [] [oT a_0 a0,zg s_1 a1.sub]) {r:Bool} (H:zeg a0 a1=some r),Calls PP va #[.pointer a_0,.agg (tmC a1 s_1).toArray] w fun e w' => ∃ v,e = .returned v∧(v = .bool r∧St A N w w' [] [])) {A:Nat→Prop} {N:Oth} {w:World} {a0:PTerm} {s_0:SlV} {a1:Tb} {b_1:Nat} {a_1_1:Option Addr} (S:St A N w w [] [zg s_0 a0.sub,oB b_1 vb [.pointer a_1_1],oT a_1_1 a1]) {r:Bool} (H:zcF.g zeg a0 a1=some r) :
  Calls PP jj #[.agg (tmC a0 s_0).toArray,.pointer (some ⟨b_1,0,none⟩)] w fun e w' => ∃ v,e = .returned v∧(v = .bool r∧St A N w w' [] []):=by
 unfold zcF.g at H
 refine zx (n:=8) fn_reduce_known_1 rfl rfl zbL (zd (za ?_))
 refine zE rfl zbJ fun b2 w1 hw1=>?_
 replace S:=S.new hw1
 refine wd (zi rfl) (zb (zd (za (wd (zl xo rfl ((S.blkZ 1).cell rfl)) (wd (ldT rfl (S.blk 0)) ?_)))))
 obtain ⟨r3,er3,H⟩ := zq H
 obtain ⟨B5,MB5,SB5,back⟩ := S.calln 0 ((.z 2 rfl (.z 0 rfl .nil)))
 refine zw (zt ca_reduce_known) zbJ (zdQ (a1:=a0) SB5 er3) ?_
 rintro _ w4 ⟨rfl,S2⟩
 replace S:=back _ _ _ _ S2 rfl
 clear back S2 SB5
 refine wd (xh rfl) (wd (zi rfl) (zb (zr ?_)))
 refine ⟨_,(zQ (ze rfl)),?_⟩
 replace S:=S.arr [] []
 obtain rfl:=zbN H
 exact ⟨rfl,S⟩
theorem vv {zeg:Tb→PTerm→Option Bool} (zdQ : ∀ {A:Nat→Prop} {N:Oth} {w:World} {a0:Tb} {a_0:Option Addr} {a1:PTerm} {s_1:SlV} (S:St A N w w [] [oT a_0 a0,zg s_1 a1.sub]) {r:Bool} (H:zeg a0 a1=some r),Calls PP va #[.pointer a_0,.agg (tmC a1 s_1).toArray] w fun e w' => ∃ v,e = .returned v∧(v = .bool r∧St A N w w' [] [])) {A:Nat→Prop} {N:Oth} {w:World} {a0:List PTerm} {s_0:SlV} {a1_0:Tb} {b_1:Nat} {a_1_1:Option Addr} (S:St A N w w [] [zg s_0 a0,oB b_1 vb [.pointer a_1_1],oT a_1_1 a1_0]) {r:Int} (H:zcG.g zeg a0 a1_0=some r) :
  Calls PP yt #[s_0.v,.func (.func jj) #[] #[.pointer (some ⟨b_1,0,none⟩)]] w fun e w' => ∃ v,e = .returned v∧(v = .int .i64 r∧St A N w w' [] []):=by
 unfold zcG.g at H
 refine zx (n:=19) vo rfl rfl zbL (zd (za (wd (zh rfl) (zb (zd (zd (za (wd (zT rfl) ?_))))))))
 refine wd (does_lenF zz rfl (S.onZ 0)) (wd (zj rfl) (zb ?_))
 obtain ⟨o1,e1,Ho1⟩ := zq H
 clear H
 refine xX [4,5,8,9,10,11,12,13,14,15,16,17,18] (fun fr W => ∃ s1:Unit,o1 = .inl s1∧St A N w W [] [zg s_0 a0,oB b_1 vb [.pointer a_1_1],oT a_1_1 a1_0]) ?_ ?_
 ·refine zO ?_
  refine xR (α:=Nat × Int × Unit) [4,5,8,9,10,11,12,13,14,15,16,17,18] (fun x fr W=>(x.1:Int)=(a0.length:Int) - x.2.1∧0 ≤ x.2.1∧forN (fun i s=>zcG.b0 zeg a0 a1_0 i) x.1 x.2.1 x.2.2=some o1∧fr 8 = .int .i64 x.2.1∧St A N w W [] [zg s_0 a0,oB b_1 vb [.pointer a_1_1],oT a_1_1 a1_0]) (fun x=>x.1) (((a0.length:Int) - 0).toNat,0,()) ⟨(by dsimp only; have hle:=Int.natCast_nonneg (a0.length); omega),(Int.le_refl _),(by dsimp only; exact e1),rfl,S⟩ ?_
  rintro ⟨m1,i1,_⟩ g1 u1 ⟨hm1,hl1,e1,q1_i,S⟩
  try dsimp only at hm1
  try dsimp only at hl1
  try dsimp only at e1
  try dsimp only at S
  try dsimp only at q1_i
  refine zd (za (wd (xz q1_i rfl) (zb (zd ?_))))
  refine zJ rfl (fun hc2=>?_) (fun hc2=>?_)
  rotate_left
  ·refine ya ?_
   have hge:(a0.length:Int) ≤ i1:=Int.not_lt.1 (of_decide_eq_false hc2)
   obtain rfl:m1=0:=by omega
   replace e1:=zbj e1
   exact ⟨rfl,((Dif.self _ _ _).upd rfl _),(),e1,S⟩
  refine zy ?_
  have hlt1:i1 < (a0.length:Int):=of_decide_eq_true hc2
  obtain ⟨m1,rfl⟩ : ∃ m,m1=m + 1:=⟨m1 - 1,by omega⟩
  obtain ⟨q1,H,e1⟩ := zbk e1
  unfold zcG.b0 at H
  try dsimp only at H
  have hb1:=(S.lenFZ 0)
  refine zd ?_
  refine zO (zd (za (wd (zj q1_i) (wd (zh rfl) (zb (zd (za ?_)))))))
  refine wd (jP rfl) (wd (zT rfl) (wd (zj rfl) (wd (does_indexF zz rfl rfl (S.onZ 0) (And.intro (show 0 ≤ i1 by omega) (show i1 < (a0.length:Int) from hlt1)).1 (And.intro (show 0 ≤ i1 by omega) (show i1 < (a0.length:Int) from hlt1)).2) ?_)))
  obtain ⟨s4,hc5,S⟩ := S.viewTerm 0 (And.intro (show 0 ≤ i1 by omega) (show i1 < (a0.length:Int) from hlt1))
  replace S:=S
  refine wd (ldC rfl hc5) ?_
  obtain ⟨r6,er6,H⟩ := zq H
  obtain ⟨B8,MB8,SB8,back⟩ := S.calln 0 ((.z 0 rfl (.z 2 rfl (.z 3 rfl .nil))))
  refine zw (yZ ca_reduce_known_1 rfl) zbJ (reduce_known_1_gst zdQ (a0:=(at_ PTerm.z a0 i1)) SB8 er6) ?_
  rintro _ w7 ⟨rfl,S2⟩
  replace S:=back _ _ _ _ S2 rfl
  clear back S2 SB8
  refine zb ?_
  refine zJ rfl (fun hc9=>?_) (fun hc9=>?_)
  ·replace H:=if_t hc9 H
   refine zd (za (wd (zj rfl) (wd (zh rfl) (zb (zr ?_)))))
   refine ⟨_,(zQ (ze rfl)),?_⟩
   replace S:=S.arr [] []
   obtain rfl:=zbN H
   obtain rfl:=e1
   obtain rfl:=jB Ho1
   exact ⟨rfl,S⟩
  replace H:=if_f hc9 H
  refine zy (za (wd (xp q1_i rfl (c:=i1 + 1) rfl zbK zbK) (wd (zj rfl) (zb ?_))))
  replace S:=S.arr [] [1,2,3]
  obtain rfl:=zbN H
  exact ⟨rfl,((((((((((((Dif.self _ _ _).upd rfl _).upd rfl _).upd rfl _).upd rfl _).upd rfl _).upd rfl _).upd rfl _).upd rfl _).upd rfl _).upd rfl _).upd rfl _),(m1,i1 + 1,()),⟨(by dsimp only; omega),(by dsimp only; omega),e1,rfl,S⟩,by dsimp only; omega⟩
 rintro g10 u11 ⟨s1,rfl,S⟩
 have H:=Ho1
 dsimp only [aft] at H
 refine zd (za (wd (zh rfl) (zb (zr ?_))))
 refine ⟨_,(zQ (ze rfl)),?_⟩
 replace S:=S.arr [] []
 obtain rfl:=zbN H
 exact ⟨rfl,S⟩
theorem y9 {zeg:Tb→PTerm→Option Bool} (zdQ : ∀ {A:Nat→Prop} {N:Oth} {w:World} {a0:Tb} {a_0:Option Addr} {a1:PTerm} {s_1:SlV} (S:St A N w w [] [oT a_0 a0,zg s_1 a1.sub]) {r:Bool} (H:zeg a0 a1=some r),Calls PP va #[.pointer a_0,.agg (tmC a1 s_1).toArray] w fun e w' => ∃ v,e = .returned v∧(v = .bool r∧St A N w w' [] [])) {A:Nat→Prop} {N:Oth} {w:World} {a0:List PTerm} {s_0:SlV} {a1_0:Tb} {b_1:Nat} {a_1_1:Option Addr} (S:St A N w w [] [zg s_0 a0,oB b_1 vb [.pointer a_1_1],oT a_1_1 a1_0]) {r:Bool} (H:zcH.g zeg a0 a1_0=some r) :
  Calls PP yg #[s_0.v,.func (.func jj) #[] #[.pointer (some ⟨b_1,0,none⟩)]] w fun e w' => ∃ v,e = .returned v∧(v = .bool r∧St A N w w' [] []):=by
 unfold zcH.g at H
 refine zx (n:=9) yW rfl rfl zbL (zd (za (wd (zi rfl) (zb (zd (za (wd (zT rfl) ?_)))))))
 refine wd (jP rfl) ?_
 obtain ⟨r1,er1,H⟩ := zq H
 obtain ⟨B3,MB3,SB3,back⟩ := S.calln 0 ((.z 0 rfl (.z 1 rfl (.z 2 rfl .nil))))
 refine zw (zt vm) zbJ (vv zdQ SB3 er1) ?_
 rintro _ w2 ⟨rfl,S2⟩
 replace S:=back _ _ _ _ S2 rfl
 clear back S2 SB3
 refine wd (jn rfl rfl) (wd (zi rfl) (zb (zr ?_)))
 refine ⟨_,(zQ (ze rfl)),?_⟩
 replace S:=S.arr [] []
 obtain rfl:=zbN H
 exact ⟨rfl,S⟩
theorem reduce_known_gst {zeg:Tb→PTerm→Option Bool} (zdQ : ∀ {A:Nat→Prop} {N:Oth} {w:World} {a0:Tb} {a_0:Option Addr} {a1:PTerm} {s_1:SlV} (S:St A N w w [] [oT a_0 a0,zg s_1 a1.sub]) {r:Bool} (H:zeg a0 a1=some r),Calls PP va #[.pointer a_0,.agg (tmC a1 s_1).toArray] w fun e w' => ∃ v,e = .returned v∧(v = .bool r∧St A N w w' [] [])) {A:Nat→Prop} {N:Oth} {w:World} {a0:Tb} {a_0:Option Addr} {a1:PTerm} {s_1:SlV} (S:St A N w w [] [oT a_0 a0,zg s_1 a1.sub]) {r:Bool} (H:zcI.g zeg a0 a1=some r) :
  Calls PP va #[.pointer a_0,.agg (tmC a1 s_1).toArray] w fun e w' => ∃ v,e = .returned v∧(v = .bool r∧St A N w w' [] []):=by
 unfold zcI.g at H
 refine zx (n:=20) fn_reduce_known rfl rfl zbL (zd (za ?_))
 refine wl_box_p rfl zbJ fun b2 w1 hw1=>?_
 replace S:=S.new hw1
 refine zE rfl zbJ fun b4 w3 hw3=>?_
 replace S:=S.new hw3
 refine wd (zi rfl) (zb (zd (zd ?_)))
 refine yq 8 (Ext w3) hmix zbM zbM (Ext.drawn _) (zD (fun v K=>zf xd rfl (o':=0) rfl) (zD (fun v K=>zl zW rfl (((S.ext K).blk 0).cell (Term.get_kind _))) (zD (fun v K=>zR rfl rfl) (zD (fun v K=>zA rfl) (zbI (j:=3) (pol:=true) rfl rfl rfl (fun hg v K=>zf yI rfl (o':=3) rfl) ?_)))))
 refine zbI (j:=3) (pol:=true) rfl rfl rfl (fun hg v K=>zl xr (zp hg) (((S.ext K).blk 0).cell (Term.get_form _))) (zbI (j:=3) (pol:=true) rfl rfl rfl (fun hg v K=>zl xo rfl (((S.ext K).blk 1).cell rfl)) ?_)
 obtain ⟨r5,er5,H⟩ := zq H
 refine wq_gcall (j:=3) (pol:=true) rfl rfl rfl (fun hg v=>zF ca_formula_Table_Len (zK (zp hg) rfl)) (fun hg v K=>(have ⟨M,SS⟩ := (S.ext K).lend ((.z 0 rfl .nil)); quiet (formula_Table_Len_st SS (if_t (by simpa using hg) er5)) (fun v w' h=>⟨h.1,_,_,h.2⟩))) (fun v v' K h=>K.thenExt h) ?_
 refine vX fun w6 K=>?_
 replace S:=S.ext K
 clear K
 refine wg (fun hg=>jn (zp hg) (zp hg)) (wd (z7 rfl (fun hp=>(zp (xt hp)))) (zb ?_))
 refine zJ rfl (fun hc7=>?_) (fun hc7=>?_)
 ·replace H:=if_t hc7 H
  refine zd (za (wd (zi rfl) (zb (zr ?_))))
  refine ⟨_,(zQ (ze rfl)),?_⟩
  replace S:=S.arr [] []
  obtain rfl:=zbN H
  exact ⟨rfl,S⟩
 replace H:=if_f hc7 H
 refine zy (zd (za (wd (zf zG rfl (o':=4) rfl) (wd (zl zB rfl ((S.blk 0).cell (Term.get_sub _))) (wd (does_funcl) ?_)))))
 obtain ⟨r8,er8,H⟩ := zq H
 obtain ⟨B10,MB10,SB10,back⟩ := S.calln 0 ((.z 1 rfl (.o 1 rfl (.z 0 rfl .nil))))
 refine zw (zt yT) zbJ (y9 zdQ SB10 er8) ?_
 rintro _ w9 ⟨rfl,S2⟩
 replace S:=back _ _ _ _ S2 rfl
 clear back S2 SB10
 refine wd (xh rfl) (wd (zi rfl) (zb (zr ?_)))
 refine ⟨_,(zQ (ze rfl)),?_⟩
 replace S:=S.arr [] []
 obtain rfl:=zbN H
 exact ⟨rfl,S⟩
theorem reduce_known_st {a0:Tb} {a_0:Option Addr} {a1:PTerm} {s_1:SlV} (S:St A N w w [] [oT a_0 a0,zg s_1 a1.sub]) {k:Nat} {r:Bool} (H:zcI.f k a0 a1=some r) :
  Calls PP va #[.pointer a_0,.agg (tmC a1 s_1).toArray] w fun e w' => ∃ v,e = .returned v∧(v = .bool r∧St A N w w' [] []):=by
 have main : ∀ (k:Nat) {A:Nat→Prop} {N:Oth} {w:World} {a0:Tb} {a_0:Option Addr} {a1:PTerm} {s_1:SlV} (S:St A N w w [] [oT a_0 a0,zg s_1 a1.sub]) {r:Bool} (H:zcI.f k a0 a1=some r),Calls PP va #[.pointer a_0,.agg (tmC a1 s_1).toArray] w fun e w' => ∃ v,e = .returned v∧(v = .bool r∧St A N w w' [] []):=by
  intro k
  induction k with
  | zero=>intro A N w a0 a_0 a1 s_1 S r H; cases H
  | succ k ih=>intro A N w a0 a_0 a1 s_1 S r H; exact reduce_known_gst ih S H
 exact main k S H
theorem reduce_rules_st  (S:St A N w w [] [oPw]) {r:Unit} (H:zcJ.f  = some r) :
  Calls PP F_reduce_rules #[] w fun e w' => ∃ v,e = .returned v∧(∃ so0:SlV,v=so0.v∧St A N w w' [oS jF 2 RRule.C so0 zbG] []):=by
 unfold zcJ.f at H
 refine zx (n:=10) fn_reduce_rules rfl rfl zbL (zd (za (wd (x0) (zb (zd (za (wd (Does.to (v':=Value.agg (RRule.C (jt 0)).toArray) (xa (vs:=[(0,.func (.func uq) #[] #[]),(1,.func (.func vI) #[] #[])]) j5 (xS rfl (xS rfl rfl)) (Bld.one rfl rfl (by rw [RRule.len]; decide) (RRule.set_fits _ (.mk (.func uq) #[] #[])) (Bld.one rfl rfl (by rw [RRule.len]; decide) (RRule.set_does _ (.mk (.func vI) #[] #[])) Bld.nil))) rfl) ?_)))))))
 refine wd (Does.to (v':=Value.agg (RRule.C (jt 1)).toArray) (xa (vs:=[(0,.func (.func ur) #[] #[]),(1,.func (.func vJ) #[] #[])]) j5 (xS rfl (xS rfl rfl)) (Bld.one rfl rfl (by rw [RRule.len]; decide) (RRule.set_fits _ (.mk (.func ur) #[] #[])) (Bld.one rfl rfl (by rw [RRule.len]; decide) (RRule.set_does _ (.mk (.func vJ) #[] #[])) Bld.nil))) rfl) (wd (Does.to (v':=Value.agg (RRule.C (jt 2)).toArray) (xa (vs:=[(0,.func (.func ut) #[] #[]),(1,.func (.func vK) #[] #[])]) j5 (xS rfl (xS rfl rfl)) (Bld.one rfl rfl (by rw [RRule.len]; decide) (RRule.set_fits _ (.mk (.func ut) #[] #[])) (Bld.one rfl rfl (by rw [RRule.len]; decide) (RRule.set_does _ (.mk (.func vK) #[] #[])) Bld.nil))) rfl) (wd (Does.to (v':=Value.agg (RRule.C (jt 3)).toArray) (xa (vs:=[(0,.func (.func uu) #[] #[]),(1,.func (.func vM) #[] #[])]) j5 (xS rfl (xS rfl rfl)) (Bld.one rfl rfl (by rw [RRule.len]; decide) (RRule.set_fits _ (.mk (.func uu) #[] #[])) (Bld.one rfl rfl (by rw [RRule.len]; decide) (RRule.set_does _ (.mk (.func vM) #[] #[])) Bld.nil))) rfl) (wd (Does.to (v':=Value.agg (RRule.C (jt 4)).toArray) (xa (vs:=[(0,.func (.func uv) #[] #[]),(1,.func (.func vi) #[] #[])]) j5 (xS rfl (xS rfl rfl)) (Bld.one rfl rfl (by rw [RRule.len]; decide) (RRule.set_fits _ (.mk (.func uv) #[] #[])) (Bld.one rfl rfl (by rw [RRule.len]; decide) (RRule.set_does _ (.mk (.func vi) #[] #[])) Bld.nil))) rfl) (wd (Does.to (v':=Value.agg (RRule.C (jt 5)).toArray) (xa (vs:=[(0,.func (.func vY) #[] #[]),(1,.func (.func vj) #[] #[])]) j5 (xS rfl (xS rfl rfl)) (Bld.one rfl rfl (by rw [RRule.len]; decide) (RRule.set_fits _ (.mk (.func vY) #[] #[])) (Bld.one rfl rfl (by rw [RRule.len]; decide) (RRule.set_does _ (.mk (.func vj) #[] #[])) Bld.nil))) rfl) (wd (Does.to (v':=Value.agg (RRule.C (jt 6)).toArray) (xa (vs:=[(0,.func (.func vZ) #[] #[]),(1,.func (.func vk) #[] #[])]) j5 (xS rfl (xS rfl rfl)) (Bld.one rfl rfl (by rw [RRule.len]; decide) (RRule.set_fits _ (.mk (.func vZ) #[] #[])) (Bld.one rfl rfl (by rw [RRule.len]; decide) (RRule.set_does _ (.mk (.func vk) #[] #[])) Bld.nil))) rfl) ?_)))))
 refine wd (Does.to (v':=Value.agg (RRule.C (jt 7)).toArray) (xa (vs:=[(0,.func (.func v6) #[] #[]),(1,.func (.func vl) #[] #[])]) j5 (xS rfl (xS rfl rfl)) (Bld.one rfl rfl (by rw [RRule.len]; decide) (RRule.set_fits _ (.mk (.func v6) #[] #[])) (Bld.one rfl rfl (by rw [RRule.len]; decide) (RRule.set_does _ (.mk (.func vl) #[] #[])) Bld.nil))) rfl) ?_
 refine vE (C:=RRule.C) (l:=zbG) (vs:=[.agg (RRule.C (jt 0)).toArray,.agg (RRule.C (jt 1)).toArray,.agg (RRule.C (jt 2)).toArray,.agg (RRule.C (jt 3)).toArray,.agg (RRule.C (jt 4)).toArray,.agg (RRule.C (jt 5)).toArray,.agg (RRule.C (jt 6)).toArray,.agg (RRule.C (jt 7)).toArray]) yc el_RRule.zero rfl rfl (fun a _=>RRule.len a) zbJ rfl zbJ fun b2 w1 s3 hBw1 hw1=>?_
 replace S:=S.lit hBw1 hw1 zbJ
 refine wd (vn rfl) (zb (zr ?_))
 refine ⟨_,(zQ (ze rfl)),?_⟩
 replace S:=S.arr [0] []
 obtain rfl:=zbN H
 exact ⟨s3,rfl,S⟩
theorem zap {a0:Tb} {a_0:Option Addr} {a1:PTerm} {s_1:SlV} (S:St A N w w [] [oT a_0 a0,zg s_1 a1.sub,oPw]) {k:Nat} {r:Bool × Int} (H:zcK.f k a0 a1=some r) :
  Calls PP F_reduce_begun #[.pointer a_0,.agg (tmC a1 s_1).toArray] w fun e w' => ∃ v,e = .returned v∧(∃ ao0:Option Addr,v = .tuple #[.pointer ao0,.int .i64 r.2]∧St A N w w' [] [oMa ao0 a_0 r.1]):=by
 unfold zcK.f at H
 refine zx (n:=23) fn_reduce_begun rfl rfl zbL ?_
 refine zd (za ?_)
 refine zE rfl zbJ fun b2 w1 hw1=>?_
 replace S:St A N w w1 [oB b2 zo (tmC a1 s_1)] [oT a_0 a0,zg s_1 a1.sub,oPw]:=S.new hw1
 refine wd (zY rfl) ?_
 replace S:St A N w w1 [oB b2 zo (tmC a1 s_1)] [oMa none a_0 false,oT a_0 a0,zg s_1 a1.sub,oPw]:=S.nil_oMaZ
 refine wd (zh rfl) ?_
 refine zb ?_
 refine zd (zd (za ?_))
 refine wd (zu rfl) ?_
 obtain ⟨r3,er3,H⟩ := zq H
 obtain ⟨B5,MB5,SB5,back⟩ := S.calln 0 ((.z 1 rfl .nil))
 refine zw (zt ca_formula_Table_Copy) zbJ (formula_Table_Copy_st SB5 er3) ?_
 rintro _ w4 ⟨a6,rfl,hnilw4,S2⟩
 replace S:St A N w w4 [oT a6 r3,oB b2 zo (tmC a1 s_1)] [oMa none a_0 false,oT a_0 a0,zg s_1 a1.sub,oPw]:=back _ _ _ _ S2 rfl
 clear back S2 SB5
 refine wd (does_isnilp vV rfl rfl hnilw4) ?_
 refine zb ?_
 refine zJ rfl (fun hc7=>?_) (fun hc7=>?_)
 ·replace H:=if_t hc7 H
  refine zd (za ?_)
  refine wd (zY rfl) ?_
  replace S:St A N w w4 [oT a6 r3,oB b2 zo (tmC a1 s_1)] [oMa none a_0 false,oMa none a_0 false,oT a_0 a0,zg s_1 a1.sub,oPw]:=S.nil_oMaZ
  refine wd (zh rfl) ?_
  refine zb ?_
  refine zr ?_
  refine ⟨_,(xe (ze rfl) (ze rfl)),?_⟩
  replace S:St A N w w4 [] [oMa none a_0 false]:=S.arr [] [0]
  obtain rfl:=zbN H
  exact ⟨none,rfl,S⟩
 replace H:=if_f hc7 H
 refine zy ?_
 refine zd (zd (za ?_))
 refine wd (ldT rfl (S.blk 1)) ?_
 obtain ⟨r8,er8,H⟩ := zq H
 obtain ⟨B10,MB10,SB10,back⟩ := S.calln 0 ((.z 2 rfl .nil))
 refine zw (zt uK) zbJ (uM (a0:=a1) SB10 er8) ?_
 rintro _ w9 ⟨rfl,S2⟩
 replace S:St A N w w9 [oT a6 r3,oB b2 zo (tmC a1 s_1)] [oMa none a_0 false,oT a_0 a0,zg s_1 a1.sub,oPw]:=back _ _ _ _ S2 rfl
 clear back S2 SB10
 refine wd (zh rfl) ?_
 refine zb ?_
 refine zd (za ?_)
 refine wd (zj rfl) ?_
 refine wd (xw rfl rfl) ?_
 refine zb ?_
 refine zJ rfl (fun hc11=>?_) (fun hc11=>?_)
 ·replace H:=if_t hc11 H
  refine zd (za ?_)
  refine wd (zj rfl) ?_
  refine wd (zY rfl) ?_
  replace S:St A N w w9 [oT a6 r3,oB b2 zo (tmC a1 s_1)] [oMa none a_0 false,oMa none a_0 false,oT a_0 a0,zg s_1 a1.sub,oPw]:=S.nil_oMaZ
  refine wd (zh rfl) ?_
  refine zb ?_
  refine zr ?_
  refine ⟨_,(xe (ze rfl) (ze rfl)),?_⟩
  replace S:St A N w w9 [] [oMa none a_0 false]:=S.arr [] [0]
  obtain rfl:=zbN H
  exact ⟨none,rfl,S⟩
 replace H:=if_f hc11 H
 refine zy ?_
 refine zd (zd (za ?_))
 refine wd (zu rfl) ?_
 refine wd (ldT rfl (S.blk 1)) ?_
 obtain ⟨r12,er12,H⟩ := zq H
 obtain ⟨B14,MB14,SB14,back⟩ := S.calln 0 ((.z 1 rfl (.z 2 rfl .nil)))
 refine zw (zt ca_reduce_known) zbJ (reduce_known_st (a1:=a1) SB14 er12) ?_
 rintro _ w13 ⟨rfl,S2⟩
 replace S:St A N w w13 [oT a6 r3,oB b2 zo (tmC a1 s_1)] [oMa none a_0 false,oT a_0 a0,zg s_1 a1.sub,oPw]:=back _ _ _ _ S2 rfl
 clear back S2 SB14
 refine wd (xh rfl) ?_
 refine zb ?_
 refine zJ rfl (fun hc15=>?_) (fun hc15=>?_)
 ·replace H:=if_t hc15 H
  refine zd (za ?_)
  refine wd (zY rfl) ?_
  replace S:St A N w w13 [oT a6 r3,oB b2 zo (tmC a1 s_1)] [oMa none a_0 false,oMa none a_0 false,oT a_0 a0,zg s_1 a1.sub,oPw]:=S.nil_oMaZ
  refine wd (zh rfl) ?_
  refine zb ?_
  refine zr ?_
  refine ⟨_,(xe (ze rfl) (ze rfl)),?_⟩
  replace S:St A N w w13 [] [oMa none a_0 false]:=S.arr [] [0]
  obtain rfl:=zbN H
  exact ⟨none,rfl,S⟩
 replace H:=if_f hc15 H
 refine zy ?_
 refine zd (za ?_)
 refine wd (zu rfl) ?_
 obtain ⟨r16,er16,H⟩ := zq H
 obtain ⟨B18,MB18,SB18,back⟩ := S.calln 0 ((.z 3 rfl .nil))
 refine zw (zt ca_reduce_rules) zbJ (reduce_rules_st SB18 er16) ?_
 rintro _ w17 ⟨s19,rfl,S2⟩
 replace S:St A N w w17 [oS jF 2 RRule.C s19 zbG,oT a6 r3,oB b2 zo (tmC a1 s_1)] [oMa none a_0 false,oT a_0 a0,zg s_1 a1.sub,oPw]:=back _ _ _ _ S2 rfl
 clear back S2 SB18
 refine wd (Does.to (v' := .agg (Machine.C (⟨a_0,s19⟩ : Machine)).toArray) (xa (vs:=[(0,.pointer a_0),(1,s19.v)]) bu_Machine (xS rfl (xS rfl rfl)) (Bld.one rfl rfl (by rw [Machine.len]; decide) (Machine.set_t _ _) (Bld.one rfl (SlV.one _ _ rfl) (by rw [Machine.len]; decide) (Machine.set_rules _ _) Bld.nil))) rfl) ?_
 refine zE rfl zbJ fun b21 w20 hw20=>?_
 replace S:St A N w w20 [oB b21 kx (Machine.C (⟨a_0,s19⟩ : Machine)),oS jF 2 RRule.C s19 zbG,oT a6 r3,oB b2 zo (tmC a1 s_1)] [oMa none a_0 false,oT a_0 a0,zg s_1 a1.sub,oPw]:=S.new hw20
 replace S:=S.front 1
 replace S:=S.front 1
 replace S:St A N w w20 [oMa (some ⟨b21,0,none⟩) a_0 true,oT a6 r3,oB b2 zo (tmC a1 s_1)] [oMa none a_0 false,oT a_0 a0,zg s_1 a1.sub,oPw]:=S.shut_oMa rfl
 replace S:St A N w w20 [oT a6 r3,oB b2 zo (tmC a1 s_1)] [oMa (some ⟨b21,0,none⟩) a_0 true,oMa none a_0 false,oT a_0 a0,zg s_1 a1.sub,oPw]:=S.frzO 0
 refine wd (zY rfl) ?_
 refine wd (zh rfl) ?_
 refine zb ?_
 refine zr ?_
 refine ⟨_,(xe (ze rfl) (ze rfl)),?_⟩
 replace S:St A N w w20 [] [oMa (some ⟨b21,0,none⟩) a_0 true]:=S.arr [] [0]
 obtain rfl:=zbN H
 exact ⟨(some ⟨b21,0,none⟩),rfl,S⟩
end
section
open Go.RowKit
namespace Gw
variable {Z:List OA}
theorem tl10 {a0 a1 a2 a3 a4 a5 a6 a7 a8 a9:OA} : ∀ z ∈ Z,z ∈ a0 :: a1 :: a2 :: a3 :: a4 :: a5 :: a6 :: a7 :: a8 :: a9 :: Z:=fun z q => .tail _ (.tail _ (.tail _ (.tail _ (.tail _ (.tail _ (.tail _ (.tail _ (.tail _ (.tail _ (q))))))))))
theorem tl11 {a0 a1 a2 a3 a4 a5 a6 a7 a8 a9 a10:OA} : ∀ z ∈ Z,z ∈ a0 :: a1 :: a2 :: a3 :: a4 :: a5 :: a6 :: a7 :: a8 :: a9 :: a10 :: Z:=fun z q => .tail _ (.tail _ (.tail _ (.tail _ (.tail _ (.tail _ (.tail _ (.tail _ (.tail _ (.tail _ (.tail _ (q)))))))))))
end Gw
end
section
open Gw
theorem term_clone_nil {zen:PTerm→Option PTerm} {a0 r:PTerm} (h:a0.sub=[]) (H:zcP.g zen a0=some r):some a0=some r:=by
 unfold zcP.g at H
 rw [h] at H
 cases a0
 simp only [PTerm.sub] at h
 subst h
 exact H
end
section
open Gw Go.RowKit
set_option maxHeartbeats 4000000
set_option maxRecDepth 20000
variable {A:Nat→Prop} {N:Oth} {w:World}
theorem zbp {a0:PTerm} {s_0:SlV} {a1:Int} (S:St A N w w [] [zg s_0 a0.sub]) {r:ByteArray} (H:zcL.f a0 a1=some r) :
  Calls PP F_term_binds #[.agg (tmC a0 s_0).toArray,.int .i64 a1] w fun e w' => ∃ v,e = .returned v∧(v = .string r∧St A N w w' [] []):=by
 unfold zcL.f at H
 refine zx (n:=35) fn_term_binds rfl rfl zbL (zd (za ?_))
 refine zE rfl zbJ fun b2 w1 hw1=>?_
 replace S:=S.new hw1
 refine wd (uL rfl) (zb (zd ?_))
 refine zO (zd (za (wd (zf xd rfl (o':=0) rfl) (wd (zl zW rfl ((S.blk 0).cell (Term.get_kind _))) (wd (zR rfl rfl) (wd (zA rfl) ?_))))))
 refine wg (fun hg=>zj rfl) ?_
 refine wg (fun hg=>zR (zp hg) rfl) ?_
 refine wg (fun hg=>zA (zp hg)) (xA (j:=6) (pol:=true) rfl rfl rfl zbJ (fun hg=>zf xd rfl (o':=0) rfl) zbJ (xA (j:=6) (pol:=true) rfl rfl rfl zbJ (fun hg=>zl zW (zp hg) ((S.blk 0).cell (Term.get_kind _))) zbJ (xA (j:=6) (pol:=true) rfl rfl rfl zbJ (fun hg=>zR (zp hg) rfl) zbJ (xA (j:=6) (pol:=true) rfl rfl rfl zbJ (fun hg=>zA (zp hg)) zbJ (xA (j:=10) (pol:=false) rfl rfl rfl zbJ (fun hg=>zf xd rfl (o':=0) rfl) zbJ ?_)))))
 refine xA (j:=10) (pol:=false) rfl rfl rfl zbJ (fun hg=>zl zW (zp hg) ((S.blk 0).cell (Term.get_kind _))) zbJ (xA (j:=10) (pol:=false) rfl rfl rfl zbJ (fun hg=>zR (zp hg) rfl) zbJ (xA (j:=6) (pol:=true) rfl rfl rfl zbJ (fun hg=>xD (zp hg) (fun hp=>(zp (and_b hg hp)))) zbJ ?_))
 refine wg (fun hg=>z7 (zp hg) (fun hp=>(zp (and_b hg hp)))) (wd (xD rfl (fun hp=>(zp (xt hp)))) (wd (zi rfl) (zb ?_)))
 refine zJ rfl (fun hc3=>?_) (fun hc3=>?_)
 ·replace H:=if_t hc3 H
  refine zd (za (wd (zf xH rfl (o':=1) rfl) (wd (zl xl rfl ((S.blk 0).cell (Term.get_name _))) (wd (uL rfl) (zb (zr ?_))))))
  refine ⟨_,(zQ (ze rfl)),?_⟩
  replace S:=S.arr [] []
  obtain rfl:=zbN H
  exact ⟨rfl,S⟩
 replace H:=if_f hc3 H
 refine zd (za (wd (zf xd rfl (o':=0) rfl) (wd (zl zW rfl ((S.blk 0).cell (Term.get_kind _))) (wd (zR rfl rfl) (wd (zA rfl) ?_)))))
 refine wg (fun hg=>zj rfl) ?_
 refine wg (fun hg=>zR (zp hg) rfl) (wd (z7 rfl (fun hp=>(zp (xt hp)))) (wd (zi rfl) (zb ?_)))
 refine zJ rfl (fun hc4=>?_) (fun hc4=>?_)
 ·replace H:=if_t hc4 H
  refine zd (za (wd (zf vH rfl (o':=2) rfl) (wd (zl xl rfl ((S.blk 0).cell (Term.get_other _))) (wd (uL rfl) (zb (zr ?_))))))
  refine ⟨_,(zQ (ze rfl)),?_⟩
  replace S:=S.arr [] []
  obtain rfl:=zbN H
  exact ⟨rfl,S⟩
 replace H:=if_f hc4 H
 refine zy (zd (za (wd (uL rfl) (zb (zr ?_)))))
 refine ⟨_,(zQ (ze rfl)),?_⟩
 replace S:=S.arr [] []
 obtain rfl:=zbN H
 exact ⟨rfl,S⟩
theorem term_grown_gst {zep:PTerm→ByteArray→Int→Int→Option (Int × Int)} (zdZ : ∀ {A:Nat→Prop} {N:Oth} {w:World} {a0:PTerm} {s_0:SlV} {a1:ByteArray} {a2:Int} {a3:Int} (S:St A N w w [] [zg s_0 a0.sub]) {r:Int × Int} (H:zep a0 a1 a2 a3=some r),Calls PP jZ #[.agg (tmC a0 s_0).toArray,.string a1,.int .i64 a2,.int .i64 a3] w fun e w' => ∃ v,e = .returned v∧(v = .tuple #[.int .i64 r.1,.int .i64 r.2]∧St A N w w' [] [])) {A:Nat→Prop} {N:Oth} {w:World} {a0:PTerm} {s_0:SlV} {a1:ByteArray} {a2:Int} {a3:Int} (S:St A N w w [] [zg s_0 a0.sub]) {k:Nat} {r:Int × Int} (H:zcM.g zep k a0 a1 a2 a3=some r) :
  Calls PP jZ #[.agg (tmC a0 s_0).toArray,.string a1,.int .i64 a2,.int .i64 a3] w fun e w' => ∃ v,e = .returned v∧(v = .tuple #[.int .i64 r.1,.int .i64 r.2]∧St A N w w' [] []):=by
 unfold zcM.g at H
 refine zx (n:=60) fn_term_grown rfl rfl zbL (zd (za ?_))
 refine zE rfl zbJ fun b2 w1 hw1=>?_
 replace S:=S.new hw1
 refine wd (zh rfl) (wd (zh rfl) (zb (zd (zd (za (wd (zf xd rfl (o':=0) rfl) (wd (zl zW rfl ((S.blk 0).cell (Term.get_kind _))) ?_)))))))
 refine wd (zR rfl rfl) (zb ?_)
 refine zJ rfl (fun hc3=>?_) (fun hc3=>?_)
 ·replace H:=if_t hc3 H
  refine zd (zd (za (wd (zf xH rfl (o':=1) rfl) (wd (zl xl rfl ((S.blk 0).cell (Term.get_name _))) (wd (z1 rfl) (wd (yU rfl rfl) (zb ?_)))))))
  refine zJ rfl (fun hc4=>?_) (fun hc4=>?_)
  ·replace H:=if_t hc4 H
   refine zd (za (wd (zj rfl) (wd (zj rfl) (wd (zh rfl) (wd (zh rfl) (zb (zr ?_)))))))
   refine ⟨_,(xe (ze rfl) (ze rfl)),?_⟩
   replace S:=S.arr [] []
   obtain rfl:=zbN H
   exact ⟨rfl,S⟩
  replace H:=if_f hc4 H
  refine zy (zd (za (wd (zh rfl) (wd (zh rfl) (zb (zr ?_))))))
  refine ⟨_,(xe (ze rfl) (ze rfl)),?_⟩
  replace S:=S.arr [] []
  obtain rfl:=zbN H
  exact ⟨rfl,S⟩
 replace H:=if_f hc3 H
 refine zy (zd (za (wd (zh rfl) (wd (zh rfl) (zb (zd (zd (za ?_))))))))
 refine wd (zf zG rfl (o':=4) rfl) (wd (zl zB rfl ((S.blk 0).cell (Term.get_sub _))) (wd (does_lenF zz rfl (S.onZ 0)) (wd (zj rfl) (zb ?_))))
 obtain ⟨o5,e5,Ho5⟩ := zq H
 clear H
 refine xX [10,11,12,13,14,15,28,29,30,31,32,33,34,35,36,37,38,39,40,41,42,43,44,45,46,47,48,49,50,51,52,53,54,55,56] (fun fr W=>fr 10 = .int .i64 o5.1∧fr 11 = .int .i64 o5.2∧St A N w W [oB b2 zo (tmC a0 s_0)] [zg s_0 a0.sub]) ?_ ?_
 ·refine zO ?_
  refine xR (α:=Nat × Int × (Int × Int)) [10,11,12,13,14,15,28,29,30,31,32,33,34,35,36,37,38,39,40,41,42,43,44,45,46,47,48,49,50,51,52,53,54,55,56] (fun x fr W=>(x.1:Int)=(a0.sub.length:Int) - x.2.1∧0 ≤ x.2.1∧forS (fun i s=>zcM.b0 a0 k a1 zep a2 a3 i s.1 s.2) x.1 x.2.1 x.2.2=some o5∧fr 28 = .int .i64 x.2.1∧fr 10 = .int .i64 (x.2.2.1)∧fr 11 = .int .i64 (x.2.2.2)∧St A N w W [oB b2 zo (tmC a0 s_0)] [zg s_0 a0.sub]) (fun x=>x.1) (((a0.sub.length:Int) - 0).toNat,0,(1,0)) ⟨(by dsimp only; have hle:=Int.natCast_nonneg (a0.sub.length); omega),(Int.le_refl _),(by dsimp only; exact e5),rfl,rfl,rfl,S⟩ ?_
  rintro ⟨m5,i5,⟨x5_0,x5_1⟩⟩ g5 u5 ⟨hm5,hl5,e5,q5_i,q5_10,q5_11,S⟩
  try dsimp only at hm5
  try dsimp only at hl5
  try dsimp only at e5
  try dsimp only at S
  try dsimp only at q5_i
  try dsimp only at q5_10
  try dsimp only at q5_11
  refine zd (za (wd (xz q5_i rfl) (zb (zd ?_))))
  refine zJ rfl (fun hc6=>?_) (fun hc6=>?_)
  rotate_left
  ·refine ya ?_
   have hge:(a0.sub.length:Int) ≤ i5:=Int.not_lt.1 (of_decide_eq_false hc6)
   obtain rfl:m5=0:=by omega
   replace e5:=forS_0 e5
   obtain rfl:=e5
   exact ⟨rfl,((Dif.self _ _ _).upd rfl _),q5_10,q5_11,S⟩
  refine zy ?_
  have hlt5:i5 < (a0.sub.length:Int):=of_decide_eq_true hc6
  obtain ⟨m5,rfl⟩ : ∃ m,m5=m + 1:=⟨m5 - 1,by omega⟩
  obtain ⟨q5,H,e5⟩ := forS_s e5
  unfold zcM.b0 at H
  try dsimp only at H
  have hb5:=(S.lenFZ 0)
  refine zd ?_
  refine zO (zd (za (wd (zj q5_i) (wd (does_indexF zz rfl q5_i (S.onZ 0) (And.intro (show 0 ≤ i5 by omega) (show i5 < (a0.sub.length:Int) from hlt5)).1 (And.intro (show 0 ≤ i5 by omega) (show i5 < (a0.sub.length:Int) from hlt5)).2) ?_))))
  obtain ⟨s8,hc9,S⟩ := S.viewTerm 0 (And.intro (show 0 ≤ i5 by omega) (show i5 < (a0.sub.length:Int) from hlt5))
  replace S:=S
  refine wd (ldC rfl hc9) ?_
  refine zP xy zbJ fun b11 w10 hw10=>?_
  replace S:=S.new hw10
  refine wd (zh rfl) ?_
  refine wsT rfl rfl (S.blk 0) fun w12 B hw12 zw12=>?_
  replace S:=S.store 0 B hw12
  clear B
  refine zb (zd ?_)
  refine yq 3 (Ext w12) hmix zbM zbM (Ext.drawn _) (zD (fun v K=>zm zS rfl (((S.ext K).blk 0).all _ (Term.len _)) (Term.len _)) ?_)
  obtain ⟨r13,er13,H⟩ := zq H
  refine wq_call (fun v=>zt ca_term_Size) (fun v K=>(have ⟨M,SS⟩ := (S.ext K).lend ((.z 0 rfl .nil)); quiet (term_Size_st (a0:=(kd a0 i5)) SS er13) (fun v w' h=>⟨h.1,_,_,h.2⟩))) (fun v v' K h=>K.thenExt h) (zD (fun v K=>zm zS rfl (((S.ext K).blk 0).all _ (Term.len _)) (Term.len _)) ?_)
  refine vX fun w14 K=>?_
  replace S:=S.ext K
  clear K
  obtain ⟨r15,er15,H⟩ := zq H
  obtain ⟨B17,MB17,SB17,back⟩ := S.calln 0 ((.z 0 rfl .nil))
  refine zw (zt ca_term_Deep) zbJ (term_Deep_st (a0:=(kd a0 i5)) SB17 er15) ?_
  rintro _ w16 ⟨rfl,S2⟩
  replace S:=back _ _ _ _ S2 rfl
  clear back S2 SB17
  refine wd (zh rfl) (wd (zh rfl) (zb (zd (zd (za (wd (ldT rfl (S.blk 1)) (wd (zj rfl) ?_)))))))
  obtain ⟨r18,er18,H⟩ := zq H
  obtain ⟨B20,MB20,SB20,back⟩ := S.calln 0 ((.z 1 rfl .nil))
  refine zw (zt zbg) zbJ (zbp (a0:=a0) SB20 er18) ?_
  rintro _ w19 ⟨rfl,S2⟩
  replace S:=back _ _ _ _ S2 rfl
  clear back S2 SB20
  refine wd (z1 rfl) (wd (jd rfl rfl) (zb ?_))
  refine zJ rfl (fun hc21=>?_) (fun hc21=>?_)
  ·replace H:=if_t hc21 H
   refine za (wd (ldT rfl (S.blk 0)) (wd (z1 rfl) (wd (zj rfl) (wd (zj rfl) ?_))))
   obtain ⟨r22,er22,H⟩ := zq H
   obtain ⟨B24,MB24,SB24,back⟩ := S.calln 0 ((.z 0 rfl .nil))
   refine zw (zt ca_term_grown) zbJ (zdZ (a0:=(kd a0 i5)) SB24 er22) ?_
   rintro _ w23 ⟨rfl,S2⟩
   replace S:=back _ _ _ _ S2 rfl
   clear back S2 SB24
   refine wd (zX rfl) (wd (zn rfl rfl) (wd (zn rfl rfl) (wd (zh rfl) (wd (zh rfl) (zb (za ?_))))))
   refine wd (zj q5_10) (wd (zj rfl) (wd (uG rfl rfl) (wd (zj q5_11) (wd (zj rfl) (wd (does_max rfl rfl) ?_)))))
   refine wd (zh rfl) (wd (zh rfl) (zb (za (wd (xp q5_i rfl (c:=i5 + 1) rfl zbK zbK) (wd (zj rfl) (zb ?_))))))
   replace S:=S.arr [1] [1]
   obtain rfl:=zbN H
   exact ⟨rfl,(by repeat first | exact Dif.refl _ _ | exact Dif.self _ _ _ | refine Dif.upd ?_ rfl _ | refine Dif.mask ?_ rfl _),(m5,i5 + 1,(IntKind.i64.wrap (x5_0 + r22.1),(if x5_1 < r22.2 then r22.2 else x5_1))),⟨(by dsimp only; omega),(by dsimp only; omega),e5,rfl,rfl,rfl,S⟩,by dsimp only; omega⟩
  ·replace H:=if_f hc21 H
   refine zy (za (wd (zj q5_10) (wd (zj rfl) (wd (uG rfl rfl) (wd (zj q5_11) ?_)))))
   refine wd (zj rfl) (wd (does_max rfl rfl) (wd (zh rfl) (wd (zh rfl) (zb (za ?_)))))
   refine wd (xp q5_i rfl (c:=i5 + 1) rfl zbK zbK) (wd (zj rfl) (zb ?_))
   replace S:=S.arr [1] [1]
   obtain rfl:=zbN H
   exact ⟨rfl,(by repeat first | exact Dif.refl _ _ | exact Dif.self _ _ _ | refine Dif.upd ?_ rfl _ | refine Dif.mask ?_ rfl _),(m5,i5 + 1,(IntKind.i64.wrap (x5_0 + r13),(if x5_1 < r15 then r15 else x5_1))),⟨(by dsimp only; omega),(by dsimp only; omega),e5,rfl,rfl,rfl,S⟩,by dsimp only; omega⟩
 rintro g25 u26 ⟨p5_10,p5_11,S⟩
 have H:=Ho5
 refine zd (za (wd (zj p5_10) (wd (zj p5_11) (wd (uG rfl rfl) (wd (zh rfl) (wd (zh rfl) (zb (zr ?_))))))))
 refine ⟨_,(xe (ze rfl) (ze rfl)),?_⟩
 replace S:=S.arr [] []
 obtain rfl:=zbN H
 exact ⟨rfl,S⟩
theorem term_grown_st {a0:PTerm} {s_0:SlV} {a1:ByteArray} {a2:Int} {a3:Int} (S:St A N w w [] [zg s_0 a0.sub]) {k:Nat} {r:Int × Int} (H:zcM.f k a0 a1 a2 a3=some r) :
  Calls PP jZ #[.agg (tmC a0 s_0).toArray,.string a1,.int .i64 a2,.int .i64 a3] w fun e w' => ∃ v,e = .returned v∧(v = .tuple #[.int .i64 r.1,.int .i64 r.2]∧St A N w w' [] []):=by
 have main : ∀ (k:Nat) {A:Nat→Prop} {N:Oth} {w:World} {a0:PTerm} {s_0:SlV} {a1:ByteArray} {a2:Int} {a3:Int} (S:St A N w w [] [zg s_0 a0.sub]) {r:Int × Int} (H:zcM.f k a0 a1 a2 a3=some r),Calls PP jZ #[.agg (tmC a0 s_0).toArray,.string a1,.int .i64 a2,.int .i64 a3] w fun e w' => ∃ v,e = .returned v∧(v = .tuple #[.int .i64 r.1,.int .i64 r.2]∧St A N w w' [] []):=by
  intro k
  induction k with
  | zero=>intro A N w a0 s_0 a1 a2 a3 S r H; cases H
  | succ k ih=>intro A N w a0 s_0 a1 a2 a3 S r H; exact term_grown_gst ih S H
 exact main k S H
theorem term_names_gst {zeq:PTerm→(List (ByteArray × Int))→(List (ByteArray × Int))→Option ((List (ByteArray × Int)) × (List (ByteArray × Int)))} (zea : ∀ {A:Nat→Prop} {N:Oth} {w:World} {a0:PTerm} {s_0:SlV} {a1:List (ByteArray × Int)} {m_1:Nat} {a2:List (ByteArray × Int)} {m_2:Nat} (S:St A N w w [oMS m_1 a1,oMS m_2 a2] [zg s_0 a0.sub]) {r:(List (ByteArray × Int)) × (List (ByteArray × Int))} (H:zeq a0 a1 a2=some r),Calls PP j0 #[.agg (tmC a0 s_0).toArray,.map (some m_1),.map (some m_2)] w fun e w' => ∃ v,e = .returned v∧(v = .tuple #[]∧St A N w w' [oMS m_1 r.1,oMS m_2 r.2] [])) {A:Nat→Prop} {N:Oth} {w:World} {a0:PTerm} {s_0:SlV} {a1:List (ByteArray × Int)} {m_1:Nat} {a2:List (ByteArray × Int)} {m_2:Nat} (S:St A N w w [oMS m_1 a1,oMS m_2 a2] [zg s_0 a0.sub]) {r:(List (ByteArray × Int)) × (List (ByteArray × Int))} (H:zcN.g zeq a0 a1 a2=some r) :
  Calls PP j0 #[.agg (tmC a0 s_0).toArray,.map (some m_1),.map (some m_2)] w fun e w' => ∃ v,e = .returned v∧(v = .tuple #[]∧St A N w w' [oMS m_1 r.1,oMS m_2 r.2] []):=by
 unfold zcN.g at H
 refine zx (n:=46) fn_term_names rfl rfl zbL (zd (za ?_))
 refine zE rfl zbJ fun b2 w1 hw1=>?_
 replace S:=S.new hw1
 refine zb (zd (zd (za (wd (zf xd rfl (o':=0) rfl) (wd (zl zW rfl ((S.blk 0).cell (Term.get_kind _))) (wd (zR rfl rfl) (zb ?_)))))))
 refine zJ rfl (fun hc3=>?_) (fun hc3=>?_)
 ·replace H:=if_t hc3 H
  refine zd (zd (za (wd (yM rfl) (wd (zf xH rfl (o':=1) rfl) (wd (zl xl rfl ((S.blk 0).cell (Term.get_name _))) (wd (ua (C:=Value.string) (D:=(Value.int .i64)) (key:=a0.name) (zv:=0) xT vt zv_int rfl rfl (S.map 1)) (wd (zR rfl rfl) (zb ?_))))))))
  obtain ⟨o4,e4,Ho4⟩ := zq H
  replace H:=e4; clear e4
  refine xX [17,18,19,20,21] (fun fr W=>St A N w W [oB b2 zo (tmC a0 s_0),oMS m_1 a1,oMS m_2 o4] [zg s_0 a0.sub]) ?_ ?_
  ·refine zJ rfl (fun hc5=>?_) (fun hc5=>?_)
   ·replace H:=if_t hc5 H
    refine za (wd (yM rfl) (wd (zf xH rfl (o':=1) rfl) (wd (zl xl rfl ((S.blk 0).cell (Term.get_name _))) (wd (ua (C:=Value.string) (D:=(Value.int .i64)) (key:=a0.name) (zv:=0) xT vt zv_int rfl rfl (S.map 2)) (wd (uG rfl rfl) ?_)))))
    refine kk (C:=Value.string) (D:=(Value.int .i64)) (key:=a0.name) (v:=IntKind.i64.wrap (((Gw.look a0.name a2).getD 0) + 1)) xT vt rfl rfl rfl (S.map 2) fun w6 hmw6 hcw6 hsw6=>?_
    replace S:=S.mapSet 2 ⟨hmw6,hcw6,hsw6⟩
    refine zb ?_
    replace S:=S.arr [1,2,0] [0]
    obtain rfl:=zbN H
    exact ⟨rfl,((((((Dif.refl _ _).upd rfl _).upd rfl _).upd rfl _).upd rfl _).upd rfl _),S⟩
   ·replace H:=if_f hc5 H
    refine zy ?_
    obtain rfl:=zbN H
    exact ⟨rfl,(Dif.refl _ _),S⟩
  rintro g7 u8 S
  have H:=Ho4
  refine zr ?_
  refine ⟨_,rets0,?_⟩
  replace S:=S.arr [1,2] []
  obtain rfl:=zbN H
  exact ⟨rfl,S⟩
 replace H:=if_f hc3 H
 refine zy (zd (za (wd (zf zG rfl (o':=4) rfl) (wd (zl zB rfl ((S.blk 0).cell (Term.get_sub _))) (wd (does_lenF zz rfl (S.onZ 0)) (wd (zj rfl) (zb ?_)))))))
 obtain ⟨o9,e9,Ho9⟩ := zq H
 clear H
 refine xX [6,7,8,25,26,27,28,29,30,31,32,33,34,35,36,37,38,39,40,41,42,43,44,45] (fun fr W=>St A N w W [oB b2 zo (tmC a0 s_0),oMS m_1 o9.1,oMS m_2 o9.2] [zg s_0 a0.sub]) ?_ ?_
 ·refine zO ?_
  refine xR (α:=Nat × Int × ((List (ByteArray × Int)) × (List (ByteArray × Int)))) [6,7,8,25,26,27,28,29,30,31,32,33,34,35,36,37,38,39,40,41,42,43,44,45] (fun x fr W=>(x.1:Int)=(a0.sub.length:Int) - x.2.1∧0 ≤ x.2.1∧forS (fun i s=>zcN.b0 a0 zeq i s.1 s.2) x.1 x.2.1 x.2.2=some o9∧fr 25 = .int .i64 x.2.1∧St A N w W [oB b2 zo (tmC a0 s_0),oMS m_1 (x.2.2.1),oMS m_2 (x.2.2.2)] [zg s_0 a0.sub]) (fun x=>x.1) (((a0.sub.length:Int) - 0).toNat,0,(a1,a2)) ⟨(by dsimp only; have hle:=Int.natCast_nonneg (a0.sub.length); omega),(Int.le_refl _),(by dsimp only; exact e9),rfl,S⟩ ?_
  rintro ⟨m9,i9,⟨x9_0,x9_1⟩⟩ g9 u9 ⟨hm9,hl9,e9,q9_i,S⟩
  try dsimp only at hm9
  try dsimp only at hl9
  try dsimp only at e9
  try dsimp only at S
  try dsimp only at q9_i
  refine zd (za (wd (xz q9_i rfl) (zb (zd ?_))))
  refine zJ rfl (fun hc10=>?_) (fun hc10=>?_)
  rotate_left
  ·refine ya ?_
   have hge:(a0.sub.length:Int) ≤ i9:=Int.not_lt.1 (of_decide_eq_false hc10)
   obtain rfl:m9=0:=by omega
   replace e9:=forS_0 e9
   obtain rfl:=e9
   exact ⟨rfl,((Dif.self _ _ _).upd rfl _),S⟩
  refine zy ?_
  have hlt9:i9 < (a0.sub.length:Int):=of_decide_eq_true hc10
  obtain ⟨m9,rfl⟩ : ∃ m,m9=m + 1:=⟨m9 - 1,by omega⟩
  obtain ⟨q9,H,e9⟩ := forS_s e9
  unfold zcN.b0 at H
  try dsimp only at H
  have hb9:=(S.lenFZ 0)
  refine zd ?_
  refine zO (zd (za (wd (zj q9_i) (wd (does_indexF zz rfl q9_i (S.onZ 0) (And.intro (show 0 ≤ i9 by omega) (show i9 < (a0.sub.length:Int) from hlt9)).1 (And.intro (show 0 ≤ i9 by omega) (show i9 < (a0.sub.length:Int) from hlt9)).2) ?_))))
  obtain ⟨s12,hc13,S⟩ := S.viewTerm 0 (And.intro (show 0 ≤ i9 by omega) (show i9 < (a0.sub.length:Int) from hlt9))
  replace S:=S
  refine wd (ldC rfl hc13) ?_
  refine zP xy zbJ fun b15 w14 hw14=>?_
  replace S:=S.new hw14
  refine wd (zh rfl) ?_
  refine wsT rfl rfl (S.blk 0) fun w16 B hw16 zw16=>?_
  replace S:=S.store 0 B hw16
  clear B
  refine zb (zd (za (wd (ldT rfl (S.blk 1)) (wd (zj rfl) ?_))))
  obtain ⟨r17,er17,H⟩ := zq H
  obtain ⟨B19,MB19,SB19,back⟩ := S.calln 0 ((.z 1 rfl .nil))
  refine zw (zt zbg) zbJ (zbp (a0:=a0) SB19 er17) ?_
  rintro _ w18 ⟨rfl,S2⟩
  replace S:=back _ _ _ _ S2 rfl
  clear back S2 SB19
  refine wd (uL rfl) (zb (zd (za (wd (yM rfl) (wd (z1 rfl) (wd (ua (C:=Value.string) (D:=(Value.int .i64)) (key:=r17) (zv:=0) xT vt zv_int rfl rfl (S.map 2)) ?_))))))
  refine wd (uG rfl rfl) ?_
  refine kk (C:=Value.string) (D:=(Value.int .i64)) (key:=r17) (v:=IntKind.i64.wrap (((Gw.look r17 x9_0).getD 0) + 1)) xT vt rfl rfl rfl (S.map 2) fun w20 hmw20 hcw20 hsw20=>?_
  replace S:=S.mapSet 2 ⟨hmw20,hcw20,hsw20⟩
  refine zb (zd (za (wd (ldT rfl (S.blk 1)) (wd (yM rfl) (wd (yM rfl) ?_)))))
  obtain ⟨r21,er21,H⟩ := zq H
  replace S:=(S.front 3).front 1
  obtain ⟨B23,MB23,SB23,back⟩ := S.calln 2 ((.z 0 rfl .nil))
  refine zw (zt ca_term_names) zbJ (zea (a0:=(kd a0 i9)) SB23 er21) ?_
  rintro _ w22 ⟨rfl,S2⟩
  replace S:=back _ _ _ _ S2 rfl
  clear back S2 SB23
  refine zb (za (wd (yM rfl) (wd (z1 rfl) (wd (ua (C:=Value.string) (D:=(Value.int .i64)) (key:=r17) (zv:=0) xT vt zv_int rfl rfl (S.map 0)) (wd (does_sub rfl rfl) ?_)))))
  refine kk (C:=Value.string) (D:=(Value.int .i64)) (key:=r17) (v:=IntKind.i64.wrap (((Gw.look r17 r21.1).getD 0) - 1)) xT vt rfl rfl rfl (S.map 0) fun w24 hmw24 hcw24 hsw24=>?_
  replace S:=S.mapSet 0 ⟨hmw24,hcw24,hsw24⟩
  refine zb (za (wd (xp q9_i rfl (c:=i9 + 1) rfl zbK zbK) (wd (zj rfl) (zb ?_))))
  replace S:=S.arr [3,0,1] [1]
  obtain rfl:=zbN H
  exact ⟨rfl,(by repeat first | exact Dif.refl _ _ | exact Dif.self _ _ _ | refine Dif.upd ?_ rfl _ | refine Dif.mask ?_ rfl _),(m9,i9 + 1,(Gw.ins r17 (IntKind.i64.wrap (((Gw.look r17 r21.1).getD 0) - 1)) r21.1,r21.2)),⟨(by dsimp only; omega),(by dsimp only; omega),e9,rfl,S⟩,by dsimp only; omega⟩
 rintro g25 u26 S
 have H:=Ho9
 refine ⟨_,rets0,?_⟩
 replace S:=S.arr [1,2] []
 obtain rfl:=zbN H
 exact ⟨rfl,S⟩
theorem term_names_st {a0:PTerm} {s_0:SlV} {a1:List (ByteArray × Int)} {m_1:Nat} {a2:List (ByteArray × Int)} {m_2:Nat} (S:St A N w w [oMS m_1 a1,oMS m_2 a2] [zg s_0 a0.sub]) {k:Nat} {r:(List (ByteArray × Int)) × (List (ByteArray × Int))} (H:zcN.f k a0 a1 a2=some r) :
  Calls PP j0 #[.agg (tmC a0 s_0).toArray,.map (some m_1),.map (some m_2)] w fun e w' => ∃ v,e = .returned v∧(v = .tuple #[]∧St A N w w' [oMS m_1 r.1,oMS m_2 r.2] []):=by
 have main : ∀ (k:Nat) {A:Nat→Prop} {N:Oth} {w:World} {a0:PTerm} {s_0:SlV} {a1:List (ByteArray × Int)} {m_1:Nat} {a2:List (ByteArray × Int)} {m_2:Nat} (S:St A N w w [oMS m_1 a1,oMS m_2 a2] [zg s_0 a0.sub]) {r:(List (ByteArray × Int)) × (List (ByteArray × Int))} (H:zcN.f k a0 a1 a2=some r),Calls PP j0 #[.agg (tmC a0 s_0).toArray,.map (some m_1),.map (some m_2)] w fun e w' => ∃ v,e = .returned v∧(v = .tuple #[]∧St A N w w' [oMS m_1 r.1,oMS m_2 r.2] []):=by
  intro k
  induction k with
  | zero=>intro A N w a0 s_0 a1 m_1 a2 m_2 S r H; cases H
  | succ k ih=>intro A N w a0 s_0 a1 m_1 a2 m_2 S r H; exact term_names_gst ih S H
 exact main k S H
theorem term_freely_st {a0:PTerm} {s_0:SlV} (S:St A N w w [] [zg s_0 a0.sub]) {k:Nat} {r:(List (ByteArray × Int))} (H:zcO.f k a0=some r) :
  Calls PP F_term_freely #[.agg (tmC a0 s_0).toArray] w fun e w' => ∃ v,e = .returned v∧(∃ mo0:Nat,v = .map (some mo0)∧St A N w w' [oMS mo0 r] []):=by
 unfold zcO.f at H
 refine zx (n:=10) fn_term_freely rfl rfl zbL (zd (za ?_))
 refine zE rfl zbJ fun b2 w1 hw1=>?_
 replace S:=S.new hw1
 refine wd (does_as_m rfl) (zb (zd (za ?_)))
 refine wl_makeMap (C:=Value.string) (D:=(Value.int .i64)) zbJ fun m3 w4 hmw4 hxw4 hlw4=>?_
 replace S:=S.newM hmw4 hxw4 hlw4
 refine wd (does_as_m rfl) (zb (zd (za (wd (ldT rfl (S.blk 1)) ?_))))
 refine wl_makeMap (C:=Value.string) (D:=(Value.int .i64)) zbJ fun m5 w6 hmw6 hxw6 hlw6=>?_
 replace S:=S.newM hmw6 hxw6 hlw6
 refine wd (yM rfl) ?_
 obtain ⟨r7,er7,H⟩ := zq H
 replace S:=(S.front 1).front 1
 obtain ⟨B9,MB9,SB9,back⟩ := S.calln 2 ((.z 0 rfl .nil))
 refine zw (zt ca_term_names) zbJ (term_names_st (a0:=a0) SB9 er7) ?_
 rintro _ w8 ⟨rfl,S2⟩
 replace S:=back _ _ _ _ S2 rfl
 clear back S2 SB9
 refine zb (zd (za (wd (yM rfl) (wd (does_as_m rfl) (zb (zr ?_))))))
 refine ⟨_,(zQ (ze rfl)),?_⟩
 replace S:=S.arr [1] []
 obtain rfl:=zbN H
 exact ⟨m3,rfl,S⟩
theorem term_clone_gst {zen:PTerm→Option PTerm} (zdX : ∀ {A:Nat→Prop} {N:Oth} {w:World} {a0:PTerm} {s_0:SlV} (S:St A N w w [] [zg s_0 a0.sub]) {r:PTerm} (H:zen a0=some r),Calls PP jY #[.agg (tmC a0 s_0).toArray] w fun e w' => ∃ v,e = .returned v∧(∃ so0:SlV,v = .agg (tmC r so0).toArray∧St A N w w' [] [zg so0 r.sub])) {A:Nat→Prop} {N:Oth} {w:World} {a0:PTerm} {s_0:SlV} (S:St A N w w [] [zg s_0 a0.sub]) {r:PTerm} (H:zcP.g zen a0=some r) :
  Calls PP jY #[.agg (tmC a0 s_0).toArray] w fun e w' => ∃ v,e = .returned v∧(∃ so0:SlV,v = .agg (tmC r so0).toArray∧St A N w w' [] [zg so0 r.sub]):=by
 unfold zcP.g at H
 refine zx (n:=31) fn_term_clone rfl rfl zbL (zd (za ?_))
 refine zE rfl zbJ fun b2 w1 hw1=>?_
 replace S:=S.new hw1
 refine zP xy zbJ fun b4 w3 hw3=>?_
 replace S:=S.new hw3
 refine zb (zd (zd (za (wd (zf zG rfl (o':=4) rfl) (wd (zl zB rfl ((S.blk 1).cell (Term.get_sub _))) (wd (does_isnil zz rfl rfl) (zb ?_)))))))
 refine zJ rfl (fun hc5=>?_) (fun hc5=>?_)
 ·replace H:=term_clone_nil (S.nilZ_ 0 hc5) (show zcP.g zen a0=some r from H)
  refine zd (za (wd (ldT rfl (S.blk 1)) ?_))
  refine wsT rfl rfl (S.blk 0) fun w6 B hw6 zw6=>?_
  replace S:=S.store 0 B hw6
  clear B
  refine zb (zr ?_)
  refine ⟨_,(zQ (rtT rfl (S.blk 0))),?_⟩
  replace S:=S.arr [] [0]
  obtain rfl:=zbN H
  exact ⟨s_0,rfl,S⟩
 refine zy (zd (za (wd (zf zG rfl (o':=4) rfl) (wd (zl zB rfl ((S.blk 1).cell (Term.get_sub _))) (wd (does_lenF zz rfl (S.onZ 0)) ?_)))))
 obtain ⟨hm10,H⟩ := xb H
 have hm10:=of_decide_eq_true hm10
 refine wl_makeN (C:=Term.C) (z:=Term.z) zz jo zT_Term rfl rfl rfl hm10.1 zbK hm10.2 zbJ fun b8 w7 s9 hBw7 hw7=>?_
 replace S:=(S.lit hBw7 hw7 (by rw [List.length_replicate]; omega)).repTm (Int.toNat (a0.sub.length:Int))
 refine wd (vn rfl) (zb (zd (zd (za (wd (zf zG rfl (o':=4) rfl) (wd (zl zB rfl ((S.blk 2).cell (Term.get_sub _))) (wd (does_lenF zz rfl (S.onZ 1)) ?_)))))))
 refine wd (zj rfl) (zb ?_)
 replace S:=(S.nil zo 5 Term.C).bigTm
 obtain ⟨o11,e11,Ho11⟩ := zq H
 clear H
 refine xX [4,5,17,18,19,20,21,22,23,24,25,26,27] (fun fr W => ∃ m12:List Term,St A N w W [oS zo 5 Term.C SlV.nil ([]:List Term),oS zo 5 Term.C s9 m12,oB b4 zo (Term.C tmZ),oB b2 zo (tmC a0 s_0)] [bigA xv ([]:List Term) ([]:List PTerm),bigA xv m12 o11,zg s_0 a0.sub]) ?_ ?_
 ·refine zO ?_
  refine xR (α:=Nat × Int × (List PTerm)) [4,5,17,18,19,20,21,22,23,24,25,26,27] (fun x fr W=>(x.1:Int)=(a0.sub.length:Int) - x.2.1∧0 ≤ x.2.1∧forS (fun i s=>zcP.b0 zen a0 i s) x.1 x.2.1 x.2.2=some o11 ∧ ∃ m13:List Term,fr 17 = .int .i64 x.2.1∧St A N w W [oS zo 5 Term.C SlV.nil ([]:List Term),oS zo 5 Term.C s9 m13,oB b4 zo (Term.C tmZ),oB b2 zo (tmC a0 s_0)] [bigA xv ([]:List Term) ([]:List PTerm),bigA xv m13 (x.2.2),zg s_0 a0.sub]) (fun x=>x.1) (((a0.sub.length:Int) - 0).toNat,0,List.replicate (Int.toNat (a0.sub.length:Int)) PTerm.z) ⟨(by dsimp only; have hle:=Int.natCast_nonneg (a0.sub.length); omega),(Int.le_refl _),(by dsimp only; exact e11),List.replicate (Int.toNat (a0.sub.length:Int)) Term.z,rfl,S⟩ ?_
  rintro ⟨m11,i11,x11_0⟩ g11 u11 ⟨hm11,hl11,e11,m14,q11_i,S⟩
  try dsimp only at hm11
  try dsimp only at hl11
  try dsimp only at e11
  try dsimp only at S
  try dsimp only at q11_i
  refine zd (za (wd (xz q11_i rfl) (zb (zd ?_))))
  refine zJ rfl (fun hc15=>?_) (fun hc15=>?_)
  rotate_left
  ·refine ya ?_
   have hge:(a0.sub.length:Int) ≤ i11:=Int.not_lt.1 (of_decide_eq_false hc15)
   obtain rfl:m11=0:=by omega
   replace e11:=forS_0 e11
   obtain rfl:=e11
   exact ⟨rfl,((Dif.self _ _ _).upd rfl _),m14,S⟩
  refine zy ?_
  have hlt11:i11 < (a0.sub.length:Int):=of_decide_eq_true hc15
  obtain ⟨m11,rfl⟩ : ∃ m,m11=m + 1:=⟨m11 - 1,by omega⟩
  obtain ⟨q11,H,e11⟩ := forS_s e11
  unfold zcP.b0 at H
  try dsimp only at H
  have hb11:=(S.lenFZ 2)
  refine zd ?_
  refine zO (zd (za (wd (zj q11_i) (wd (does_indexF zz rfl q11_i (S.onZ 2) (And.intro (show 0 ≤ i11 by omega) (show i11 < (a0.sub.length:Int) from hlt11)).1 (And.intro (show 0 ≤ i11 by omega) (show i11 < (a0.sub.length:Int) from hlt11)).2) ?_))))
  obtain ⟨s17,hc18,S⟩ := S.viewTerm 2 (And.intro (show 0 ≤ i11 by omega) (show i11 < (a0.sub.length:Int) from hlt11))
  replace S:=S
  refine wd (ldC rfl hc18) ?_
  refine zP xy zbJ fun b20 w19 hw19=>?_
  replace S:=S.new hw19
  refine wd (zh rfl) ?_
  refine wsT rfl rfl (S.blk 0) fun w21 B hw21 zw21=>?_
  replace S:=S.store 0 B hw21
  clear B
  refine zb (za (wd (zT rfl) (wd (zj rfl) (wd (ldT rfl (S.blk 0)) ?_))))
  obtain ⟨r22,er22,H⟩ := zq H
  obtain ⟨B24,MB24,SB24,back⟩ := S.sub [0] [] [oB b20 zo (tmC (kd a0 i11) s17),oS zo 5 Term.C SlV.nil ([]:List Term),oS zo 5 Term.C s9 m14,oB b4 zo (Term.C tmZ),oB b2 zo (tmC a0 s_0)]
  refine zw (zt zbh) zbJ (zdX (a0:=(kd a0 i11)) SB24 er22) ?_
  rintro _ w23 ⟨s25,rfl,S2⟩
  replace S:=back _ _ _ _ _ S2 rfl rfl
  clear back S2 SB24
  obtain ⟨hi26,H⟩ := xb H
  refine wd (xj zz rfl rfl (S.rdO 2) (zL hi26).1 (by rw [(S.lenTm 3)]; exact (zL hi26).2)) ?_
  have hlw27:=S.lenO 2
  have hqw27:=(S.lenTm 3)
  refine zaC (C:=Term.C) (a:=(tmT r22 s25)) zS rfl rfl (S.sl 2) ⟨(zL hi26).1,by rw [hqw27]; exact (zL hi26).2⟩ (Term.len _) (Term.one _) fun w27 O hw27=>?_
  replace S:=S.push 2 O (by rw [List.length_set]; exact hlw27) hw27 (fun i hi => .inl hi)
  clear O hlw27 hqw27
  replace S:=S.setTm (x:=r22) 3 0 (Int.toNat i11)
  refine zb (za (wd (xp q11_i rfl (c:=i11 + 1) rfl zbK zbK) (wd (zj rfl) (zb ?_))))
  replace S:=S.arr [2,0,3,4] [3,0,5]
  obtain rfl:=zbN H
  exact ⟨rfl,(by repeat first | exact Dif.refl _ _ | exact Dif.self _ _ _ | refine Dif.upd ?_ rfl _ | refine Dif.mask ?_ rfl _),(m11,i11 + 1,x11_0.set (Int.toNat i11) r22),⟨(by dsimp only; omega),(by dsimp only; omega),e11,m14.set (Int.toNat i11) (tmT r22 s25),rfl,S⟩,by dsimp only; omega⟩
 rintro g28 u29 ⟨m12,S⟩
 have H:=Ho11
 refine zd (za (wd (zT rfl) (wd (zf zG rfl (o':=4) rfl) ?_)))
 refine yL zB rfl rfl (S.blk 3) (by rw [Term.len]; decide) (SlV.one _ _ rfl) (Term.set_sub _ _) fun w30 B hw30 zw30=>?_
 replace S:=S.store 3 B hw30
 clear B
 refine zb (zd (za ?_))
 replace S:=S.frzTm 2 1
 refine wd (ldT rfl (S.blk 0)) ?_
 refine wsT rfl rfl (S.blk 2) fun w31 B hw31 zw31=>?_
 replace S:=S.store 2 B hw31
 clear B
 refine zb (zr ?_)
 refine ⟨_,(zQ (rtT rfl (S.blk 0))),?_⟩
 replace S:=S.arr [] [0]
 obtain rfl:=zbN H
 exact ⟨s9,rfl,S⟩
theorem term_clone_st {a0:PTerm} {s_0:SlV} (S:St A N w w [] [zg s_0 a0.sub]) {k:Nat} {r:PTerm} (H:zcP.f k a0=some r) :
  Calls PP jY #[.agg (tmC a0 s_0).toArray] w fun e w' => ∃ v,e = .returned v∧(∃ so0:SlV,v = .agg (tmC r so0).toArray∧St A N w w' [] [zg so0 r.sub]):=by
 have main : ∀ (k:Nat) {A:Nat→Prop} {N:Oth} {w:World} {a0:PTerm} {s_0:SlV} (S:St A N w w [] [zg s_0 a0.sub]) {r:PTerm} (H:zcP.f k a0=some r),Calls PP jY #[.agg (tmC a0 s_0).toArray] w fun e w' => ∃ v,e = .returned v∧(∃ so0:SlV,v = .agg (tmC r so0).toArray∧St A N w w' [] [zg so0 r.sub]):=by
  intro k
  induction k with
  | zero=>intro A N w a0 s_0 S r H; cases H
  | succ k ih=>intro A N w a0 s_0 S r H; exact term_clone_gst ih S H
 exact main k S H
theorem term_fresh_st {a0:List (ByteArray × Int)} {m_0:Nat} {a1:List (ByteArray × Int)} {m_1:Nat} {a2:ByteArray} (S:St A N w w [] [oMS m_0 a0,oMS m_1 a1,oPw]) {k:Nat} {r:ByteArray} (H:zcQ.f k a0 a1 a2=some r) :
  Calls PP F_term_fresh #[.map (some m_0),.map (some m_1),.string a2] w fun e w' => ∃ v,e = .returned v∧(v = .string r∧St A N w w' [] []):=by
 unfold zcQ.f at H
 refine zx (n:=30) fn_term_fresh rfl rfl zbL (zd (za (wd (uL rfl) (zb (zd (za (wd (zh rfl) (zb ?_))))))))
 obtain ⟨o1,e1,Ho1⟩ := zq H
 clear H
 refine xX [6,7,8,9,10,11,12,13,14,15,16,17,18,19,20,21,22,23,24,25,26,27,28,29] (fun fr W => ∃ s1:Int,o1 = .inl s1∧fr 7 = .int .i64 s1∧St A N w W [] [oMS m_0 a0,oMS m_1 a1,oPw]) ?_ ?_
 ·refine zO ?_
  refine xR (α:=Nat × Int) [6,7,8,9,10,11,12,13,14,15,16,17,18,19,20,21,22,23,24,25,26,27,28,29] (fun x fr W=>iter (fun s=>zcQ.b0 a0 a1 a2 s) x.1 x.2=some o1∧fr 7 = .int .i64 (x.2)∧St A N w W [] [oMS m_0 a0,oMS m_1 a1,oPw]) (fun x=>x.1) (k,0) ⟨(by dsimp only; exact e1),rfl,S⟩ ?_
  rintro ⟨m1,x1_0⟩ g1 u1 ⟨e1,q1_7,S⟩
  try dsimp only at e1
  try dsimp only at S
  try dsimp only at q1_7
  obtain ⟨m1,rfl⟩ : ∃ m,m1=m + 1:=⟨m1 - 1,by cases m1 with | zero=>cases e1 | succ m=>rfl⟩
  obtain ⟨q1,H,e1⟩ := iter_s e1
  unfold zcQ.b0 at H
  try dsimp only at H
  refine zd ?_
  refine zO (zd (za (wd (zj q1_7) ?_)))
  obtain ⟨r2,er2,H⟩ := zq H
  obtain ⟨B4,MB4,SB4,back⟩ := S.calln 0 ((.z 2 rfl .nil))
  refine zw (zt ca_strconv_Itoa) zbJ (strconv_Itoa_st SB4 er2) ?_
  rintro _ w3 ⟨rfl,S2⟩
  replace S:=back _ _ _ _ S2 rfl
  clear back S2 SB4
  obtain ⟨hs5,H⟩ := xb H
  refine wd (does_concat rfl rfl (of_decide_eq_true hs5)) (wd (uL rfl) (zb (zd (za (wd (yM rfl) (wd (z1 rfl) ?_))))))
  refine wd (ua (C:=Value.string) (D:=(Value.int .i64)) (key:=(bA #[118]) ++ r2) (zv:=0) xT vt zv_int rfl rfl (S.mapZ 0)) (wd (zR rfl rfl) (wd (zA rfl) ?_))
  refine wg (fun hg=>yM rfl) ?_
  refine wg (fun hg=>z1 rfl) ?_
  refine wg (fun hg=>ua (C:=Value.string) (D:=(Value.int .i64)) (key:=(bA #[118]) ++ r2) (zv:=0) xT vt zv_int (zp hg) (zp hg) (S.mapZ 1)) ?_
  refine wg (fun hg=>zR (zp hg) rfl) (wd (z7 rfl (fun hp=>(zp (xt hp)))) (wd (zA rfl) ?_))
  refine wg (fun hg=>z1 rfl) ?_
  refine wg (fun hg=>z1 rfl) ?_
  refine wg (fun hg=>jd (zp hg) (zp hg)) (wd (z7 rfl (fun hp=>(zp (xt hp)))) (zb ?_))
  refine zJ rfl (fun hc6=>?_) (fun hc6=>?_)
  ·replace H:=if_t hc6 H
   refine zd (za (wd (z1 rfl) (wd (uL rfl) (zb (zr ?_)))))
   refine ⟨_,(zQ (ze rfl)),?_⟩
   replace S:=S.arr [] []
   obtain rfl:=zbN H
   obtain rfl:=e1
   obtain rfl:=jB Ho1
   exact ⟨rfl,S⟩
  replace H:=if_f hc6 H
  refine zy (za (wd (zj q1_7) (wd (uG rfl rfl) (wd (zh rfl) (zb ?_)))))
  obtain rfl:=zbN H
  exact ⟨rfl,(by repeat first | exact Dif.refl _ _ | exact Dif.self _ _ _ | refine Dif.upd ?_ rfl _ | refine Dif.mask ?_ rfl _),(m1,IntKind.i64.wrap (x1_0 + 1)),⟨e1,rfl,S⟩,by dsimp only; omega⟩
 rintro g7 u8 ⟨s1,rfl,p1_7,S⟩
 have H:=Ho1
 dsimp only [aft] at H
 cases H
theorem term_put_gst {zer:PTerm→ByteArray→PTerm→(List (ByteArray × Int))→Option PTerm} (zeb : ∀ {A:Nat→Prop} {N:Oth} {w:World} {a0:PTerm} {s_0:SlV} {a1:ByteArray} {a2:PTerm} {s_2:SlV} {a3:List (ByteArray × Int)} {m_3:Nat} (S:St A N w w [] [zg s_0 a0.sub,zg s_2 a2.sub,oMS m_3 a3,oPw]) {r:PTerm} (H:zer a0 a1 a2 a3=some r),Calls PP zaF #[.agg (tmC a0 s_0).toArray,.string a1,.agg (tmC a2 s_2).toArray,.map (some m_3)] w fun e w' => ∃ v,e = .returned v∧(∃ so0:SlV,v = .agg (tmC r so0).toArray∧St A N w w' [] [zg so0 r.sub])) {A:Nat→Prop} {N:Oth} {w:World} {a0:PTerm} {s_0:SlV} {a1:ByteArray} {a2:PTerm} {s_2:SlV} {a3:List (ByteArray × Int)} {m_3:Nat} (S:St A N w w [] [zg s_0 a0.sub,zg s_2 a2.sub,oMS m_3 a3,oPw]) {k:Nat} {r:PTerm} (H:zcR.g zer k a0 a1 a2 a3=some r) :
  Calls PP zaF #[.agg (tmC a0 s_0).toArray,.string a1,.agg (tmC a2 s_2).toArray,.map (some m_3)] w fun e w' => ∃ v,e = .returned v∧(∃ so0:SlV,v = .agg (tmC r so0).toArray∧St A N w w' [] [zg so0 r.sub]):=by
 unfold zcR.g at H
 refine zx (n:=96) fn_term_put rfl rfl zbL (zd (za ?_))
 refine zE rfl zbJ fun b2 w1 hw1=>?_
 replace S:=S.new hw1
 refine zE rfl zbJ fun b4 w3 hw3=>?_
 replace S:=S.new hw3
 refine zP xy zbJ fun b6 w5 hw5=>?_
 replace S:=S.new hw5
 refine zb (zd (zd (za (wd (zf xd rfl (o':=0) rfl) (wd (zl zW rfl ((S.blk 2).cell (Term.get_kind _))) (wd (zR rfl rfl) (zb ?_)))))))
 refine zJ rfl (fun hc7=>?_) (fun hc7=>?_)
 ·replace H:=if_t hc7 H
  refine zd (zd (za (wd (zf xH rfl (o':=1) rfl) (wd (zl xl rfl ((S.blk 2).cell (Term.get_name _))) (wd (z1 rfl) (wd (yU rfl rfl) (zb ?_)))))))
  refine zJ rfl (fun hc8=>?_) (fun hc8=>?_)
  ·replace H:=if_t hc8 H
   refine zd (za (wd (ldT rfl (S.blk 1)) ?_))
   obtain ⟨r9,er9,H⟩ := zq H
   obtain ⟨B11,MB11,SB11,back⟩ := S.sub [1] [] [oB b6 zo (Term.C tmZ),oB b4 zo (tmC a2 s_2),oB b2 zo (tmC a0 s_0)]
   refine zw (zt zbh) zbJ (term_clone_st (a0:=a2) SB11 er9) ?_
   rintro _ w10 ⟨s12,rfl,S2⟩
   replace S:=back _ _ _ _ _ S2 rfl rfl
   clear back S2 SB11
   refine wsT rfl rfl (S.blk 0) fun w13 B hw13 zw13=>?_
   replace S:=S.store 0 B hw13
   clear B
   refine zb (zr ?_)
   refine ⟨_,(zQ (rtT rfl (S.blk 0))),?_⟩
   replace S:=S.arr [] [0]
   obtain rfl:=zbN H
   exact ⟨s12,rfl,S⟩
  replace H:=if_f hc8 H
  refine zy (zd (za (wd (ldT rfl (S.blk 2)) ?_)))
  refine wsT rfl rfl (S.blk 0) fun w14 B hw14 zw14=>?_
  replace S:=S.store 0 B hw14
  clear B
  refine zb (zr ?_)
  refine ⟨_,(zQ (rtT rfl (S.blk 0))),?_⟩
  replace S:=S.arr [] [0]
  obtain rfl:=zbN H
  exact ⟨s_0,rfl,S⟩
 replace H:=if_f hc7 H
 refine zy (zd (za (wd (ldT rfl (S.blk 2)) ?_)))
 refine zP xy zbJ fun b16 w15 hw15=>?_
 replace S:=S.new hw15
 refine wsT rfl rfl (S.blk 0) fun w17 B hw17 zw17=>?_
 replace S:=S.store 0 B hw17
 clear B
 refine zb (zd (za (wd (zf zG rfl (o':=4) rfl) (wd (zl zB rfl ((S.blk 3).cell (Term.get_sub _))) (wd (does_lenF zz rfl (S.onZ 0)) ?_)))))
 obtain ⟨hm21,H⟩ := xb H
 have hm21:=of_decide_eq_true hm21
 refine wl_makeN (C:=Term.C) (z:=Term.z) zz jo zT_Term rfl rfl rfl hm21.1 zbK hm21.2 zbJ fun b19 w18 s20 hBw18 hw18=>?_
 replace S:=(S.lit hBw18 hw18 (by rw [List.length_replicate]; omega)).repTm (Int.toNat (a0.sub.length:Int))
 refine wd (zf zG rfl (o':=4) rfl) ?_
 refine yL zB rfl rfl (S.blk 1) (by rw [Term.len]; decide) (SlV.one _ _ rfl) (Term.set_sub _ _) fun w22 B hw22 zw22=>?_
 replace S:=S.store 1 B hw22
 clear B
 refine zb (zd (zd (za (wd (zf zG rfl (o':=4) rfl) (wd (zl zB rfl ((S.blk 4).cell (Term.get_sub _))) (wd (does_lenF zz rfl (S.onZ 1)) (wd (zj rfl) (zb ?_))))))))
 replace S:=(S.nil zo 5 Term.C).bigTm
 obtain ⟨o23,e23,Ho23⟩ := zq H
 clear H
 let LT1:List OA:=[zg s_0 a0.sub,zg s_2 a2.sub,oMS m_3 a3,oPw]
 refine xX [10,11,12,13,14,34,35,36,37,38,39,40,41,42,43,44,45,46,47,48,49,50,51,52,53,54,55,56,57,58,59,60,61,62,63,64,65,66,67,68,69,70,71,72,73,74,75,76,77,78,79,80,81,82,83,84,85,86,87,88,89,90,91,92,93,94] (fun fr W => ∃ s24:SlV,∃ m25:List Term,St A N w W [oS zo 5 Term.C SlV.nil ([]:List Term),oB b16 zo (tmC o23 s24),oS zo 5 Term.C s24 m25,oB b6 zo (Term.C tmZ),oB b4 zo (tmC a2 s_2),oB b2 zo (tmC a0 s_0)] (bigA xv ([]:List Term) ([]:List PTerm) :: bigA xv m25 o23.sub :: LT1)) ?_ ?_
 ·refine zO ?_
  refine xR (α:=Nat × Int × PTerm) [10,11,12,13,14,34,35,36,37,38,39,40,41,42,43,44,45,46,47,48,49,50,51,52,53,54,55,56,57,58,59,60,61,62,63,64,65,66,67,68,69,70,71,72,73,74,75,76,77,78,79,80,81,82,83,84,85,86,87,88,89,90,91,92,93,94] (fun x fr W=>(x.1:Int)=(a0.sub.length:Int) - x.2.1∧0 ≤ x.2.1∧forS (fun i s=>zcR.b0 a0 k a1 a3 zer a2 i s) x.1 x.2.1 x.2.2=some o23 ∧ ∃ s26:SlV,∃ m27:List Term,fr 34 = .int .i64 x.2.1∧St A N w W [oS zo 5 Term.C SlV.nil ([]:List Term),oB b16 zo (tmC (x.2.2) s26),oS zo 5 Term.C s26 m27,oB b6 zo (Term.C tmZ),oB b4 zo (tmC a2 s_2),oB b2 zo (tmC a0 s_0)] (bigA xv ([]:List Term) ([]:List PTerm) :: bigA xv m27 (x.2.2).sub :: LT1)) (fun x=>x.1) (((a0.sub.length:Int) - 0).toNat,0,(⟨a0.kind,a0.name,a0.other,a0.form,List.replicate (Int.toNat (a0.sub.length:Int)) PTerm.z⟩ : PTerm)) ⟨(by dsimp only; have hle:=Int.natCast_nonneg (a0.sub.length); omega),(Int.le_refl _),(by dsimp only; exact e23),s20,List.replicate (Int.toNat (a0.sub.length:Int)) Term.z,rfl,S⟩ ?_
  rintro ⟨m23,i23,x23_0⟩ g23 u23 ⟨hm23,hl23,e23,s28,m29,q23_i,S⟩
  try dsimp only at hm23
  try dsimp only at hl23
  try dsimp only at e23
  try dsimp only at S
  try dsimp only at q23_i
  refine zd (za (wd (xz q23_i rfl) (zb (zd ?_))))
  refine zJ rfl (fun hc30=>?_) (fun hc30=>?_)
  rotate_left
  ·refine ya ?_
   have hge:(a0.sub.length:Int) ≤ i23:=Int.not_lt.1 (of_decide_eq_false hc30)
   obtain rfl:m23=0:=by omega
   replace e23:=forS_0 e23
   obtain rfl:=e23
   exact ⟨rfl,((Dif.self _ _ _).upd rfl _),s28,m29,S⟩
  refine zy ?_
  have hlt23:i23 < (a0.sub.length:Int):=of_decide_eq_true hc30
  obtain ⟨m23,rfl⟩ : ∃ m,m23=m + 1:=⟨m23 - 1,by omega⟩
  obtain ⟨q23,H,e23⟩ := forS_s e23
  unfold zcR.b0 at H
  try dsimp only at H
  have hb23:=(S.lenFZ 2)
  refine zd ?_
  refine zO (zd (za (wd (zj q23_i) (wd (does_indexF zz rfl q23_i (S.onZ 2) (And.intro (show 0 ≤ i23 by omega) (show i23 < (a0.sub.length:Int) from hlt23)).1 (And.intro (show 0 ≤ i23 by omega) (show i23 < (a0.sub.length:Int) from hlt23)).2) ?_))))
  obtain ⟨s32,hc33,S⟩ := S.viewTerm 2 (And.intro (show 0 ≤ i23 by omega) (show i23 < (a0.sub.length:Int) from hlt23))
  replace S:=S
  refine wd (ldC rfl hc33) ?_
  refine zP xy zbJ fun b35 w34 hw34=>?_
  replace S:=S.new hw34
  refine wd (zh rfl) ?_
  refine wsT rfl rfl (S.blk 0) fun w36 B hw36 zw36=>?_
  replace S:=S.store 0 B hw36
  clear B
  refine zb (zd (za (wd (ldT rfl (S.blk 6)) (wd (zj rfl) ?_))))
  obtain ⟨r37,er37,H⟩ := zq H
  obtain ⟨B39,MB39,SB39,back⟩ := S.calln 0 ((.z 3 rfl .nil))
  refine zw (zt zbg) zbJ (zbp (a0:=a0) SB39 er37) ?_
  rintro _ w38 ⟨rfl,S2⟩
  replace S:=back _ _ _ _ S2 rfl
  clear back S2 SB39
  refine wd (uL rfl) (zb (zd (za (wd (ldT rfl (S.blk 0)) ?_))))
  obtain ⟨r40,er40,H⟩ := zq H
  obtain ⟨B42,MB42,SB42,back⟩ := S.calln 0 ((.z 0 rfl .nil))
  refine zw (zt ca_term_freely) zbJ (term_freely_st (a0:=(kd a0 i23)) SB42 er40) ?_
  rintro _ w41 ⟨m43,rfl,S2⟩
  replace S:=back _ _ _ _ S2 rfl
  clear back S2 SB42
  refine wd (does_as_m rfl) (zb (zd (zd (za (wd (z1 rfl) (wd (z1 rfl) (wd (yU rfl rfl) ?_)))))))
  refine wd (zA rfl) ?_
  refine wg (fun hg=>yM rfl) ?_
  refine wg (fun hg=>z1 rfl) ?_
  refine wg (fun hg=>ua (C:=Value.string) (D:=(Value.int .i64)) (key:=a1) (zv:=0) xT vt zv_int (zp hg) (zp hg) (S.map 0)) ?_
  refine wg (fun hg=>zR (zp hg) rfl) (wd (xD rfl (fun hp=>(zp (xt hp)))) (zb ?_))
  refine zJ rfl (fun hc44=>?_) (fun hc44=>?_)
  ·replace H:=if_t hc44 H
   refine zd ?_
   obtain ⟨r46,er46,H⟩ := zq H
   refine vz 5 ⟨fun _ _=>True,fun _ _ _=>True,fun i v _=>match i with
    | 0=>v=Value.pointer (some ⟨b16,4,none⟩)
    | 1=>v=s28.v
    | 2=>v=Value.int .i64 i23
    | 3=>v=Value.agg (tmC (kd a0 i23) s32).toArray
    | _=>True⟩ (fun L g v => ∃ Z50:List OA,(∀ z ∈ (zg s32 ((kd a0 i23).sub) :: bigA xv ([]:List Term) ([]:List PTerm) :: bigA xv m29 x23_0.sub :: LT1),z ∈ Z50)∧Made L g Z50 4 57 (fun (c:SlV)=>Value.agg (tmC r46 c).toArray) (fun (c:SlV)=>[zg c r46.sub])∧St A N w v [oMS m43 r40,oB b35 zo (tmC (kd a0 i23) s32),oS zo 5 Term.C SlV.nil ([]:List Term),oB b16 zo (tmC x23_0 s28),oS zo 5 Term.C s28 m29,oB b6 zo (Term.C tmZ),oB b4 zo (tmC a2 s_2),oB b2 zo (tmC a0 s_0)] Z50) hmix zbM (fun _ _ _ _ _ _ _ hv=>hv) (fun g=>⟨_,fun _ h=>h,Made.no,S.ext (Ext.drawn _)⟩) ⟨?_,?_,?_,?_,?_,trivial⟩ ?_
   ·rintro L g v hL hcl hclo ⟨Z50,hZ,hm4,S⟩ 
    refine wd (zf zG rfl (o':=4) rfl) ?_
    exact zb (ob4 trivial rfl ⟨_,hZ,hm4.keep rfl rfl tl0,S⟩)
   ·rintro L g v hL hcl hclo ⟨Z50,hZ,hm4,S⟩ hv0
    refine wd (zl zB hv0 ((S.blk 3).cell (Term.get_sub _))) ?_
    exact zb (ob4 trivial rfl ⟨_,hZ,hm4.keep rfl rfl tl0,S⟩)
   ·rintro L g v hL hcl hclo ⟨Z50,hZ,hm4,S⟩ 
    refine wd (zj rfl) ?_
    exact zb (ob4 trivial rfl ⟨_,hZ,hm4.keep rfl rfl tl0,S⟩)
   ·rintro L g v hL hcl hclo ⟨Z50,hZ,hm4,S⟩ 
    refine wd (ldT rfl (S.blk 1)) ?_
    exact zb (ob4 trivial rfl ⟨_,hZ,hm4.keep rfl rfl tl0,S⟩)
   ·rintro L g v hL hcl hclo ⟨Z50,hZ,hm4,S⟩ hv3
    replace S:=(S.zneed hZ)
    obtain ⟨B54,MB54,SB54,back⟩ := S.sub [0] [] [oMS m43 r40,oB b35 zo (tmC (kd a0 i23) s32),oS zo 5 Term.C SlV.nil ([]:List Term),oB b16 zo (tmC x23_0 s28),oS zo 5 Term.C s28 m29,oB b6 zo (Term.C tmZ),oB b4 zo (tmC a2 s_2),oB b2 zo (tmC a0 s_0)]
    refine zw (zF zbh (zK hv3 rfl)) zbJ (term_clone_st (a0:=(kd a0 i23)) SB54 er46) ?_
    rintro _ w53 ⟨s55,rfl,S2⟩
    replace S:=back _ _ _ _ _ S2 rfl rfl
    clear back S2 SB54
    exact zb (ob4 trivial trivial ⟨_,(fun z h=>tl8 z (hZ z h)),Made.one (val:=(fun (c:SlV)=>Value.agg (tmC r46 c).toArray)) (ps:=(fun (c:SlV)=>[zg c r46.sub])) s55 (yp List.mem_cons_self y7),S⟩)
   rintro L g w56 hLm ⟨Z50,hZ,hm4,S⟩ hv57_0 hv57_1 hv57_2 hv57_3 _
   have hLt : ∀ j,j < 5→L j=true:=fun j hj=>by rw [hLm]; exact decide_eq_true hj
   obtain ⟨s49,hv57_4,hp4⟩ := hm4 (hLt 4 zbJ)
   replace S:=S.pickZ (xP (l1:=[zg s49 r46.sub]) hp4 hZ)
   clear hp4 hZ hm4
   obtain ⟨hi58,H⟩ := xb H
   refine wd (xj zz hv57_1 hv57_2 (S.rdO 4) (zL hi58).1 (by rw [(S.lenTm 3)]; exact (zL hi58).2)) ?_
   have hlw59:=S.lenO 4
   have hqw59:=(S.lenTm 3)
   refine zaC (C:=Term.C) (a:=(tmT r46 s49)) zS rfl hv57_4 (S.sl 4) ⟨(zL hi58).1,by rw [hqw59]; exact (zL hi58).2⟩ (Term.len _) (Term.one _) fun w59 O hw59=>?_
   replace S:=S.push 4 O (by rw [List.length_set]; exact hlw59) hw59 (fun i hi => .inl hi)
   clear O hlw59 hqw59
   replace S:=S.setTm (x:=r46) 3 0 (Int.toNat i23)
   refine zb ?_
   refine ya (za (wd (xp q23_i rfl (c:=i23 + 1) rfl zbK zbK) (wd (zj rfl) (zb ?_))))
   replace S:=S.arr [3,4,0,5,6,7] [3,0,5,6,7,8]
   obtain rfl:=zbN H
   exact ⟨rfl,(by repeat first | exact Dif.refl _ _ | exact Dif.self _ _ _ | refine Dif.upd ?_ rfl _ | refine Dif.mask ?_ rfl _),(m23,i23 + 1,(⟨x23_0.kind,x23_0.name,x23_0.other,x23_0.form,x23_0.sub.set (Int.toNat i23) r46⟩ : PTerm)),⟨(by dsimp only; omega),(by dsimp only; omega),e23,s28,m29.set (Int.toNat i23) (tmT r46 s49),rfl,S⟩,by dsimp only; omega⟩
  replace H:=if_f hc44 H
  refine zy (zd (zd (za (wd (z1 rfl) (wd (jd rfl rfl) (wd (zA rfl) ?_))))))
  refine wg (fun hg=>yM rfl) ?_
  refine wg (fun hg=>z1 rfl) ?_
  refine wg (fun hg=>ua (C:=Value.string) (D:=(Value.int .i64)) (key:=r37) (zv:=0) xT vt zv_int (zp hg) (zp hg) (S.mapZ 5)) ?_
  refine wg (fun hg=>zax (zp hg) rfl) (wd (z7 rfl (fun hp=>(zp (xt hp)))) (zb ?_))
  obtain ⟨o60,e60,Ho60⟩ := zq H
  replace H:=e60; clear e60
  refine xX [14,67,68,69,70,71,72,73,74,75,76,77,78,79,80,81,82,83,84] (fun fr W => ∃ s61:SlV,∃ s62:SlV,∃ m63:List Term,St A N w W [oMS m43 r40,oB b35 zo (tmC o60.1 s61),oS zo 5 Term.C SlV.nil ([]:List Term),oB b16 zo (tmC o60.2 s62),oS zo 5 Term.C s62 m63,oB b6 zo (Term.C tmZ),oB b4 zo (tmC a2 s_2),oB b2 zo (tmC a0 s_0)] (zg s61 o60.1.sub :: bigA xv ([]:List Term) ([]:List PTerm) :: bigA xv m63 o60.2.sub :: LT1)) ?_ ?_
  ·refine zJ rfl (fun hc64=>?_) (fun hc64=>?_)
   ·replace H:=if_t hc64 H
    refine zd (za (wd (yM rfl) (wd (yM rfl) (wd (z1 rfl) ?_))))
    obtain ⟨r65,er65,H⟩ := zq H
    obtain ⟨B67,MB67,SB67,back⟩ := S.calln 0 ((.o 0 rfl (.z 5 rfl (.z 6 rfl .nil))))
    refine zw (zt ca_term_fresh) zbJ (term_fresh_st SB67 er65) ?_
    rintro _ w66 ⟨rfl,S2⟩
    replace S:=back _ _ _ _ S2 rfl
    clear back S2 SB67
    refine wd (uL rfl) (zb (zd (za (wd (ldT rfl (S.blk 1)) (wd (z1 rfl) (wd (z1 rfl) ?_))))))
    refine wd (Does.to (v' := .agg (Term.C (tmM 1 r65 SlV.nil)).toArray) (xa (vs:=[(0,.int .i64 1),(1,.string r65)]) yP (xS rfl (xS rfl rfl)) (Bld.one rfl rfl (by rw [Term.len]; decide) (Term.set_kind _ _) (Bld.one rfl rfl (by rw [Term.len]; decide) (Term.set_name _ _) Bld.nil))) rfl) ?_
    refine wl_makeMap (C:=Value.string) (D:=(Value.int .i64)) zbJ fun m68 w69 hmw69 hxw69 hlw69=>?_
    replace S:=S.newM hmw69 hxw69 hlw69
    refine wd (z1 rfl) ?_
    refine wl_mapInsert (C:=Value.string) (D:=(Value.int .i64)) (key:=r65) (v:=1) xT vt rfl rfl rfl (S.map 0) fun w70 hmw70 hcw70 hsw70=>?_
    replace S:=S.mapSet 0 ⟨hmw70,hcw70,hsw70⟩
    refine wd (yM rfl) ?_
    replace S:=S.nilTm
    obtain ⟨r71,er71,H⟩ := zq H
    replace S:=S.frzO 0
    obtain ⟨B73,MB73,SB73,back⟩ := S.sub [2,1,0,8] [] [oMS m43 r40,oB b35 zo (tmC (kd a0 i23) s32),oS zo 5 Term.C SlV.nil ([]:List Term),oB b16 zo (tmC x23_0 s28),oS zo 5 Term.C s28 m29,oB b6 zo (Term.C tmZ),oB b4 zo (tmC a2 s_2),oB b2 zo (tmC a0 s_0)]
    refine zw (zt ca_term_put) zbJ (zeb (a0:=(kd a0 i23)) (a2:=(ptM 1 r65 [])) SB73 er71) ?_
    rintro _ w72 ⟨s74,rfl,S2⟩
    replace S:=back _ _ _ _ _ S2 rfl rfl
    clear back S2 SB73
    refine wsT rfl rfl (S.blk 1) fun w75 B hw75 zw75=>?_
    replace S:=S.store 1 B hw75
    clear B
    refine zb (zd (za (wd (zj rfl) (wd (zR rfl rfl) (zb ?_)))))
    refine zJ rfl (fun hc76=>?_) (fun hc76=>?_)
    ·replace H:=if_t hc76 H
     refine za (wd (z1 rfl) (wd (zf vH rfl (o':=2) rfl) ?_))
     refine yL xl rfl rfl (S.blk 3) (by rw [Term.len]; decide) rfl (Term.set_other _ _) fun w77 B hw77 zw77=>?_
     replace S:=S.store 3 B hw77
     clear B
     refine zb ?_
     replace S:=S.arr [2,1,3,0,4,5,6,7] [0,4,5,6,7,8,9]
     obtain rfl:=zbN H
     exact ⟨rfl,(by repeat first | exact Dif.refl _ _ | exact Dif.self _ _ _ | refine Dif.upd ?_ rfl _ | refine Dif.mask ?_ rfl _),s74,s28,m29,S⟩
    ·replace H:=if_f hc76 H
     refine za (wd (z1 rfl) (wd (zf xH rfl (o':=1) rfl) ?_))
     refine yL xl rfl rfl (S.blk 3) (by rw [Term.len]; decide) rfl (Term.set_name _ _) fun w78 B hw78 zw78=>?_
     replace S:=S.store 3 B hw78
     clear B
     refine zb ?_
     replace S:=S.arr [2,1,3,0,4,5,6,7] [0,4,5,6,7,8,9]
     obtain rfl:=zbN H
     exact ⟨rfl,(by repeat first | exact Dif.refl _ _ | exact Dif.self _ _ _ | refine Dif.upd ?_ rfl _ | refine Dif.mask ?_ rfl _),s74,s28,m29,S⟩
   ·replace H:=if_f hc64 H
    refine zy ?_
    obtain rfl:=zbN H
    exact ⟨rfl,(Dif.refl _ _),s32,s28,m29,S⟩
  rintro g79 u80 ⟨s61,s62,m63,S⟩
  have H:=Ho60
  obtain ⟨r82,er82,H⟩ := zq H
  refine vz 8 ⟨fun _ _=>True,fun _ _ _=>True,fun i v _=>match i with
   | 0=>v=Value.pointer (some ⟨b16,4,none⟩)
   | 1=>v=s62.v
   | 2=>v=Value.int .i64 i23
   | 3=>v=Value.agg (tmC o60.1 s61).toArray
   | 4=>v=Value.string a1
   | 5=>v=Value.agg (tmC a2 s_2).toArray
   | 6=>v=Value.map (some m_3)
   | _=>True⟩ (fun L g v => ∃ Z86:List OA,(∀ z ∈ (zg s61 o60.1.sub :: bigA xv ([]:List Term) ([]:List PTerm) :: bigA xv m63 o60.2.sub :: LT1),z ∈ Z86)∧Made L g Z86 7 92 (fun (c:SlV)=>Value.agg (tmC r82 c).toArray) (fun (c:SlV)=>[zg c r82.sub])∧St A N w v [oMS m43 r40,oB b35 zo (tmC o60.1 s61),oS zo 5 Term.C SlV.nil ([]:List Term),oB b16 zo (tmC o60.2 s62),oS zo 5 Term.C s62 m63,oB b6 zo (Term.C tmZ),oB b4 zo (tmC a2 s_2),oB b2 zo (tmC a0 s_0)] Z86) hmix zbM (fun _ _ _ _ _ _ _ hv=>hv) (fun g=>⟨_,fun _ h=>h,Made.no,S.ext (Ext.drawn _)⟩) ⟨?_,?_,?_,?_,?_,?_,?_,?_,trivial⟩ ?_
  ·rintro L g v hL hcl hclo ⟨Z86,hZ,hm7,S⟩ 
   refine wd (zf zG rfl (o':=4) rfl) ?_
   exact zb (ob4 trivial rfl ⟨_,hZ,hm7.keep rfl rfl tl0,S⟩)
  ·rintro L g v hL hcl hclo ⟨Z86,hZ,hm7,S⟩ hv0
   refine wd (zl zB hv0 ((S.blk 3).cell (Term.get_sub _))) ?_
   exact zb (ob4 trivial rfl ⟨_,hZ,hm7.keep rfl rfl tl0,S⟩)
  ·rintro L g v hL hcl hclo ⟨Z86,hZ,hm7,S⟩ 
   refine wd (zj rfl) ?_
   exact zb (ob4 trivial rfl ⟨_,hZ,hm7.keep rfl rfl tl0,S⟩)
  ·rintro L g v hL hcl hclo ⟨Z86,hZ,hm7,S⟩ 
   refine wd (ldT rfl (S.blk 1)) ?_
   exact zb (ob4 trivial rfl ⟨_,hZ,hm7.keep rfl rfl tl0,S⟩)
  ·rintro L g v hL hcl hclo ⟨Z86,hZ,hm7,S⟩ 
   refine wd (z1 rfl) ?_
   exact zb (ob4 trivial rfl ⟨_,hZ,hm7.keep rfl rfl tl0,S⟩)
  ·rintro L g v hL hcl hclo ⟨Z86,hZ,hm7,S⟩ 
   refine wd (ldT rfl (S.blk 6)) ?_
   exact zb (ob4 trivial rfl ⟨_,hZ,hm7.keep rfl rfl tl0,S⟩)
  ·rintro L g v hL hcl hclo ⟨Z86,hZ,hm7,S⟩ 
   refine wd (yM rfl) ?_
   exact zb (ob4 trivial rfl ⟨_,hZ,hm7.keep rfl rfl tl0,S⟩)
  ·rintro L g v hL hcl hclo ⟨Z86,hZ,hm7,S⟩ hv3 hv4 hv5 hv6
   replace S:=(S.zneed hZ)
   obtain ⟨B90,MB90,SB90,back⟩ := S.sub [0,4,5,6] [] [oMS m43 r40,oB b35 zo (tmC o60.1 s61),oS zo 5 Term.C SlV.nil ([]:List Term),oB b16 zo (tmC o60.2 s62),oS zo 5 Term.C s62 m63,oB b6 zo (Term.C tmZ),oB b4 zo (tmC a2 s_2),oB b2 zo (tmC a0 s_0)]
   refine zw (zF ca_term_put (zK hv3 (zK hv4 (zK hv5 (zK hv6 rfl))))) zbJ (zeb (a0:=o60.1) (a2:=a2) SB90 er82) ?_
   rintro _ w89 ⟨s91,rfl,S2⟩
   replace S:=back _ _ _ _ _ S2 rfl rfl
   clear back S2 SB90
   exact zb (ob4 trivial trivial ⟨_,(fun z h=>tl8 z (hZ z h)),Made.one (val:=(fun (c:SlV)=>Value.agg (tmC r82 c).toArray)) (ps:=(fun (c:SlV)=>[zg c r82.sub])) s91 (yp List.mem_cons_self y7),S⟩)
  rintro L g w92 hLm ⟨Z86,hZ,hm7,S⟩ hv93_0 hv93_1 hv93_2 hv93_3 hv93_4 hv93_5 hv93_6 _
  have hLt : ∀ j,j < 8→L j=true:=fun j hj=>by rw [hLm]; exact decide_eq_true hj
  obtain ⟨s85,hv93_7,hp7⟩ := hm7 (hLt 7 zbJ)
  replace S:=S.pickZ (xP (l1:=[zg s85 r82.sub]) hp7 hZ)
  clear hp7 hZ hm7
  obtain ⟨hi94,H⟩ := xb H
  refine wd (xj zz hv93_1 hv93_2 (S.rdO 4) (zL hi94).1 (by rw [(S.lenTm 3)]; exact (zL hi94).2)) ?_
  have hlw95:=S.lenO 4
  have hqw95:=(S.lenTm 3)
  refine zaC (C:=Term.C) (a:=(tmT r82 s85)) zS rfl hv93_7 (S.sl 4) ⟨(zL hi94).1,by rw [hqw95]; exact (zL hi94).2⟩ (Term.len _) (Term.one _) fun w95 O hw95=>?_
  replace S:=S.push 4 O (by rw [List.length_set]; exact hlw95) hw95 (fun i hi => .inl hi)
  clear O hlw95 hqw95
  replace S:=S.setTm (x:=r82) 3 0 (Int.toNat i23)
  refine zb (za (wd (xp q23_i rfl (c:=i23 + 1) rfl zbK zbK) (wd (zj rfl) (zb ?_))))
  replace S:=S.arr [3,4,0,5,6,7] [3,0,5,6,7,8]
  obtain rfl:=zbN H
  exact ⟨rfl,(by repeat first | exact Dif.refl _ _ | exact Dif.self _ _ _ | refine Dif.upd ?_ rfl _ | refine Dif.mask ?_ rfl _),(m23,i23 + 1,(⟨o60.2.kind,o60.2.name,o60.2.other,o60.2.form,o60.2.sub.set (Int.toNat i23) r82⟩ : PTerm)),⟨(by dsimp only; omega),(by dsimp only; omega),e23,s62,m63.set (Int.toNat i23) (tmT r82 s85),rfl,S⟩,by dsimp only; omega⟩
 rintro g96 u97 ⟨s24,m25,S⟩
 have H:=Ho23
 refine zd (za ?_)
 replace S:=S.frzTm 2 1
 refine wd (ldT rfl (S.blk 1)) ?_
 refine wsT rfl rfl (S.blk 2) fun w98 B hw98 zw98=>?_
 replace S:=S.store 2 B hw98
 clear B
 refine zb (zr ?_)
 refine ⟨_,(zQ (rtT rfl (S.blk 0))),?_⟩
 replace S:=S.arr [] [0]
 obtain rfl:=zbN H
 exact ⟨s24,rfl,S⟩
theorem term_put_st {a0:PTerm} {s_0:SlV} {a1:ByteArray} {a2:PTerm} {s_2:SlV} {a3:List (ByteArray × Int)} {m_3:Nat} (S:St A N w w [] [zg s_0 a0.sub,zg s_2 a2.sub,oMS m_3 a3,oPw]) {k:Nat} {r:PTerm} (H:zcR.f k a0 a1 a2 a3=some r) :
  Calls PP zaF #[.agg (tmC a0 s_0).toArray,.string a1,.agg (tmC a2 s_2).toArray,.map (some m_3)] w fun e w' => ∃ v,e = .returned v∧(∃ so0:SlV,v = .agg (tmC r so0).toArray∧St A N w w' [] [zg so0 r.sub]):=by
 have main : ∀ (k:Nat) {A:Nat→Prop} {N:Oth} {w:World} {a0:PTerm} {s_0:SlV} {a1:ByteArray} {a2:PTerm} {s_2:SlV} {a3:List (ByteArray × Int)} {m_3:Nat} (S:St A N w w [] [zg s_0 a0.sub,zg s_2 a2.sub,oMS m_3 a3,oPw]) {r:PTerm} (H:zcR.f k a0 a1 a2 a3=some r),Calls PP zaF #[.agg (tmC a0 s_0).toArray,.string a1,.agg (tmC a2 s_2).toArray,.map (some m_3)] w fun e w' => ∃ v,e = .returned v∧(∃ so0:SlV,v = .agg (tmC r so0).toArray∧St A N w w' [] [zg so0 r.sub]):=by
  intro k
  induction k with
  | zero=>intro A N w a0 s_0 a1 a2 s_2 a3 m_3 S r H; cases H
  | succ k ih=>intro A N w a0 s_0 a1 a2 s_2 a3 m_3 S r H; exact term_put_gst ih S H
 exact main k S H
theorem zag {a0:PTerm} {s_0:SlV} {a1:ByteArray} {a2:PTerm} {s_2:SlV} (S:St A N w w [] [zg s_0 a0.sub,zg s_2 a2.sub,oPw]) {k:Nat} {r:PTerm × Int} (H:zcS.f k a0 a1 a2=some r) :
  Calls PP F_term_Put #[.agg (tmC a0 s_0).toArray,.string a1,.agg (tmC a2 s_2).toArray] w fun e w' => ∃ v,e = .returned v∧(∃ so0:SlV,v = .tuple #[.agg (tmC r.1 so0).toArray,.int .i64 r.2]∧St A N w w' [] [zg so0 r.1.sub]):=by
 unfold zcS.f at H
 refine zx (n:=51) fn_term_Put rfl rfl zbL (zd (za ?_))
 refine zE rfl zbJ fun b2 w1 hw1=>?_
 replace S:=S.new hw1
 refine zE rfl zbJ fun b4 w3 hw3=>?_
 replace S:=S.new hw3
 refine zP xy zbJ fun b6 w5 hw5=>?_
 replace S:=S.new hw5
 refine wd (zh rfl) (zb (zd (zd (za (wd (ldT rfl (S.blk 2)) ?_)))))
 obtain ⟨r7,er7,H⟩ := zq H
 obtain ⟨B9,MB9,SB9,back⟩ := S.calln 0 ((.z 0 rfl .nil))
 refine zw (zt uK) zbJ (uM (a0:=a0) SB9 er7) ?_
 rintro _ w8 ⟨rfl,S2⟩
 replace S:=back _ _ _ _ S2 rfl
 clear back S2 SB9
 refine wd (zh rfl) (zb (zd (za (wd (zj rfl) (wd (xw rfl rfl) (zb ?_))))))
 refine zJ rfl (fun hc10=>?_) (fun hc10=>?_)
 ·replace H:=if_t hc10 H
  refine zd (za (wd (Does.to (v' := .agg (Term.C tmZ).toArray) (xa (vs:=[]) yP rfl Bld.nil) rfl) (wd (zj rfl) ?_)))
  refine wsT rfl rfl (S.blk 0) fun w11 B hw11 zw11=>?_
  replace S:=S.store 0 B hw11
  clear B
  refine wd (zh rfl) (zb (zr ?_))
  replace S:=S.nilTm
  refine ⟨_,(xe (rtT rfl (S.blk 0)) (ze rfl)),?_⟩
  replace S:=S.arr [] [0]
  obtain rfl:=zbN H
  exact ⟨SlV.nil,rfl,S⟩
 replace H:=if_f hc10 H
 refine zy (zd (zd (za (wd (ldT rfl (S.blk 1)) ?_))))
 obtain ⟨r12,er12,H⟩ := zq H
 obtain ⟨B14,MB14,SB14,back⟩ := S.calln 0 ((.z 1 rfl .nil))
 refine zw (zt uK) zbJ (uM (a0:=a2) SB14 er12) ?_
 rintro _ w13 ⟨rfl,S2⟩
 replace S:=back _ _ _ _ S2 rfl
 clear back S2 SB14
 refine wd (zh rfl) (zb (zd (za (wd (zj rfl) (wd (xw rfl rfl) (zb ?_))))))
 refine zJ rfl (fun hc15=>?_) (fun hc15=>?_)
 ·replace H:=if_t hc15 H
  refine zd (za (wd (Does.to (v' := .agg (Term.C tmZ).toArray) (xa (vs:=[]) yP rfl Bld.nil) rfl) (wd (zj rfl) ?_)))
  refine wsT rfl rfl (S.blk 0) fun w16 B hw16 zw16=>?_
  replace S:=S.store 0 B hw16
  clear B
  refine wd (zh rfl) (zb (zr ?_))
  replace S:=S.nilTm
  refine ⟨_,(xe (rtT rfl (S.blk 0)) (ze rfl)),?_⟩
  replace S:=S.arr [] [0]
  obtain rfl:=zbN H
  exact ⟨SlV.nil,rfl,S⟩
 replace H:=if_f hc15 H
 refine zy (zd (zd (za (wd (z1 rfl) ?_))))
 obtain ⟨r17,er17,H⟩ := zq H
 obtain ⟨B19,MB19,SB19,back⟩ := S.calln 0 ((.nil))
 refine zw (zt zaj) zbJ (formula_Word_st SB19 er17) ?_
 rintro _ w18 ⟨rfl,S2⟩
 replace S:=back _ _ _ _ S2 rfl
 clear back S2 SB19
 refine wd (xh rfl) (zb ?_)
 refine zJ rfl (fun hc20=>?_) (fun hc20=>?_)
 ·replace H:=if_t hc20 H
  refine zd (za (wd (Does.to (v' := .agg (Term.C tmZ).toArray) (xa (vs:=[]) yP rfl Bld.nil) rfl) ?_))
  refine wsT rfl rfl (S.blk 0) fun w21 B hw21 zw21=>?_
  replace S:=S.store 0 B hw21
  clear B
  refine wd (zh rfl) (zb (zr ?_))
  replace S:=S.nilTm
  refine ⟨_,(xe (rtT rfl (S.blk 0)) (ze rfl)),?_⟩
  replace S:=S.arr [] [0]
  obtain rfl:=zbN H
  exact ⟨SlV.nil,rfl,S⟩
 replace H:=if_f hc20 H
 refine zy (zd ?_)
 refine yq 11 (Ext w18) hmix zbM zbM (Ext.drawn _) (zD (fun v K=>zm zS rfl (((S.ext K).blk 2).all _ (Term.len _)) (Term.len _)) (zD (fun v K=>z1 rfl) (zD (fun v K=>zm zS rfl (((S.ext K).blk 1).all _ (Term.len _)) (Term.len _)) ?_)))
 obtain ⟨r22,er22,H⟩ := zq H
 refine wq_call (fun v=>zt ca_term_Size) (fun v K=>(have ⟨M,SS⟩ := (S.ext K).lend ((.z 1 rfl .nil)); quiet (term_Size_st (a0:=a2) SS er22) (fun v w' h=>⟨h.1,_,_,h.2⟩))) (fun v v' K h=>K.thenExt h) (zD (fun v K=>zm zS rfl (((S.ext K).blk 1).all _ (Term.len _)) (Term.len _)) ?_)
 obtain ⟨r23,er23,H⟩ := zq H
 refine wq_call (fun v=>zt ca_term_Deep) (fun v K=>(have ⟨M,SS⟩ := (S.ext K).lend ((.z 1 rfl .nil)); quiet (term_Deep_st (a0:=a2) SS er23) (fun v w' h=>⟨h.1,_,_,h.2⟩))) (fun v v' K h=>K.thenExt h) ?_
 obtain ⟨r24,er24,H⟩ := zq H
 refine wq_call (fun v=>zt ca_term_grown) (fun v K=>(have ⟨M,SS⟩ := (S.ext K).lend ((.z 0 rfl .nil)); quiet (term_grown_st (a0:=a0) SS er24) (fun v w' h=>⟨h.1,_,_,h.2⟩))) (fun v v' K h=>K.thenExt h) (zD (fun v K=>zX rfl) (zD (fun v K=>zn rfl rfl) (zD (fun v K=>zn rfl rfl) (zD (fun v K=>zh rfl) ?_))))
 refine vX fun w25 K=>?_
 replace S:=S.ext K
 clear K
 refine wd (zh rfl) (zb (zd (zd (za (wd (zj rfl) (wd (zax rfl rfl) (wd (zA rfl) ?_)))))))
 refine wg (fun hg=>zj rfl) ?_
 refine wg (fun hg=>zax (zp hg) rfl) (wd (xD rfl (fun hp=>(zp (xt hp)))) (zb ?_))
 refine zJ rfl (fun hc26=>?_) (fun hc26=>?_)
 ·replace H:=if_t hc26 H
  refine zd (za (wd (Does.to (v' := .agg (Term.C tmZ).toArray) (xa (vs:=[]) yP rfl Bld.nil) rfl) ?_))
  refine wsT rfl rfl (S.blk 0) fun w27 B hw27 zw27=>?_
  replace S:=S.store 0 B hw27
  clear B
  refine wd (zh rfl) (zb (zr ?_))
  replace S:=S.nilTm
  refine ⟨_,(xe (rtT rfl (S.blk 0)) (ze rfl)),?_⟩
  replace S:=S.arr [] [0]
  obtain rfl:=zbN H
  exact ⟨SlV.nil,rfl,S⟩
 replace H:=if_f hc26 H
 refine zy (zd ?_)
 obtain ⟨r29,er29,H⟩ := zq H
 let LT1:List OA:=[oB b6 zo (Term.C tmZ),oB b4 zo (tmC a2 s_2),oB b2 zo (tmC a0 s_0)]
 refine vz 5 ⟨fun _ _=>True,fun _ _ _=>True,fun i v _=>match i with
  | 0=>v=Value.agg (tmC a0 s_0).toArray
  | 1=>v=Value.string a1
  | 2=>v=Value.agg (tmC a2 s_2).toArray
  | 3=>v=Value.agg (tmC a2 s_2).toArray
  | _=>True⟩ (fun L g v => ∃ m32:Nat,∃ O34:List OA,∃ Z33:List OA,(∀ z ∈ [zg s_0 a0.sub,zg s_2 a2.sub,oPw],z ∈ Z33)∧(L 4=true→g 49=Value.map (some m32))∧O34=((bif L 4 then [oMS m32 r29] else []) ++ LT1)∧St A N w v O34 Z33) hmix zbM (fun _ _ _ _ _ _ _ hv=>hv) (fun g=>⟨0,_,_,fun _ h=>h,(fun h=>by cases h),rfl,S.ext (Ext.drawn _)⟩) ⟨?_,?_,?_,?_,?_,trivial⟩ ?_
 ·rintro L g v hL hcl hclo ⟨m32,O34,Z33,hZ,hk4,hO,S⟩ 
  have SR:St A N w v LT1 (zg s_0 a0.sub :: zg s_2 a2.sub :: oPw :: Z33):=by
   have S2:=S.zneed hZ
   rw [hO] at S2
   exact S2.drops
  refine wd (ldT rfl (SR.blk 2)) ?_
  exact zb (ob4 trivial rfl ⟨m32,O34,Z33,hZ,(kpU hk4),by rw [hO]; simp only [pN L 0 4],S⟩)
 ·rintro L g v hL hcl hclo ⟨m32,O34,Z33,hZ,hk4,hO,S⟩ 
  have SR:St A N w v LT1 (zg s_0 a0.sub :: zg s_2 a2.sub :: oPw :: Z33):=by
   have S2:=S.zneed hZ
   rw [hO] at S2
   exact S2.drops
  refine wd (z1 rfl) ?_
  exact zb (ob4 trivial rfl ⟨m32,O34,Z33,hZ,(kpU hk4),by rw [hO]; simp only [pN L 1 4],S⟩)
 ·rintro L g v hL hcl hclo ⟨m32,O34,Z33,hZ,hk4,hO,S⟩ 
  have SR:St A N w v LT1 (zg s_0 a0.sub :: zg s_2 a2.sub :: oPw :: Z33):=by
   have S2:=S.zneed hZ
   rw [hO] at S2
   exact S2.drops
  refine wd (ldT rfl (SR.blk 1)) ?_
  exact zb (ob4 trivial rfl ⟨m32,O34,Z33,hZ,(kpU hk4),by rw [hO]; simp only [pN L 2 4],S⟩)
 ·rintro L g v hL hcl hclo ⟨m32,O34,Z33,hZ,hk4,hO,S⟩ 
  have hl4:L 4=false:=clF hL fun h=>hclo 4 3 h zbM
  have SR:St A N w v LT1 (zg s_0 a0.sub :: zg s_2 a2.sub :: oPw :: Z33):=by
   have S2:=S.zneed hZ
   rw [hO] at S2
   simp only [hl4,cond_true,cond_false,List.nil_append,List.append_assoc,List.cons_append] at S2
   exact S2
  refine wd (ldT rfl (SR.blk 1)) ?_
  exact zb (ob4 trivial rfl ⟨m32,O34,Z33,hZ,(kpU hk4),by rw [hO]; simp only [pN L 3 4],S⟩)
 ·rintro L g v hL hcl hclo ⟨m32,O34,Z33,hZ,hk4,hO,S⟩ hv3
  have hl4:L 4=false:=hL
  have hOP : ∃ P Y,P=[]∧Y=LT1∧O34=P ++ ([] ++ Y):=⟨_,_,rfl,rfl,by rw [hO]; simp only [hl4,cond_true,cond_false,List.nil_append,List.append_assoc,List.cons_append]⟩
  obtain ⟨P,Y,hP,hY,hPY⟩ := hOP
  rw [hPY] at S
  replace S:=(S.zneed hZ)
  obtain ⟨B37,MB37,SB37,back⟩ := S.calln 0 ((.z 1 rfl .nil))
  refine zw (zF ca_term_freely (zK hv3 rfl)) zbJ (term_freely_st (a0:=a2) SB37 er29) ?_
  rintro _ w36 ⟨m38,rfl,S2⟩
  replace S:=back _ _ _ _ S2 rfl
  clear back S2 SB37
  refine zb (ob4 trivial trivial ⟨m38,P ++ ([oMS m38 r29] ++ Y),_,(fun z h=>tl3 z (hZ z h)),(fun _=>upd_same _ _ _),?_,S.ins (P:=[oMS m38 r29])⟩)
  rw [hP,hY]; simp only [yh (L:=L) (i:=4),cond_true,cond_false,List.nil_append,List.append_assoc,List.cons_append]
 rintro L g w39 hLm ⟨m32,O34,Z33,hZ,hk4,hO,S⟩ hv40_0 hv40_1 hv40_2 hv40_3 _
 have hLt : ∀ j,j < 5→L j=true:=fun j hj=>by rw [hLm]; exact decide_eq_true hj
 have hv40_4:=hk4 (hLt 4 zbJ)
 simp only [hLt 4 zbJ,cond_true,List.nil_append,List.cons_append] at hO
 rw [hO] at S
 replace S:=S.pickZ hZ
 clear  hZ 
 obtain ⟨r41,er41,H⟩ := zq H
 replace S:=S.frzO 0
 obtain ⟨B43,MB43,SB43,back⟩ := S.sub [1,2,0,3] [] LT1
 refine zw (zF ca_term_put (zK hv40_0 (zK hv40_1 (zK hv40_2 (zK hv40_4 rfl))))) zbJ (term_put_st (a0:=a0) (a2:=a2) SB43 er41) ?_
 rintro _ w42 ⟨s44,rfl,S2⟩
 replace S:=back _ _ _ _ _ S2 rfl rfl
 clear back S2 SB43
 refine wsT rfl rfl (S.blk 0) fun w45 B hw45 zw45=>?_
 replace S:=S.store 0 B hw45
 clear B
 refine wd (zh rfl) (zb (zr ?_))
 refine ⟨_,(xe (rtT rfl (S.blk 0)) (ze rfl)),?_⟩
 replace S:=S.arr [] [0]
 obtain rfl:=zbN H
 exact ⟨s44,rfl,S⟩
theorem reduce_rules_2_st {a0:Tb} {a_0:Option Addr} {a1:PTerm} {s_1:SlV} (S:St A N w w [] [oT a_0 a0,zg s_1 a1.sub,oPw]) {k:Nat} {r:PTerm × Int} (H:zcT.f k a0 a1=some r) :
  Calls PP vI #[.pointer a_0,.agg (tmC a1 s_1).toArray] w fun e w' => ∃ v,e = .returned v∧(∃ so0:SlV,v = .tuple #[.agg (tmC r.1 so0).toArray,.int .i64 r.2]∧St A N w w' [] [zg so0 r.1.sub]):=by
 unfold zcT.f at H
 refine zx (n:=25) fn_reduce_rules_2 rfl rfl zbL (zd (za ?_))
 refine zE rfl zbJ fun b2 w1 hw1=>?_
 replace S:=S.new hw1
 refine zP xy zbJ fun b4 w3 hw3=>?_
 replace S:=S.new hw3
 refine wd (zh rfl) (zb (zd ?_))
 refine wc_ws hmix fun w16 K=>?_
 replace S:=S.ext K
 clear K
 obtain ⟨hi17,H⟩ := xb H
 obtain ⟨s18,hc19,S⟩ := S.viewTerm 1 (zL hi17)
 replace S:=S.zs [1,2,3,0]
 obtain ⟨hi20,H⟩ := xb H
 obtain ⟨s21,hc22,S⟩ := S.viewTerm 3 (zL hi20)
 replace S:=S.zs [1,2,3,4,0]
 obtain ⟨hi23,H⟩ := xb H
 obtain ⟨hi24,H⟩ := xb H
 obtain ⟨s25,hc26,S⟩ := S.viewTerm 1 (zL hi24)
 replace S:=S.zs [1,2,3,4,5,0]
 refine vp 0 16 [] zbM zbJ zbM
  (V:=fun i v u=>match i with
  | _=>True) ?_ ?_
 ·intro i v u u' hi hx hv
  match i,hv with
  | _,_=>exact trivial
 refine zC (fun v K=>zf zG rfl (o':=4) rfl) rfl (zC (fun v K=>zl zB rfl (((S.ext K).blk 1).cell (Term.get_sub _))) rfl (zC (fun v K=>does_indexF zz rfl rfl ((S.ext K).onZ 1) (zL hi17).1 (zL hi17).2) rfl (zC (fun v K=>zf zG rfl (o':=_) rfl) rfl (zC (fun v K=>zl zB rfl ((hc19.chg K (fun x=>x)).get (Term.get_sub _))) rfl (zC (fun v K=>does_indexF zz rfl rfl ((S.ext K).onZ 3) (zL hi20).1 (zL hi20).2) rfl ?_)))))
 refine zC (fun v K=>zm zS rfl (hc22.chg K (fun x=>x)) (Term.len _)) rfl (zC (fun v K=>zf zG rfl (o':=4) rfl) rfl (zC (fun v K=>zl zB rfl (((S.ext K).blk 1).cell (Term.get_sub _))) rfl (zC (fun v K=>does_indexF zz rfl rfl ((S.ext K).onZ 1) (zL hi23).1 (zL hi23).2) rfl (zC (fun v K=>zf xH rfl (o':=_) rfl) rfl (zC (fun v K=>zl xl rfl (vc.get_name ((S.ext K).onZ 1) (zL hi23))) rfl ?_)))))
 refine zC (fun v K=>zf zG rfl (o':=4) rfl) rfl (zC (fun v K=>zl zB rfl (((S.ext K).blk 1).cell (Term.get_sub _))) rfl (zC (fun v K=>does_indexF zz rfl rfl ((S.ext K).onZ 1) (zL hi24).1 (zL hi24).2) rfl (zC (fun v K=>zm zS rfl (hc26.chg K (fun x=>x)) (Term.len _)) rfl ?_)))
 refine y6 fun g w27 K hV=>?_
 replace S:=S.ext K
 clear K hV
 refine jE 16 17 zbM zbJ ?_
 obtain ⟨r29,er29,H⟩ := zq H
 obtain ⟨B31,MB31,SB31,back⟩ := S.sub [4,5,2] [] [oB b4 zo (Term.C tmZ),oB b2 zo (tmC a1 s_1)]
 refine zw (zt kY) zbJ (zag (a0:=(kd (kd a1 0) 0)) (a2:=(kd a1 1)) SB31 er29) ?_
 rintro _ w30 ⟨s32,rfl,S2⟩
 replace S:=back _ _ _ _ _ S2 rfl rfl
 clear back S2 SB31
 refine zb ⟨rfl,?_⟩
 refine vp 17 19 [] zbM zbJ zbM
  (V:=fun i v u=>match i with
  | _=>True) ?_ ?_
 ·intro i v u u' hi hx hv
  match i,hv with
  | _,_=>exact trivial
 refine zC (fun v K=>zn rfl rfl) rfl (zC (fun v K=>zn rfl rfl) rfl ?_)
 refine y6 fun g w33 K hV=>?_
 replace S:=S.ext K
 clear K hV
 refine kP 19 zbM zbJ ?_
 refine wsT rfl rfl (S.blk 0) fun w35 B hw35 zw35=>?_
 replace S:=S.store 0 B hw35
 clear B
 refine wd (zh rfl) (zb (zr ?_))
 refine ⟨_,(xe (rtT rfl (S.blk 0)) (ze rfl)),?_⟩
 replace S:=S.arr [] [0]
 obtain rfl:=zbN H
 exact ⟨s32,rfl,S⟩
theorem reduce_rules_4_st {a0:Tb} {a_0:Option Addr} {a1:PTerm} {s_1:SlV} (S:St A N w w [] [oT a_0 a0,zg s_1 a1.sub,oPw]) {k:Nat} {r:PTerm × Int} (H:zcU.f k a0 a1=some r) :
  Calls PP vJ #[.pointer a_0,.agg (tmC a1 s_1).toArray] w fun e w' => ∃ v,e = .returned v∧(∃ so0:SlV,v = .tuple #[.agg (tmC r.1 so0).toArray,.int .i64 r.2]∧St A N w w' [] [zg so0 r.1.sub]):=by
 unfold zcU.f at H
 refine zx (n:=40) fn_reduce_rules_4 rfl rfl zbL (zd (za ?_))
 refine zE rfl zbJ fun b2 w1 hw1=>?_
 replace S:=S.new hw1
 refine zP xy zbJ fun b4 w3 hw3=>?_
 replace S:=S.new hw3
 refine wd (zh rfl) (zb (zd (za (wd (zf zG rfl (o':=4) rfl) (wd (zl zB rfl ((S.blk 1).cell (Term.get_sub _))) ?_)))))
 obtain ⟨hi5,H⟩ := xb H
 refine wd (does_indexF zz rfl rfl (S.onZ 1) (zL hi5).1 (zL hi5).2) (wd (zf zG rfl (o':=_) rfl) ?_)
 obtain ⟨s6,hc7,S⟩ := S.viewTerm 1 (zL hi5)
 replace S:=S
 refine wd (zl zB rfl (hc7.get (Term.get_sub _))) ?_
 obtain ⟨hi8,H⟩ := xb H
 refine wd (does_indexF zz rfl rfl (S.onZ 0) (zL hi8).1 (zL hi8).2) ?_
 obtain ⟨s9,hc10,S⟩ := S.viewTerm 0 (zL hi8)
 replace S:=S
 refine wd (ldC rfl hc10) ?_
 refine zP xy zbJ fun b12 w11 hw11=>?_
 replace S:=S.new hw11
 refine wsT rfl rfl (S.blk 0) fun w13 B hw13 zw13=>?_
 replace S:=S.store 0 B hw13
 clear B
 refine zb (zd ?_)
 obtain ⟨hi22,H⟩ := xb H
 obtain ⟨hi24,H⟩ := xb H
 obtain ⟨r26,er26,H⟩ := zq H
 obtain ⟨r29,er29,H⟩ := zq H
 obtain ⟨r33,er33,H⟩ := zq H
 obtain ⟨s23,S⟩ := S.viewTermC 0 (zL hi22)
 replace S:=S
 obtain ⟨s25,S⟩ := S.viewTermC 5 (zL hi24)
 replace S:=S.zs [4,5,6,7,8,2,3,0,1]
 let LT2:List OA:=[oB b12 zo (tmC (kd (kd a1 0) 0) s9),oB b4 zo (Term.C tmZ),oB b2 zo (tmC a1 s_1)]
 refine vz 20 ⟨fun _ _=>True,fun _ _ _=>True,fun i v _=>match i with
  | 0=>v=Value.pointer (some ⟨b12,4,none⟩)
  | 1=>v=s9.v
  | 2=>v=Value.pointer (some ⟨s9.blk,s9.off + Int.toNat 0 * 5,none⟩)
  | 3=>v=Value.agg (tmC (kd (kd (kd a1 0) 0) 0) s23).toArray
  | 4=>v=Value.pointer (some ⟨b12,1,none⟩)
  | 5=>v=Value.string ((kd (kd a1 0) 0).name)
  | 6=>v=Value.pointer (some ⟨b2,4,none⟩)
  | 7=>v=s_1.v
  | 8=>v=Value.pointer (some ⟨s_1.blk,s_1.off + Int.toNat 1 * 5,none⟩)
  | 9=>v=Value.agg (tmC (kd a1 1) s25).toArray
  | 10=>v=Value.pointer a_0
  | 11=>v=Value.agg (tmC a1 s_1).toArray
  | 12=>v=Value.int .i64 r26
  | 17=>v=Value.int .i64 r33.2
  | _=>True⟩ (fun L g v => ∃ b38:Nat,∃ s40:SlV,∃ O42:List OA,∃ Z41:List OA,(∀ z ∈ [zg s9 ((kd (kd a1 0) 0).sub),zg s6 ((kd a1 0).sub),oT a_0 a0,zg s_1 a1.sub,oPw,oCl s9.blk (s9.off + Int.toNat 0 * 5) (tmC (kd (kd (kd a1 0) 0) 0) s23),zg s23 ((kd (kd (kd a1 0) 0) 0).sub),oCl s_1.blk (s_1.off + Int.toNat 1 * 5) (tmC (kd a1 1) s25),zg s25 ((kd a1 1).sub)],z ∈ Z41)∧Made L g Z41 13 30 (fun (c:SlV)=>Value.agg (tmC r29 c).toArray) (fun (c:SlV)=>[zg c r29.sub])∧Made L g Z41 14 31 (fun (c:SlV)=>Value.tuple #[.agg (tmC r33.1 c).toArray,.int .i64 r33.2]) (fun (c:SlV)=>[zg c r33.1.sub])∧Made L g Z41 15 16 (fun (c:SlV)=>Value.tuple #[.agg (tmC r33.1 c).toArray,.int .i64 r33.2]) (fun (c:SlV)=>[zg c r33.1.sub])∧Made L g Z41 16 32 (fun (c:SlV)=>Value.agg (tmC r33.1 c).toArray) (fun (c:SlV)=>[zg c r33.1.sub])∧(L 18=true→g 7=Value.pointer (some ⟨b38,0,none⟩))∧(L 19=true → ∀ z ∈ [zg s40 r33.1.sub],z ∈ Z41)∧O42=((bif L 19 then [oB b38 zo (tmC r33.1 s40)] else (bif L 18 then [oB b38 zo (Term.C tmZ)] else [])) ++ LT2)∧St A N w v O42 Z41) hmix zbM (fun _ _ _ _ _ _ _ hv=>hv) (fun g=>⟨0,SlV.nil,_,_,fun _ h=>h,Made.no,Made.no,Made.no,Made.no,(fun h=>by cases h),(fun h=>by cases h),rfl,S.ext (Ext.drawn _)⟩) ⟨?_,?_,?_,?_,?_,?_,?_,?_,?_,?_,?_,?_,?_,?_,?_,?_,?_,?_,?_,?_,trivial⟩ ?_
 ·rintro L g v hL hcl hclo ⟨b38,s40,O42,Z41,hZ,hm13,hm14,hm15,hm16,hk18,hq19,hO,S⟩ 
  have hl19:L 19=false:=clF hL fun h=>hclo 19 0 h zbM
  have SR:St A N w v LT2 (zg s9 ((kd (kd a1 0) 0).sub) :: zg s6 ((kd a1 0).sub) :: oT a_0 a0 :: zg s_1 a1.sub :: oPw :: oCl s9.blk (s9.off + Int.toNat 0 * 5) (tmC (kd (kd (kd a1 0) 0) 0) s23) :: zg s23 ((kd (kd (kd a1 0) 0) 0).sub) :: oCl s_1.blk (s_1.off + Int.toNat 1 * 5) (tmC (kd a1 1) s25) :: zg s25 ((kd a1 1).sub) :: Z41):=by
   have S2:=S.zneed hZ
   rw [hO] at S2
   simp only [hl19,cond_true,cond_false,List.nil_append,List.append_assoc,List.cons_append] at S2
   exact S2.drops
  refine wd (zf zG rfl (o':=4) rfl) ?_
  exact zb (ob4 trivial rfl ⟨b38,s40,O42,Z41,hZ,hm13.keep rfl rfl tl0,hm14.keep rfl rfl tl0,hm15.keep rfl rfl tl0,hm16.keep rfl rfl tl0,(kpU hk18),(kpZ tl0 hq19),by rw [hO]; simp only [pN L 0 18,pN L 0 19],S⟩)
 ·rintro L g v hL hcl hclo ⟨b38,s40,O42,Z41,hZ,hm13,hm14,hm15,hm16,hk18,hq19,hO,S⟩ hv0
  have hl19:L 19=false:=clF hL fun h=>hclo 19 1 h zbM
  have SR:St A N w v LT2 (zg s9 ((kd (kd a1 0) 0).sub) :: zg s6 ((kd a1 0).sub) :: oT a_0 a0 :: zg s_1 a1.sub :: oPw :: oCl s9.blk (s9.off + Int.toNat 0 * 5) (tmC (kd (kd (kd a1 0) 0) 0) s23) :: zg s23 ((kd (kd (kd a1 0) 0) 0).sub) :: oCl s_1.blk (s_1.off + Int.toNat 1 * 5) (tmC (kd a1 1) s25) :: zg s25 ((kd a1 1).sub) :: Z41):=by
   have S2:=S.zneed hZ
   rw [hO] at S2
   simp only [hl19,cond_true,cond_false,List.nil_append,List.append_assoc,List.cons_append] at S2
   exact S2.drops
  refine wd (zl zB hv0 ((SR.blk 0).cell (Term.get_sub _))) ?_
  exact zb (ob4 trivial rfl ⟨b38,s40,O42,Z41,hZ,hm13.keep rfl rfl tl0,hm14.keep rfl rfl tl0,hm15.keep rfl rfl tl0,hm16.keep rfl rfl tl0,(kpU hk18),(kpZ tl0 hq19),by rw [hO]; simp only [pN L 1 18,pN L 1 19],S⟩)
 ·rintro L g v hL hcl hclo ⟨b38,s40,O42,Z41,hZ,hm13,hm14,hm15,hm16,hk18,hq19,hO,S⟩ hv1
  have hl19:L 19=false:=clF hL fun h=>hclo 19 2 h zbM
  have SR:St A N w v LT2 (zg s9 ((kd (kd a1 0) 0).sub) :: zg s6 ((kd a1 0).sub) :: oT a_0 a0 :: zg s_1 a1.sub :: oPw :: oCl s9.blk (s9.off + Int.toNat 0 * 5) (tmC (kd (kd (kd a1 0) 0) 0) s23) :: zg s23 ((kd (kd (kd a1 0) 0) 0).sub) :: oCl s_1.blk (s_1.off + Int.toNat 1 * 5) (tmC (kd a1 1) s25) :: zg s25 ((kd a1 1).sub) :: Z41):=by
   have S2:=S.zneed hZ
   rw [hO] at S2
   simp only [hl19,cond_true,cond_false,List.nil_append,List.append_assoc,List.cons_append] at S2
   exact S2.drops
  refine wd (does_indexF zz hv1 rfl (SR.onZ 0) (zL hi22).1 (zL hi22).2) ?_
  exact zb (ob4 trivial rfl ⟨b38,s40,O42,Z41,hZ,hm13.keep rfl rfl tl0,hm14.keep rfl rfl tl0,hm15.keep rfl rfl tl0,hm16.keep rfl rfl tl0,(kpU hk18),(kpZ tl0 hq19),by rw [hO]; simp only [pN L 2 18,pN L 2 19],S⟩)
 ·rintro L g v hL hcl hclo ⟨b38,s40,O42,Z41,hZ,hm13,hm14,hm15,hm16,hk18,hq19,hO,S⟩ hv2
  have hl19:L 19=false:=clF hL fun h=>hclo 19 3 h zbM
  have SR:St A N w v LT2 (zg s9 ((kd (kd a1 0) 0).sub) :: zg s6 ((kd a1 0).sub) :: oT a_0 a0 :: zg s_1 a1.sub :: oPw :: oCl s9.blk (s9.off + Int.toNat 0 * 5) (tmC (kd (kd (kd a1 0) 0) 0) s23) :: zg s23 ((kd (kd (kd a1 0) 0) 0).sub) :: oCl s_1.blk (s_1.off + Int.toNat 1 * 5) (tmC (kd a1 1) s25) :: zg s25 ((kd a1 1).sub) :: Z41):=by
   have S2:=S.zneed hZ
   rw [hO] at S2
   simp only [hl19,cond_true,cond_false,List.nil_append,List.append_assoc,List.cons_append] at S2
   exact S2.drops
  refine wd (zm zS hv2 (SR.cl 5) (Term.len _)) ?_
  exact zb (ob4 trivial rfl ⟨b38,s40,O42,Z41,hZ,hm13.keep rfl rfl tl0,hm14.keep rfl rfl tl0,hm15.keep rfl rfl tl0,hm16.keep rfl rfl tl0,(kpU hk18),(kpZ tl0 hq19),by rw [hO]; simp only [pN L 3 18,pN L 3 19],S⟩)
 ·rintro L g v hL hcl hclo ⟨b38,s40,O42,Z41,hZ,hm13,hm14,hm15,hm16,hk18,hq19,hO,S⟩ 
  have hl19:L 19=false:=clF hL fun h=>hclo 19 4 h zbM
  have SR:St A N w v LT2 (zg s9 ((kd (kd a1 0) 0).sub) :: zg s6 ((kd a1 0).sub) :: oT a_0 a0 :: zg s_1 a1.sub :: oPw :: oCl s9.blk (s9.off + Int.toNat 0 * 5) (tmC (kd (kd (kd a1 0) 0) 0) s23) :: zg s23 ((kd (kd (kd a1 0) 0) 0).sub) :: oCl s_1.blk (s_1.off + Int.toNat 1 * 5) (tmC (kd a1 1) s25) :: zg s25 ((kd a1 1).sub) :: Z41):=by
   have S2:=S.zneed hZ
   rw [hO] at S2
   simp only [hl19,cond_true,cond_false,List.nil_append,List.append_assoc,List.cons_append] at S2
   exact S2.drops
  refine wd (zf xH rfl (o':=1) rfl) ?_
  exact zb (ob4 trivial rfl ⟨b38,s40,O42,Z41,hZ,hm13.keep rfl rfl tl0,hm14.keep rfl rfl tl0,hm15.keep rfl rfl tl0,hm16.keep rfl rfl tl0,(kpU hk18),(kpZ tl0 hq19),by rw [hO]; simp only [pN L 4 18,pN L 4 19],S⟩)
 ·rintro L g v hL hcl hclo ⟨b38,s40,O42,Z41,hZ,hm13,hm14,hm15,hm16,hk18,hq19,hO,S⟩ hv4
  have hl19:L 19=false:=clF hL fun h=>hclo 19 5 h zbM
  have SR:St A N w v LT2 (zg s9 ((kd (kd a1 0) 0).sub) :: zg s6 ((kd a1 0).sub) :: oT a_0 a0 :: zg s_1 a1.sub :: oPw :: oCl s9.blk (s9.off + Int.toNat 0 * 5) (tmC (kd (kd (kd a1 0) 0) 0) s23) :: zg s23 ((kd (kd (kd a1 0) 0) 0).sub) :: oCl s_1.blk (s_1.off + Int.toNat 1 * 5) (tmC (kd a1 1) s25) :: zg s25 ((kd a1 1).sub) :: Z41):=by
   have S2:=S.zneed hZ
   rw [hO] at S2
   simp only [hl19,cond_true,cond_false,List.nil_append,List.append_assoc,List.cons_append] at S2
   exact S2.drops
  refine wd (zl xl hv4 ((SR.blk 0).cell (Term.get_name _))) ?_
  exact zb (ob4 trivial rfl ⟨b38,s40,O42,Z41,hZ,hm13.keep rfl rfl tl0,hm14.keep rfl rfl tl0,hm15.keep rfl rfl tl0,hm16.keep rfl rfl tl0,(kpU hk18),(kpZ tl0 hq19),by rw [hO]; simp only [pN L 5 18,pN L 5 19],S⟩)
 ·rintro L g v hL hcl hclo ⟨b38,s40,O42,Z41,hZ,hm13,hm14,hm15,hm16,hk18,hq19,hO,S⟩ 
  have hl19:L 19=false:=clF hL fun h=>hclo 19 6 h zbM
  have SR:St A N w v LT2 (zg s9 ((kd (kd a1 0) 0).sub) :: zg s6 ((kd a1 0).sub) :: oT a_0 a0 :: zg s_1 a1.sub :: oPw :: oCl s9.blk (s9.off + Int.toNat 0 * 5) (tmC (kd (kd (kd a1 0) 0) 0) s23) :: zg s23 ((kd (kd (kd a1 0) 0) 0).sub) :: oCl s_1.blk (s_1.off + Int.toNat 1 * 5) (tmC (kd a1 1) s25) :: zg s25 ((kd a1 1).sub) :: Z41):=by
   have S2:=S.zneed hZ
   rw [hO] at S2
   simp only [hl19,cond_true,cond_false,List.nil_append,List.append_assoc,List.cons_append] at S2
   exact S2.drops
  refine wd (zf zG rfl (o':=4) rfl) ?_
  exact zb (ob4 trivial rfl ⟨b38,s40,O42,Z41,hZ,hm13.keep rfl rfl tl0,hm14.keep rfl rfl tl0,hm15.keep rfl rfl tl0,hm16.keep rfl rfl tl0,(kpU hk18),(kpZ tl0 hq19),by rw [hO]; simp only [pN L 6 18,pN L 6 19],S⟩)
 ·rintro L g v hL hcl hclo ⟨b38,s40,O42,Z41,hZ,hm13,hm14,hm15,hm16,hk18,hq19,hO,S⟩ hv6
  have hl19:L 19=false:=clF hL fun h=>hclo 19 7 h zbM
  have SR:St A N w v LT2 (zg s9 ((kd (kd a1 0) 0).sub) :: zg s6 ((kd a1 0).sub) :: oT a_0 a0 :: zg s_1 a1.sub :: oPw :: oCl s9.blk (s9.off + Int.toNat 0 * 5) (tmC (kd (kd (kd a1 0) 0) 0) s23) :: zg s23 ((kd (kd (kd a1 0) 0) 0).sub) :: oCl s_1.blk (s_1.off + Int.toNat 1 * 5) (tmC (kd a1 1) s25) :: zg s25 ((kd a1 1).sub) :: Z41):=by
   have S2:=S.zneed hZ
   rw [hO] at S2
   simp only [hl19,cond_true,cond_false,List.nil_append,List.append_assoc,List.cons_append] at S2
   exact S2.drops
  refine wd (zl zB hv6 ((SR.blk 2).cell (Term.get_sub _))) ?_
  exact zb (ob4 trivial rfl ⟨b38,s40,O42,Z41,hZ,hm13.keep rfl rfl tl0,hm14.keep rfl rfl tl0,hm15.keep rfl rfl tl0,hm16.keep rfl rfl tl0,(kpU hk18),(kpZ tl0 hq19),by rw [hO]; simp only [pN L 7 18,pN L 7 19],S⟩)
 ·rintro L g v hL hcl hclo ⟨b38,s40,O42,Z41,hZ,hm13,hm14,hm15,hm16,hk18,hq19,hO,S⟩ hv7
  have hl19:L 19=false:=clF hL fun h=>hclo 19 8 h zbM
  have SR:St A N w v LT2 (zg s9 ((kd (kd a1 0) 0).sub) :: zg s6 ((kd a1 0).sub) :: oT a_0 a0 :: zg s_1 a1.sub :: oPw :: oCl s9.blk (s9.off + Int.toNat 0 * 5) (tmC (kd (kd (kd a1 0) 0) 0) s23) :: zg s23 ((kd (kd (kd a1 0) 0) 0).sub) :: oCl s_1.blk (s_1.off + Int.toNat 1 * 5) (tmC (kd a1 1) s25) :: zg s25 ((kd a1 1).sub) :: Z41):=by
   have S2:=S.zneed hZ
   rw [hO] at S2
   simp only [hl19,cond_true,cond_false,List.nil_append,List.append_assoc,List.cons_append] at S2
   exact S2.drops
  refine wd (does_indexF zz hv7 rfl (SR.onZ 3) (zL hi24).1 (zL hi24).2) ?_
  exact zb (ob4 trivial rfl ⟨b38,s40,O42,Z41,hZ,hm13.keep rfl rfl tl0,hm14.keep rfl rfl tl0,hm15.keep rfl rfl tl0,hm16.keep rfl rfl tl0,(kpU hk18),(kpZ tl0 hq19),by rw [hO]; simp only [pN L 8 18,pN L 8 19],S⟩)
 ·rintro L g v hL hcl hclo ⟨b38,s40,O42,Z41,hZ,hm13,hm14,hm15,hm16,hk18,hq19,hO,S⟩ hv8
  have hl19:L 19=false:=clF hL fun h=>hclo 19 9 h zbM
  have SR:St A N w v LT2 (zg s9 ((kd (kd a1 0) 0).sub) :: zg s6 ((kd a1 0).sub) :: oT a_0 a0 :: zg s_1 a1.sub :: oPw :: oCl s9.blk (s9.off + Int.toNat 0 * 5) (tmC (kd (kd (kd a1 0) 0) 0) s23) :: zg s23 ((kd (kd (kd a1 0) 0) 0).sub) :: oCl s_1.blk (s_1.off + Int.toNat 1 * 5) (tmC (kd a1 1) s25) :: zg s25 ((kd a1 1).sub) :: Z41):=by
   have S2:=S.zneed hZ
   rw [hO] at S2
   simp only [hl19,cond_true,cond_false,List.nil_append,List.append_assoc,List.cons_append] at S2
   exact S2.drops
  refine wd (zm zS hv8 (SR.cl 7) (Term.len _)) ?_
  exact zb (ob4 trivial rfl ⟨b38,s40,O42,Z41,hZ,hm13.keep rfl rfl tl0,hm14.keep rfl rfl tl0,hm15.keep rfl rfl tl0,hm16.keep rfl rfl tl0,(kpU hk18),(kpZ tl0 hq19),by rw [hO]; simp only [pN L 9 18,pN L 9 19],S⟩)
 ·rintro L g v hL hcl hclo ⟨b38,s40,O42,Z41,hZ,hm13,hm14,hm15,hm16,hk18,hq19,hO,S⟩ 
  have hl19:L 19=false:=clF hL fun h=>hclo 19 10 h zbM
  have SR:St A N w v LT2 (zg s9 ((kd (kd a1 0) 0).sub) :: zg s6 ((kd a1 0).sub) :: oT a_0 a0 :: zg s_1 a1.sub :: oPw :: oCl s9.blk (s9.off + Int.toNat 0 * 5) (tmC (kd (kd (kd a1 0) 0) 0) s23) :: zg s23 ((kd (kd (kd a1 0) 0) 0).sub) :: oCl s_1.blk (s_1.off + Int.toNat 1 * 5) (tmC (kd a1 1) s25) :: zg s25 ((kd a1 1).sub) :: Z41):=by
   have S2:=S.zneed hZ
   rw [hO] at S2
   simp only [hl19,cond_true,cond_false,List.nil_append,List.append_assoc,List.cons_append] at S2
   exact S2.drops
  refine wd (zu rfl) ?_
  exact zb (ob4 trivial rfl ⟨b38,s40,O42,Z41,hZ,hm13.keep rfl rfl tl0,hm14.keep rfl rfl tl0,hm15.keep rfl rfl tl0,hm16.keep rfl rfl tl0,(kpU hk18),(kpZ tl0 hq19),by rw [hO]; simp only [pN L 10 18,pN L 10 19],S⟩)
 ·rintro L g v hL hcl hclo ⟨b38,s40,O42,Z41,hZ,hm13,hm14,hm15,hm16,hk18,hq19,hO,S⟩ 
  have hl19:L 19=false:=clF hL fun h=>hclo 19 11 h zbM
  have SR:St A N w v LT2 (zg s9 ((kd (kd a1 0) 0).sub) :: zg s6 ((kd a1 0).sub) :: oT a_0 a0 :: zg s_1 a1.sub :: oPw :: oCl s9.blk (s9.off + Int.toNat 0 * 5) (tmC (kd (kd (kd a1 0) 0) 0) s23) :: zg s23 ((kd (kd (kd a1 0) 0) 0).sub) :: oCl s_1.blk (s_1.off + Int.toNat 1 * 5) (tmC (kd a1 1) s25) :: zg s25 ((kd a1 1).sub) :: Z41):=by
   have S2:=S.zneed hZ
   rw [hO] at S2
   simp only [hl19,cond_true,cond_false,List.nil_append,List.append_assoc,List.cons_append] at S2
   exact S2.drops
  refine wd (ldT rfl (SR.blk 2)) ?_
  exact zb (ob4 trivial rfl ⟨b38,s40,O42,Z41,hZ,hm13.keep rfl rfl tl0,hm14.keep rfl rfl tl0,hm15.keep rfl rfl tl0,hm16.keep rfl rfl tl0,(kpU hk18),(kpZ tl0 hq19),by rw [hO]; simp only [pN L 11 18,pN L 11 19],S⟩)
 ·rintro L g v hL hcl hclo ⟨b38,s40,O42,Z41,hZ,hm13,hm14,hm15,hm16,hk18,hq19,hO,S⟩ hv10 hv11
  have hl19:L 19=false:=clF hL fun h=>hclo 19 12 h zbM
  have SR:St A N w v LT2 (zg s9 ((kd (kd a1 0) 0).sub) :: zg s6 ((kd a1 0).sub) :: oT a_0 a0 :: zg s_1 a1.sub :: oPw :: oCl s9.blk (s9.off + Int.toNat 0 * 5) (tmC (kd (kd (kd a1 0) 0) 0) s23) :: zg s23 ((kd (kd (kd a1 0) 0) 0).sub) :: oCl s_1.blk (s_1.off + Int.toNat 1 * 5) (tmC (kd a1 1) s25) :: zg s25 ((kd a1 1).sub) :: Z41):=by
   have S2:=S.zneed hZ
   rw [hO] at S2
   simp only [hl19,cond_true,cond_false,List.nil_append,List.append_assoc,List.cons_append] at S2
   exact S2.drops
  refine (have ⟨M,SS⟩ := SR.lend ((.z 2 rfl (.z 3 rfl .nil))); zw (zF j7 (zK hv10 (zK hv11 (zK rfl rfl)))) zbJ (quiet (kh SS er26) (fun v w' h=>⟨h.1,_,_,h.2⟩)) ?_)
  rintro _ v2 ⟨rfl,hx⟩
  exact zb (ob4 trivial rfl ⟨b38,s40,O42,Z41,hZ,hm13.keep rfl rfl tl0,hm14.keep rfl rfl tl0,hm15.keep rfl rfl tl0,hm16.keep rfl rfl tl0,(kpU hk18),(kpZ tl0 hq19),by rw [hO]; simp only [pN L 12 18,pN L 12 19],S.ext hx⟩)
 ·rintro L g v hL hcl hclo ⟨b38,s40,O42,Z41,hZ,hm13,hm14,hm15,hm16,hk18,hq19,hO,S⟩ hv9 hv12
  have hl19:L 19=false:=clF hL fun h=>hclo 19 13 h zbM
  replace S:=(S.zneed hZ)
  obtain ⟨B47,MB47,SB47,back⟩ := S.sub [8] [] (O42)
  refine zw (zF kL (zK hv9 (zK hv12 rfl))) zbJ (kN (a0:=(kd a1 1)) SB47 er29) ?_
  rintro _ w46 ⟨s48,rfl,S2⟩
  replace S:=back _ _ _ _ _ S2 rfl rfl
  clear back S2 SB47
  exact zb (ob4 trivial trivial ⟨b38,s40,O42,_,(fun z h=>tl10 z (hZ z h)),Made.one (val:=(fun (c:SlV)=>Value.agg (tmC r29 c).toArray)) (ps:=(fun (c:SlV)=>[zg c r29.sub])) s48 (yp List.mem_cons_self y7),hm14.keep rfl rfl tl10,hm15.keep rfl rfl tl10,hm16.keep rfl rfl tl10,(kpU hk18),(kpZ tl10 hq19),by rw [hO]; simp only [pN L 13 18,pN L 13 19],S⟩)
 ·rintro L g v hL hcl hclo ⟨b38,s40,O42,Z41,hZ,hm13,hm14,hm15,hm16,hk18,hq19,hO,S⟩ hv3 hv5 _
  obtain ⟨s32,he13,hp13⟩ := hm13 (hcl 13 zbM)
  have hl19:L 19=false:=clF hL fun h=>hclo 19 14 h zbM
  replace S:=(S.zneed (xP (l1:=[zg s32 r29.sub]) hp13 hZ))
  obtain ⟨B51,MB51,SB51,back⟩ := S.sub [7,0,5] [] (O42)
  refine zw (zF kY (zK hv3 (zK hv5 (zK he13 rfl)))) zbJ (zag (a0:=(kd (kd (kd a1 0) 0) 0)) (a2:=r29) SB51 er33) ?_
  rintro _ w50 ⟨s52,rfl,S2⟩
  replace S:=back _ _ _ _ _ S2 rfl rfl
  clear back S2 SB51
  exact zb (ob4 trivial trivial ⟨b38,s40,O42,_,(fun z h=>tl11 z (hZ z h)),hm13.keep rfl rfl tl11,Made.one (val:=(fun (c:SlV)=>Value.tuple #[.agg (tmC r33.1 c).toArray,.int .i64 r33.2])) (ps:=(fun (c:SlV)=>[zg c r33.1.sub])) s52 (yp List.mem_cons_self y7),hm15.keep rfl rfl tl11,hm16.keep rfl rfl tl11,(kpU hk18),(kpZ tl11 hq19),by rw [hO]; simp only [pN L 14 18,pN L 14 19],S⟩)
 ·rintro L g v hL hcl hclo ⟨b38,s40,O42,Z41,hZ,hm13,hm14,hm15,hm16,hk18,hq19,hO,S⟩ _
  obtain ⟨s36,he14,hp14⟩ := hm14 (hcl 14 zbM)
  have hl19:L 19=false:=clF hL fun h=>hclo 19 15 h zbM
  replace S:=(S.zneed (xP (l1:=[zg s36 r33.1.sub]) hp14 hZ))
  refine wd (zX he14) ?_
  exact zb (ob4 trivial trivial ⟨b38,s40,O42,_,(fun z h=>tl10 z (hZ z h)),hm13.keep rfl rfl tl10,hm14.keep rfl rfl tl10,Made.one (val:=(fun (c:SlV)=>Value.tuple #[.agg (tmC r33.1 c).toArray,.int .i64 r33.2])) (ps:=(fun (c:SlV)=>[zg c r33.1.sub])) s36 (yp List.mem_cons_self y7),hm16.keep rfl rfl tl10,(kpU hk18),(kpZ tl10 hq19),by rw [hO]; simp only [pN L 15 18,pN L 15 19],S⟩)
 ·rintro L g v hL hcl hclo ⟨b38,s40,O42,Z41,hZ,hm13,hm14,hm15,hm16,hk18,hq19,hO,S⟩ _
  obtain ⟨s36,he15,hp15⟩ := hm15 (hcl 15 zbM)
  have hl19:L 19=false:=clF hL fun h=>hclo 19 16 h zbM
  replace S:=(S.zneed (xP (l1:=[zg s36 r33.1.sub]) hp15 hZ))
  refine wd (zn he15 rfl) ?_
  exact zb (ob4 trivial trivial ⟨b38,s40,O42,_,(fun z h=>tl10 z (hZ z h)),hm13.keep rfl rfl tl10,hm14.keep rfl rfl tl10,hm15.keep rfl rfl tl10,Made.one (val:=(fun (c:SlV)=>Value.agg (tmC r33.1 c).toArray)) (ps:=(fun (c:SlV)=>[zg c r33.1.sub])) s36 (yp List.mem_cons_self y7),(kpU hk18),(kpZ tl10 hq19),by rw [hO]; simp only [pN L 16 18,pN L 16 19],S⟩)
 ·rintro L g v hL hcl hclo ⟨b38,s40,O42,Z41,hZ,hm13,hm14,hm15,hm16,hk18,hq19,hO,S⟩ _
  obtain ⟨s36,he15,hp15⟩ := hm15 (hcl 15 zbM)
  have SR:St A N w v LT2 (zg s36 r33.1.sub :: zg s9 ((kd (kd a1 0) 0).sub) :: zg s6 ((kd a1 0).sub) :: oT a_0 a0 :: zg s_1 a1.sub :: oPw :: oCl s9.blk (s9.off + Int.toNat 0 * 5) (tmC (kd (kd (kd a1 0) 0) 0) s23) :: zg s23 ((kd (kd (kd a1 0) 0) 0).sub) :: oCl s_1.blk (s_1.off + Int.toNat 1 * 5) (tmC (kd a1 1) s25) :: zg s25 ((kd a1 1).sub) :: Z41):=by
   have S2:=S.zneed (xP (l1:=[zg s36 r33.1.sub]) hp15 hZ)
   rw [hO] at S2
   exact S2.drops
  refine wd (zn he15 rfl) ?_
  exact zb (ob4 trivial rfl ⟨b38,s40,O42,Z41,hZ,hm13.keep rfl rfl tl0,hm14.keep rfl rfl tl0,hm15.keep rfl rfl tl0,hm16.keep rfl rfl tl0,(kpU hk18),(kpZ tl0 hq19),by rw [hO]; simp only [pN L 17 18,pN L 17 19],S⟩)
 ·rintro L g v hL hcl hclo ⟨b38,s40,O42,Z41,hZ,hm13,hm14,hm15,hm16,hk18,hq19,hO,S⟩ 
  have hl18:L 18=false:=hL
  have hl19:L 19=false:=clF hL fun h=>hclo 19 18 h zbM
  have hOP : ∃ P Y,P=[]∧Y=LT2∧O42=P ++ ([] ++ Y):=⟨_,_,rfl,rfl,by rw [hO]; simp only [hl18,hl19,cond_true,cond_false,List.nil_append,List.append_assoc,List.cons_append]⟩
  obtain ⟨P,Y,hP,hY,hPY⟩ := hOP
  rw [hPY] at S
  replace S:=S
  refine zP xy zbJ fun b54 w53 hw53=>?_
  replace S:=S.new hw53
  refine zb (ob4 trivial trivial ⟨b54,s40,P ++ ([oB b54 zo (Term.C tmZ)] ++ Y),_,hZ,hm13.keep rfl rfl tl0,hm14.keep rfl rfl tl0,hm15.keep rfl rfl tl0,hm16.keep rfl rfl tl0,(fun _=>upd_same _ _ _),(kpZ tl0 hq19),?_,S.ins (P:=[oB b54 zo (Term.C tmZ)])⟩)
  rw [hP,hY]; simp only [pN L 18 19,yh (L:=L) (i:=18),hl19,cond_true,cond_false,List.nil_append,List.append_assoc,List.cons_append]
 ·rintro L g v hL hcl hclo ⟨b38,s40,O42,Z41,hZ,hm13,hm14,hm15,hm16,hk18,hq19,hO,S⟩ _ _
  obtain ⟨s36,he16,hp16⟩ := hm16 (hcl 16 zbM)
  have hl18:L 18=true:=hcl 18 zbM
  have hl19:L 19=false:=hL
  have hOP : ∃ P Y,P=[]∧Y=LT2∧O42=P ++ ([oB b38 zo (Term.C tmZ)] ++ Y):=⟨_,_,rfl,rfl,by rw [hO]; simp only [hl18,hl19,cond_true,cond_false,List.nil_append,List.append_assoc,List.cons_append]⟩
  obtain ⟨P,Y,hP,hY,hPY⟩ := hOP
  rw [hPY] at S
  replace S:=(S.ins.zneed (xP (l1:=[zg s36 r33.1.sub]) hp16 hZ))
  refine wsT (hk18 (hcl 18 zbM)) he16 (S.blk 0) fun w55 B hw55 zw55=>?_
  replace S:=S.store 0 B hw55
  clear B
  refine zb (ob40 trivial (fun _=>trivial) ⟨b38,s36,P ++ ([oB b38 zo (tmC r33.1 s36)] ++ Y),_,(fun z h=>tl10 z (hZ z h)),hm13.keep0 rfl tl10,hm14.keep0 rfl tl10,hm15.keep0 rfl tl10,hm16.keep0 rfl tl10,(kpP hk18),(fun _ z q=>tl10 z (hp16 z q)),?_,S.ins (P:=[oB b38 zo (tmC r33.1 s36)])⟩)
  rw [hP,hY]; simp only [pN L 19 18,yh (L:=L) (i:=19),hl18,cond_true,cond_false,List.nil_append,List.append_assoc,List.cons_append]
 rintro L g w56 hLm ⟨b38,s40,O42,Z41,hZ,hm13,hm14,hm15,hm16,hk18,hq19,hO,S⟩ hv57_0 hv57_1 hv57_2 hv57_3 hv57_4 hv57_5 hv57_6 hv57_7 hv57_8 hv57_9 hv57_10 hv57_11 hv57_12 _ _ _ _ hv57_17 _ _
 have hLt : ∀ j,j < 20→L j=true:=fun j hj=>by rw [hLm]; exact decide_eq_true hj
 obtain ⟨s32,hv57_13,hp13⟩ := hm13 (hLt 13 zbJ)
 obtain ⟨s36,hv57_16,hp16⟩ := hm16 (hLt 16 zbJ)
 have hv57_18:=hk18 (hLt 18 zbJ)
 simp only [hLt 18 zbJ,hLt 19 zbJ,cond_true,List.nil_append,List.cons_append] at hO
 rw [hO] at S
 replace hq19:=hq19 (hLt 19 zbJ)
 replace S:=S.pickZ (xP (l1:=[zg s32 r29.sub]) hp13 (xP (l1:=[zg s36 r33.1.sub]) hp16 (xP (l1:=[zg s40 r33.1.sub]) hq19 hZ)))
 clear hp13 hp16 hZ hm13 hm14 hm15 hm16
 refine wd (zh hv57_17) (zb (zd ?_))
 obtain ⟨r68,er68,H⟩ := zq H
 obtain ⟨r71,er71,H⟩ := zq H
 let LT1:List OA:=[zg s32 r29.sub,zg s36 r33.1.sub,zg s40 r33.1.sub,zg s9 ((kd (kd a1 0) 0).sub),zg s6 ((kd a1 0).sub),oT a_0 a0,zg s_1 a1.sub,oPw,oCl s9.blk (s9.off + Int.toNat 0 * 5) (tmC (kd (kd (kd a1 0) 0) 0) s23),zg s23 ((kd (kd (kd a1 0) 0) 0).sub),oCl s_1.blk (s_1.off + Int.toNat 1 * 5) (tmC (kd a1 1) s25),zg s25 ((kd a1 1).sub)]
 let LT3:List OA:=[oB b38 zo (tmC r33.1 s40),oB b12 zo (tmC (kd (kd a1 0) 0) s9),oB b2 zo (tmC a1 s_1)]
 refine vz 7 ⟨fun _ _=>True,fun _ _ _=>True,fun i v _=>match i with
  | 0=>v=Value.agg (tmC r33.1 s40).toArray
  | 1=>v=Value.pointer a_0
  | 2=>v=Value.agg (tmC a1 s_1).toArray
  | 3=>v=Value.int .i64 r68
  | 5=>v=Value.int .i64 r33.2
  | _=>True⟩ (fun L g v=>bif L 6 then (∃ (s74:SlV),(L 4=true→g 38=Value.agg (tmC r71 s74).toArray)∧St A N w v (oB b4 zo (tmC r71 s74) :: LT3) (zg s74 r71.sub :: LT1)) else bif L 4 then (∃ (s74:SlV),(L 4=true→g 38=Value.agg (tmC r71 s74).toArray)∧St A N w v (oB b38 zo (tmC r33.1 s40) :: LT2) (zg s74 r71.sub :: LT1)) else (St A N w v (oB b38 zo (tmC r33.1 s40) :: LT2) LT1)) hmix zbM (fun _ _ _ _ _ _ _ hv=>hv) (fun g=>S.ext (Ext.drawn _)) ⟨?_,?_,?_,?_,?_,?_,?_,trivial⟩ ?_
 ·rintro L g v hL hcl hclo hT 
  have hl4:L 4=false:=clF hL fun h=>hclo 4 0 h zbM
  have hl6:L 6=false:=clF hL fun h=>hclo 6 0 h zbM
  simp only [hl4,hl6,cond_true,cond_false] at hT
  replace S:=hT
  refine wd (zm zS hv57_18 ((S.blk 0).all _ (Term.len _)) (Term.len _)) ?_
  exact zb (ob4 trivial rfl (by simp only [pN L 0 4,pN L 0 6,hl4,hl6,cond_true,cond_false]; exact S))
 ·rintro L g v hL hcl hclo hT 
  have hl4:L 4=false:=clF hL fun h=>hclo 4 1 h zbM
  have hl6:L 6=false:=clF hL fun h=>hclo 6 1 h zbM
  simp only [hl4,hl6,cond_true,cond_false] at hT
  replace S:=hT
  refine wd (zu rfl) ?_
  exact zb (ob4 trivial rfl (by simp only [pN L 1 4,pN L 1 6,hl4,hl6,cond_true,cond_false]; exact S))
 ·rintro L g v hL hcl hclo hT 
  have hl4:L 4=false:=clF hL fun h=>hclo 4 2 h zbM
  have hl6:L 6=false:=clF hL fun h=>hclo 6 2 h zbM
  simp only [hl4,hl6,cond_true,cond_false] at hT
  replace S:=hT
  refine wd (ldT rfl (S.blk 3)) ?_
  exact zb (ob4 trivial rfl (by simp only [pN L 2 4,pN L 2 6,hl4,hl6,cond_true,cond_false]; exact S))
 ·rintro L g v hL hcl hclo hT hv1 hv2
  have hl4:L 4=false:=clF hL fun h=>hclo 4 3 h zbM
  have hl6:L 6=false:=clF hL fun h=>hclo 6 3 h zbM
  simp only [hl4,hl6,cond_true,cond_false] at hT
  replace S:=hT
  obtain ⟨B78,MB78,SB78,back⟩ := S.calln 0 ((.z 5 rfl (.z 6 rfl .nil)))
  refine zw (zF j7 (zK hv1 (zK hv2 (zK rfl rfl)))) zbJ (kh (a1:=a1) SB78 er68) ?_
  rintro _ w77 ⟨rfl,S2⟩
  replace S:=back _ _ _ _ S2 rfl
  clear back S2 SB78
  exact zb (ob4 trivial rfl (by simp only [pN L 3 4,pN L 3 6,hl4,hl6,cond_true,cond_false]; exact S))
 ·rintro L g v hL hcl hclo hT hv0 hv3
  have hl4:L 4=false:=hL
  have hl6:L 6=false:=clF hL fun h=>hclo 6 4 h zbM
  simp only [hl4,hl6,cond_true,cond_false] at hT
  replace S:=hT
  obtain ⟨B81,MB81,SB81,back⟩ := S.sub [2] [] (oB b38 zo (tmC r33.1 s40) :: LT2)
  refine zw (zF kL (zK hv0 (zK hv3 rfl))) zbJ (kN (a0:=r33.1) SB81 er71) ?_
  rintro _ w80 ⟨s74,rfl,S2⟩
  replace S:=back _ _ _ _ _ S2 rfl rfl
  clear back S2 SB81
  have hT2 : ∃ (s74':SlV),((plus L 4) 4=true→(upd g 38 (Value.agg (tmC r71 s74).toArray)) 38=Value.agg (tmC r71 s74').toArray)∧St A N w w80 (oB b38 zo (tmC r33.1 s40) :: LT2) (zg s74' r71.sub :: LT1):=⟨s74,fun _=>upd_same _ _ _,S⟩
  exact zb (ob4 trivial trivial (by simp only [pN L 4 6,yh (L:=L) (i:=4),hl6,cond_true,cond_false] at hT2 ⊢; exact hT2))
 ·rintro L g v hL hcl hclo hT 
  cases hl6:L 6 with
  | true =>
   replace hT : ∃ (s74:SlV),(L 4=true→g 38=Value.agg (tmC r71 s74).toArray)∧St A N w v (oB b4 zo (tmC r71 s74) :: LT3) (zg s74 r71.sub :: LT1):=by simp only [hl6,cond_true,cond_false] at hT ⊢; exact hT
   obtain ⟨s74,he4,S⟩ := hT
   refine wd (zj rfl) ?_
   have hT2 : ∃ (s74':SlV),((plus L 5) 4=true→(upd g 39 (Value.int .i64 r33.2)) 38=Value.agg (tmC r71 s74').toArray)∧St A N w v (oB b4 zo (tmC r71 s74') :: LT3) (zg s74' r71.sub :: LT1):=⟨s74,kpU he4,S⟩
   exact zb (ob4 trivial rfl (by simp only [pN L 5 4,pN L 5 6,hl6,cond_true,cond_false] at hT2 ⊢; exact hT2))
  | false =>
   cases hl4:L 4 with
   | true =>
    replace hT : ∃ (s74:SlV),(L 4=true→g 38=Value.agg (tmC r71 s74).toArray)∧St A N w v (oB b38 zo (tmC r33.1 s40) :: LT2) (zg s74 r71.sub :: LT1):=by simp only [hl4,hl6,cond_true,cond_false] at hT ⊢; exact hT
    obtain ⟨s74,he4,S⟩ := hT
    refine wd (zj rfl) ?_
    have hT2 : ∃ (s74':SlV),((plus L 5) 4=true→(upd g 39 (Value.int .i64 r33.2)) 38=Value.agg (tmC r71 s74').toArray)∧St A N w v (oB b38 zo (tmC r33.1 s40) :: LT2) (zg s74' r71.sub :: LT1):=⟨s74,kpU he4,S⟩
    exact zb (ob4 trivial rfl (by simp only [pN L 5 4,pN L 5 6,hl4,hl6,cond_true,cond_false] at hT2 ⊢; exact hT2))
   | false =>
    simp only [hl4,hl6,cond_true,cond_false] at hT
    replace S:=hT
    refine wd (zj rfl) ?_
    exact zb (ob4 trivial rfl (by simp only [pN L 5 4,pN L 5 6,hl4,hl6,cond_true,cond_false]; exact S))
 ·rintro L g v hL hcl hclo hT hv4
  have hl4:L 4=true:=hcl 4 zbM
  have hl6:L 6=false:=hL
  replace hT : ∃ (s74:SlV),(L 4=true→g 38=Value.agg (tmC r71 s74).toArray)∧St A N w v (oB b38 zo (tmC r33.1 s40) :: LT2) (zg s74 r71.sub :: LT1):=by simp only [hl4,hl6,cond_true,cond_false] at hT ⊢; exact hT
  obtain ⟨s74,he4,S⟩ := hT
  refine wsT rfl (he4 (hcl 4 zbM)) (S.blk 2) fun w82 B hw82 zw82=>?_
  replace S:=S.store 2 B hw82
  clear B
  have hT2 : ∃ (s74':SlV),((plus L 6) 4=true→g 38=Value.agg (tmC r71 s74').toArray)∧St A N w w82 (oB b4 zo (tmC r71 s74') :: LT3) (zg s74' r71.sub :: LT1):=⟨s74,kpP he4,S⟩
  exact zb (ob40 trivial (fun _=>trivial) (by simp only [pN L 6 4,yh (L:=L) (i:=6),cond_true,cond_false] at hT2 ⊢; exact hT2))
 rintro L g w83 hLm hT hv84_0 hv84_1 hv84_2 hv84_3 _ hv84_5 _
 have hLt : ∀ j,j < 7→L j=true:=fun j hj=>by rw [hLm]; exact decide_eq_true hj
 replace hT : ∃ (s74:SlV),(L 4=true→g 38=Value.agg (tmC r71 s74).toArray)∧St A N w w83 (oB b4 zo (tmC r71 s74) :: LT3) (zg s74 r71.sub :: LT1):=by simp only [hLt 6 zbJ,cond_true] at hT ⊢; exact hT
 obtain ⟨s74,he4,S⟩ := hT
 have hv84_4:=he4 (hLt 4 zbJ)
 replace S:=S
 refine wd (zh hv84_5) (zb (zr ?_))
 refine ⟨_,(xe (rtT rfl (S.blk 0)) (ze rfl)),?_⟩
 replace S:=S.arr [] [0]
 obtain rfl:=zbN H
 exact ⟨s74,rfl,S⟩
theorem reduce_into_st {a0:PTerm} {s_0:SlV} {a1:PTerm} {s_1:SlV} {a2:Bool} (S:St A N w w [] [zg s_0 a0.sub,zg s_1 a1.sub,oPw]) {k:Nat} {r:PTerm × Int} (H:zcV.f k a0 a1 a2=some r) :
  Calls PP F_reduce_into #[.agg (tmC a0 s_0).toArray,.agg (tmC a1 s_1).toArray,.bool a2] w fun e w' => ∃ v,e = .returned v∧(∃ so0:SlV,v = .tuple #[.agg (tmC r.1 so0).toArray,.int .i64 r.2]∧St A N w w' [] [zg so0 r.1.sub]):=by
 unfold zcV.f at H
 refine zx (n:=29) fn_reduce_into rfl rfl zbL (zd (za ?_))
 refine zE rfl zbJ fun b2 w1 hw1=>?_
 replace S:=S.new hw1
 refine zE rfl zbJ fun b4 w3 hw3=>?_
 replace S:=S.new hw3
 refine zP xy zbJ fun b6 w5 hw5=>?_
 replace S:=S.new hw5
 refine wd (zh rfl) (zb (zd (zd (za (wd (zA rfl) (zb ?_))))))
 refine zJ rfl (fun hc7=>?_) (fun hc7=>?_)
 ·replace H:=if_t hc7 H
  refine zd ?_
  refine wc_ws hmix fun w12 K=>?_
  replace S:=S.ext K
  clear K
  obtain ⟨hi13,H⟩ := xb H
  obtain ⟨s14,hc15,S⟩ := S.viewTerm 0 (zL hi13)
  replace S:=S.zs [1,2,3,0]
  refine vp 0 7 [] zbM zbJ zbM
   (V:=fun i v u=>match i with
   | _=>True) ?_ ?_
  ·intro i v u u' hi hx hv
   match i,hv with
   | _,_=>exact trivial
  refine zC (fun v K=>zf zG rfl (o':=4) rfl) rfl (zC (fun v K=>zl zB rfl (((S.ext K).blk 2).cell (Term.get_sub _))) rfl (zC (fun v K=>does_indexF zz rfl rfl ((S.ext K).onZ 0) (zL hi13).1 (zL hi13).2) rfl (zC (fun v K=>zm zS rfl (hc15.chg K (fun x=>x)) (Term.len _)) rfl (zC (fun v K=>zf vH rfl (o':=2) rfl) rfl (zC (fun v K=>zl xl rfl (((S.ext K).blk 2).cell (Term.get_other _))) rfl ?_)))))
  refine zC (fun v K=>zm zS rfl (((S.ext K).blk 1).all _ (Term.len _)) (Term.len _)) rfl ?_
  refine y6 fun g w16 K hV=>?_
  replace S:=S.ext K
  clear K hV
  refine jE 7 8 zbM zbJ ?_
  obtain ⟨r18,er18,H⟩ := zq H
  obtain ⟨B20,MB20,SB20,back⟩ := S.sub [3,1,2] [] [oB b6 zo (Term.C tmZ),oB b4 zo (tmC a1 s_1),oB b2 zo (tmC a0 s_0)]
  refine zw (zt kY) zbJ (zag (a0:=(kd a0 2)) (a2:=a1) SB20 er18) ?_
  rintro _ w19 ⟨s21,rfl,S2⟩
  replace S:=back _ _ _ _ _ S2 rfl rfl
  clear back S2 SB20
  refine zb ⟨rfl,?_⟩
  refine vp 8 10 [] zbM zbJ zbM
   (V:=fun i v u=>match i with
   | _=>True) ?_ ?_
  ·intro i v u u' hi hx hv
   match i,hv with
   | _,_=>exact trivial
  refine zC (fun v K=>zn rfl rfl) rfl (zC (fun v K=>zn rfl rfl) rfl ?_)
  refine y6 fun g w22 K hV=>?_
  replace S:=S.ext K
  clear K hV
  refine kP 10 zbM zbJ ?_
  refine wsT rfl rfl (S.blk 0) fun w24 B hw24 zw24=>?_
  replace S:=S.store 0 B hw24
  clear B
  refine wd (zh rfl) (zb (zr ?_))
  refine ⟨_,(xe (rtT rfl (S.blk 0)) (ze rfl)),?_⟩
  replace S:=S.arr [] [0]
  obtain rfl:=zbN H
  exact ⟨s21,rfl,S⟩
 replace H:=if_f hc7 H
 refine zy (zd ?_)
 refine wc_ws hmix fun w29 K=>?_
 replace S:=S.ext K
 clear K
 obtain ⟨hi30,H⟩ := xb H
 obtain ⟨s31,hc32,S⟩ := S.viewTerm 0 (zL hi30)
 replace S:=S.zs [1,2,3,0]
 refine vp 0 7 [] zbM zbJ zbM
  (V:=fun i v u=>match i with
  | _=>True) ?_ ?_
 ·intro i v u u' hi hx hv
  match i,hv with
  | _,_=>exact trivial
 refine zC (fun v K=>zf zG rfl (o':=4) rfl) rfl (zC (fun v K=>zl zB rfl (((S.ext K).blk 2).cell (Term.get_sub _))) rfl (zC (fun v K=>does_indexF zz rfl rfl ((S.ext K).onZ 0) (zL hi30).1 (zL hi30).2) rfl (zC (fun v K=>zm zS rfl (hc32.chg K (fun x=>x)) (Term.len _)) rfl (zC (fun v K=>zf xH rfl (o':=1) rfl) rfl (zC (fun v K=>zl xl rfl (((S.ext K).blk 2).cell (Term.get_name _))) rfl ?_)))))
 refine zC (fun v K=>zm zS rfl (((S.ext K).blk 1).all _ (Term.len _)) (Term.len _)) rfl ?_
 refine y6 fun g w33 K hV=>?_
 replace S:=S.ext K
 clear K hV
 refine jE 7 8 zbM zbJ ?_
 obtain ⟨r35,er35,H⟩ := zq H
 obtain ⟨B37,MB37,SB37,back⟩ := S.sub [3,1,2] [] [oB b6 zo (Term.C tmZ),oB b4 zo (tmC a1 s_1),oB b2 zo (tmC a0 s_0)]
 refine zw (zt kY) zbJ (zag (a0:=(kd a0 1)) (a2:=a1) SB37 er35) ?_
 rintro _ w36 ⟨s38,rfl,S2⟩
 replace S:=back _ _ _ _ _ S2 rfl rfl
 clear back S2 SB37
 refine zb ⟨rfl,?_⟩
 refine vp 8 10 [] zbM zbJ zbM
  (V:=fun i v u=>match i with
  | _=>True) ?_ ?_
 ·intro i v u u' hi hx hv
  match i,hv with
  | _,_=>exact trivial
 refine zC (fun v K=>zn rfl rfl) rfl (zC (fun v K=>zn rfl rfl) rfl ?_)
 refine y6 fun g w39 K hV=>?_
 replace S:=S.ext K
 clear K hV
 refine kP 10 zbM zbJ ?_
 refine wsT rfl rfl (S.blk 0) fun w41 B hw41 zw41=>?_
 replace S:=S.store 0 B hw41
 clear B
 refine wd (zh rfl) (zb (zr ?_))
 refine ⟨_,(xe (rtT rfl (S.blk 0)) (ze rfl)),?_⟩
 replace S:=S.arr [] [0]
 obtain rfl:=zbN H
 exact ⟨s38,rfl,S⟩
theorem reduce_rules_10_st {a0:Tb} {a_0:Option Addr} {a1:PTerm} {s_1:SlV} (S:St A N w w [] [oT a_0 a0,zg s_1 a1.sub,oPw]) {k:Nat} {r:PTerm × Int} (H:zcW.f k a0 a1=some r) :
  Calls PP vi #[.pointer a_0,.agg (tmC a1 s_1).toArray] w fun e w' => ∃ v,e = .returned v∧(∃ so0:SlV,v = .tuple #[.agg (tmC r.1 so0).toArray,.int .i64 r.2]∧St A N w w' [] [zg so0 r.1.sub]):=by
 unfold zcW.f at H
 refine zx (n:=25) fn_reduce_rules_10 rfl rfl zbL (zd (za ?_))
 refine zE rfl zbJ fun b2 w1 hw1=>?_
 replace S:=S.new hw1
 refine zP xy zbJ fun b4 w3 hw3=>?_
 replace S:=S.new hw3
 refine wd (zh rfl) (zb (zd (za (wd (ldT rfl (S.blk 1)) ?_))))
 obtain ⟨r5,er5,H⟩ := zq H
 obtain ⟨B7,MB7,SB7,back⟩ := S.calln 0 ((.z 1 rfl .nil))
 refine zw (zt zaK) zbJ (zaS (a0:=a1) SB7 er5) ?_
 rintro _ w6 ⟨rfl,S2⟩
 replace S:=back _ _ _ _ S2 rfl
 clear back S2 SB7
 refine wd (zX rfl) (wd (zn rfl rfl) (wd (zn rfl rfl) (wd (zi rfl) (wd (zi rfl) (zb (zd ?_))))))
 refine wc_ws hmix fun w15 K=>?_
 replace S:=S.ext K
 clear K
 obtain ⟨hi16,H⟩ := xb H
 obtain ⟨s17,hc18,S⟩ := S.viewTerm 1 (zL hi16)
 replace S:=S.zs [1,2,3,0]
 obtain ⟨hi19,H⟩ := xb H
 obtain ⟨s20,hc21,S⟩ := S.viewTerm 3 (zL hi19)
 replace S:=S.zs [1,2,3,4,0]
 refine vp 0 9 [] zbM zbJ zbM
  (V:=fun i v u=>match i with
  | _=>True) ?_ ?_
 ·intro i v u u' hi hx hv
  match i,hv with
  | _,_=>exact trivial
 refine zC (fun v K=>zm zS rfl (((S.ext K).blk 1).all _ (Term.len _)) (Term.len _)) rfl (zC (fun v K=>zf zG rfl (o':=4) rfl) rfl (zC (fun v K=>zl zB rfl (((S.ext K).blk 1).cell (Term.get_sub _))) rfl (zC (fun v K=>does_indexF zz rfl rfl ((S.ext K).onZ 1) (zL hi16).1 (zL hi16).2) rfl (zC (fun v K=>zf zG rfl (o':=_) rfl) rfl (zC (fun v K=>zl zB rfl ((hc18.chg K (fun x=>x)).get (Term.get_sub _))) rfl ?_)))))
 refine zC (fun v K=>does_indexF zz rfl rfl ((S.ext K).onZ 3) (zL hi19).1 (zL hi19).2) rfl (zC (fun v K=>zm zS rfl (hc21.chg K (fun x=>x)) (Term.len _)) rfl (zC (fun v K=>zA rfl) rfl ?_))
 refine y6 fun g w22 K hV=>?_
 replace S:=S.ext K
 clear K hV
 refine jE 9 10 zbM zbJ ?_
 obtain ⟨r24,er24,H⟩ := zq H
 obtain ⟨B26,MB26,SB26,back⟩ := S.sub [1,4,2] [] [oB b4 zo (Term.C tmZ),oB b2 zo (tmC a1 s_1)]
 refine zw (zt ca_reduce_into) zbJ (reduce_into_st (a0:=a1) (a1:=(kd (kd a1 0) 0)) SB26 er24) ?_
 rintro _ w25 ⟨s27,rfl,S2⟩
 replace S:=back _ _ _ _ _ S2 rfl rfl
 clear back S2 SB26
 refine zb ⟨rfl,?_⟩
 refine vp 10 12 [] zbM zbJ zbM
  (V:=fun i v u=>match i with
  | _=>True) ?_ ?_
 ·intro i v u u' hi hx hv
  match i,hv with
  | _,_=>exact trivial
 refine zC (fun v K=>zn rfl rfl) rfl (zC (fun v K=>zn rfl rfl) rfl ?_)
 refine y6 fun g w28 K hV=>?_
 replace S:=S.ext K
 clear K hV
 refine kP 12 zbM zbJ ?_
 refine wsT rfl rfl (S.blk 0) fun w30 B hw30 zw30=>?_
 replace S:=S.store 0 B hw30
 clear B
 refine wd (zh rfl) (zb (zr ?_))
 refine ⟨_,(xe (rtT rfl (S.blk 0)) (ze rfl)),?_⟩
 replace S:=S.arr [] [0]
 obtain rfl:=zbN H
 exact ⟨s27,rfl,S⟩
theorem reduce_rules_12_st {a0:Tb} {a_0:Option Addr} {a1:PTerm} {s_1:SlV} (S:St A N w w [] [oT a_0 a0,zg s_1 a1.sub,oPw]) {k:Nat} {r:PTerm × Int} (H:zcX.f k a0 a1=some r) :
  Calls PP vj #[.pointer a_0,.agg (tmC a1 s_1).toArray] w fun e w' => ∃ v,e = .returned v∧(∃ so0:SlV,v = .tuple #[.agg (tmC r.1 so0).toArray,.int .i64 r.2]∧St A N w w' [] [zg so0 r.1.sub]):=by
 unfold zcX.f at H
 refine zx (n:=34) fn_reduce_rules_12 rfl rfl zbL (zd (za ?_))
 refine zE rfl zbJ fun b2 w1 hw1=>?_
 replace S:=S.new hw1
 refine zP xy zbJ fun b4 w3 hw3=>?_
 replace S:=S.new hw3
 refine wd (zh rfl) (zb (zd (za (wd (zu rfl) (wd (ldT rfl (S.blk 1)) ?_)))))
 obtain ⟨r5,er5,H⟩ := zq H
 obtain ⟨B7,MB7,SB7,back⟩ := S.calln 0 ((.z 0 rfl (.z 1 rfl .nil)))
 refine zw (zt ca_reduce_told) zbJ (reduce_told_st (a1:=a1) SB7 er5) ?_
 rintro _ w6 ⟨rfl,S2⟩
 replace S:=back _ _ _ _ S2 rfl
 clear back S2 SB7
 refine wd (zX rfl) (wd (zn rfl rfl) (wd (zn rfl rfl) (wd (zi rfl) (wd (zi rfl) (zb (zd ?_))))))
 obtain ⟨hi31,H⟩ := xb H
 obtain ⟨hi33,H⟩ := xb H
 obtain ⟨hi35,H⟩ := xb H
 obtain ⟨r37,er37,H⟩ := zq H
 obtain ⟨r40,er40,H⟩ := zq H
 obtain ⟨r44,er44,H⟩ := zq H
 obtain ⟨s32,S⟩ := S.viewTermC 1 (zL hi31)
 replace S:=S
 obtain ⟨s34,S⟩ := S.viewTermC 1 (zL hi33)
 replace S:=S
 obtain ⟨s36,S⟩ := S.viewTermC 1 (zL hi35)
 replace S:=S.zs [6,7,8,4,5,2,3,0,1]
 refine vz 20 ⟨fun _ _=>True,fun _ _ _=>True,fun i v _=>match i with
  | 0=>v=Value.agg (tmC a1 s_1).toArray
  | 1=>v=Value.pointer (some ⟨b2,4,none⟩)
  | 2=>v=s_1.v
  | 3=>v=Value.pointer (some ⟨s_1.blk,s_1.off + Int.toNat 0 * 5,none⟩)
  | 4=>v=Value.pointer (some ⟨s_1.blk,s_1.off + Int.toNat 0 * 5 + 4,none⟩)
  | 5=>v=s32.v
  | 6=>v=Value.pointer (some ⟨s32.blk,s32.off + Int.toNat 0 * 5,none⟩)
  | 7=>v=Value.pointer (some ⟨s32.blk,s32.off + Int.toNat 0 * 5 + 4,none⟩)
  | 8=>v=s34.v
  | 9=>v=Value.pointer (some ⟨s34.blk,s34.off + Int.toNat 0 * 5,none⟩)
  | 10=>v=Value.agg (tmC (kd (kd (kd a1 0) 0) 0) s36).toArray
  | 11=>v=Value.pointer a_0
  | 12=>v=Value.agg (tmC a1 s_1).toArray
  | 13=>v=Value.bool r5.1
  | 14=>v=Value.int .i64 r37
  | 16=>v=Value.bool r5.1
  | 19=>v=Value.int .i64 r44.2
  | _=>True⟩ (fun L g v => ∃ Z48:List OA,(∀ z ∈ [oT a_0 a0,zg s_1 a1.sub,oPw,oCl s_1.blk (s_1.off + Int.toNat 0 * 5) (tmC (kd a1 0) s32),zg s32 ((kd a1 0).sub),oCl s32.blk (s32.off + Int.toNat 0 * 5) (tmC (kd (kd a1 0) 0) s34),zg s34 ((kd (kd a1 0) 0).sub),oCl s34.blk (s34.off + Int.toNat 0 * 5) (tmC (kd (kd (kd a1 0) 0) 0) s36),zg s36 ((kd (kd (kd a1 0) 0) 0).sub)],z ∈ Z48)∧Made L g Z48 15 29 (fun (c:SlV)=>Value.agg (tmC r40 c).toArray) (fun (c:SlV)=>[zg c r40.sub])∧Made L g Z48 17 31 (fun (c:SlV)=>Value.tuple #[.agg (tmC r44.1 c).toArray,.int .i64 r44.2]) (fun (c:SlV)=>[zg c r44.1.sub])∧Made L g Z48 18 32 (fun (c:SlV)=>Value.agg (tmC r44.1 c).toArray) (fun (c:SlV)=>[zg c r44.1.sub])∧St A N w v [oB b4 zo (Term.C tmZ),oB b2 zo (tmC a1 s_1)] Z48) hmix zbM (fun _ _ _ _ _ _ _ hv=>hv) (fun g=>⟨_,fun _ h=>h,Made.no,Made.no,Made.no,S.ext (Ext.drawn _)⟩) ⟨?_,?_,?_,?_,?_,?_,?_,?_,?_,?_,?_,?_,?_,?_,?_,?_,?_,?_,?_,?_,trivial⟩ ?_
 ·rintro L g v hL hcl hclo ⟨Z48,hZ,hm15,hm17,hm18,S⟩ 
  refine wd (ldT rfl (S.blk 1)) ?_
  exact zb (ob4 trivial rfl ⟨_,hZ,hm15.keep rfl rfl tl0,hm17.keep rfl rfl tl0,hm18.keep rfl rfl tl0,S⟩)
 ·rintro L g v hL hcl hclo ⟨Z48,hZ,hm15,hm17,hm18,S⟩ 
  refine wd (zf zG rfl (o':=4) rfl) ?_
  exact zb (ob4 trivial rfl ⟨_,hZ,hm15.keep rfl rfl tl0,hm17.keep rfl rfl tl0,hm18.keep rfl rfl tl0,S⟩)
 ·rintro L g v hL hcl hclo ⟨Z48,hZ,hm15,hm17,hm18,S⟩ hv1
  refine wd (zl zB hv1 ((S.blk 1).cell (Term.get_sub _))) ?_
  exact zb (ob4 trivial rfl ⟨_,hZ,hm15.keep rfl rfl tl0,hm17.keep rfl rfl tl0,hm18.keep rfl rfl tl0,S⟩)
 ·rintro L g v hL hcl hclo ⟨Z48,hZ,hm15,hm17,hm18,S⟩ hv2
  replace S:=(S.zneed hZ)
  refine wd (does_indexF zz hv2 rfl (S.onZ 1) (zL hi31).1 (zL hi31).2) ?_
  exact zb (ob4 trivial rfl ⟨_,(fun z h=>tl9 z (hZ z h)),hm15.keep rfl rfl tl9,hm17.keep rfl rfl tl9,hm18.keep rfl rfl tl9,S⟩)
 ·rintro L g v hL hcl hclo ⟨Z48,hZ,hm15,hm17,hm18,S⟩ hv3
  refine wd (zf zG hv3 (o':=_) rfl) ?_
  exact zb (ob4 trivial rfl ⟨_,hZ,hm15.keep rfl rfl tl0,hm17.keep rfl rfl tl0,hm18.keep rfl rfl tl0,S⟩)
 ·rintro L g v hL hcl hclo ⟨Z48,hZ,hm15,hm17,hm18,S⟩ hv4
  replace S:=(S.zneed hZ)
  refine wd (zl zB hv4 ((S.cl 3).get (Term.get_sub _))) ?_
  exact zb (ob4 trivial rfl ⟨_,(fun z h=>tl9 z (hZ z h)),hm15.keep rfl rfl tl9,hm17.keep rfl rfl tl9,hm18.keep rfl rfl tl9,S⟩)
 ·rintro L g v hL hcl hclo ⟨Z48,hZ,hm15,hm17,hm18,S⟩ hv5
  replace S:=(S.zneed hZ)
  refine wd (does_indexF zz hv5 rfl (S.onZ 4) (zL hi33).1 (zL hi33).2) ?_
  exact zb (ob4 trivial rfl ⟨_,(fun z h=>tl9 z (hZ z h)),hm15.keep rfl rfl tl9,hm17.keep rfl rfl tl9,hm18.keep rfl rfl tl9,S⟩)
 ·rintro L g v hL hcl hclo ⟨Z48,hZ,hm15,hm17,hm18,S⟩ hv6
  refine wd (zf zG hv6 (o':=_) rfl) ?_
  exact zb (ob4 trivial rfl ⟨_,hZ,hm15.keep rfl rfl tl0,hm17.keep rfl rfl tl0,hm18.keep rfl rfl tl0,S⟩)
 ·rintro L g v hL hcl hclo ⟨Z48,hZ,hm15,hm17,hm18,S⟩ hv7
  replace S:=(S.zneed hZ)
  refine wd (zl zB hv7 ((S.cl 5).get (Term.get_sub _))) ?_
  exact zb (ob4 trivial rfl ⟨_,(fun z h=>tl9 z (hZ z h)),hm15.keep rfl rfl tl9,hm17.keep rfl rfl tl9,hm18.keep rfl rfl tl9,S⟩)
 ·rintro L g v hL hcl hclo ⟨Z48,hZ,hm15,hm17,hm18,S⟩ hv8
  replace S:=(S.zneed hZ)
  refine wd (does_indexF zz hv8 rfl (S.onZ 6) (zL hi35).1 (zL hi35).2) ?_
  exact zb (ob4 trivial rfl ⟨_,(fun z h=>tl9 z (hZ z h)),hm15.keep rfl rfl tl9,hm17.keep rfl rfl tl9,hm18.keep rfl rfl tl9,S⟩)
 ·rintro L g v hL hcl hclo ⟨Z48,hZ,hm15,hm17,hm18,S⟩ hv9
  replace S:=(S.zneed hZ)
  refine wd (zm zS hv9 (S.cl 7) (Term.len _)) ?_
  exact zb (ob4 trivial rfl ⟨_,(fun z h=>tl9 z (hZ z h)),hm15.keep rfl rfl tl9,hm17.keep rfl rfl tl9,hm18.keep rfl rfl tl9,S⟩)
 ·rintro L g v hL hcl hclo ⟨Z48,hZ,hm15,hm17,hm18,S⟩ 
  refine wd (zu rfl) ?_
  exact zb (ob4 trivial rfl ⟨_,hZ,hm15.keep rfl rfl tl0,hm17.keep rfl rfl tl0,hm18.keep rfl rfl tl0,S⟩)
 ·rintro L g v hL hcl hclo ⟨Z48,hZ,hm15,hm17,hm18,S⟩ 
  refine wd (ldT rfl (S.blk 1)) ?_
  exact zb (ob4 trivial rfl ⟨_,hZ,hm15.keep rfl rfl tl0,hm17.keep rfl rfl tl0,hm18.keep rfl rfl tl0,S⟩)
 ·rintro L g v hL hcl hclo ⟨Z48,hZ,hm15,hm17,hm18,S⟩ 
  refine wd (zA rfl) ?_
  exact zb (ob4 trivial rfl ⟨_,hZ,hm15.keep rfl rfl tl0,hm17.keep rfl rfl tl0,hm18.keep rfl rfl tl0,S⟩)
 ·rintro L g v hL hcl hclo ⟨Z48,hZ,hm15,hm17,hm18,S⟩ hv11 hv12 hv13
  replace S:=(S.zneed hZ)
  obtain ⟨B55,MB55,SB55,back⟩ := S.calln 0 ((.z 0 rfl (.z 1 rfl .nil)))
  refine zw (zF j7 (zK hv11 (zK hv12 (zK hv13 rfl)))) zbJ (kh (a1:=a1) SB55 er37) ?_
  rintro _ w54 ⟨rfl,S2⟩
  replace S:=back _ _ _ _ S2 rfl
  clear back S2 SB55
  exact zb (ob4 trivial rfl ⟨_,(fun z h=>tl9 z (hZ z h)),hm15.keep rfl rfl tl9,hm17.keep rfl rfl tl9,hm18.keep rfl rfl tl9,S⟩)
 ·rintro L g v hL hcl hclo ⟨Z48,hZ,hm15,hm17,hm18,S⟩ hv10 hv14
  replace S:=(S.zneed hZ)
  obtain ⟨B58,MB58,SB58,back⟩ := S.sub [8] [] [oB b4 zo (Term.C tmZ),oB b2 zo (tmC a1 s_1)]
  refine zw (zF kL (zK hv10 (zK hv14 rfl))) zbJ (kN (a0:=(kd (kd (kd a1 0) 0) 0)) SB58 er40) ?_
  rintro _ w57 ⟨s59,rfl,S2⟩
  replace S:=back _ _ _ _ _ S2 rfl rfl
  clear back S2 SB58
  exact zb (ob4 trivial trivial ⟨_,(fun z h=>tl10 z (hZ z h)),Made.one (val:=(fun (c:SlV)=>Value.agg (tmC r40 c).toArray)) (ps:=(fun (c:SlV)=>[zg c r40.sub])) s59 (yp List.mem_cons_self y7),hm17.keep rfl rfl tl10,hm18.keep rfl rfl tl10,S⟩)
 ·rintro L g v hL hcl hclo ⟨Z48,hZ,hm15,hm17,hm18,S⟩ 
  refine wd (zA rfl) ?_
  exact zb (ob4 trivial rfl ⟨_,hZ,hm15.keep rfl rfl tl0,hm17.keep rfl rfl tl0,hm18.keep rfl rfl tl0,S⟩)
 ·rintro L g v hL hcl hclo ⟨Z48,hZ,hm15,hm17,hm18,S⟩ hv0 _ hv16
  obtain ⟨s43,he15,hp15⟩ := hm15 (hcl 15 zbM)
  replace S:=(S.zneed (xP (l1:=[zg s43 r40.sub]) hp15 hZ))
  obtain ⟨B62,MB62,SB62,back⟩ := S.sub [2,0,3] [] [oB b4 zo (Term.C tmZ),oB b2 zo (tmC a1 s_1)]
  refine zw (zF ca_reduce_into (zK hv0 (zK he15 (zK hv16 rfl)))) zbJ (reduce_into_st (a0:=a1) (a1:=r40) SB62 er44) ?_
  rintro _ w61 ⟨s63,rfl,S2⟩
  replace S:=back _ _ _ _ _ S2 rfl rfl
  clear back S2 SB62
  exact zb (ob4 trivial trivial ⟨_,(fun z h=>tl11 z (hZ z h)),hm15.keep rfl rfl tl11,Made.one (val:=(fun (c:SlV)=>Value.tuple #[.agg (tmC r44.1 c).toArray,.int .i64 r44.2])) (ps:=(fun (c:SlV)=>[zg c r44.1.sub])) s63 (yp List.mem_cons_self y7),hm18.keep rfl rfl tl11,S⟩)
 ·rintro L g v hL hcl hclo ⟨Z48,hZ,hm15,hm17,hm18,S⟩ _
  obtain ⟨s47,he17,hp17⟩ := hm17 (hcl 17 zbM)
  replace S:=(S.zneed (xP (l1:=[zg s47 r44.1.sub]) hp17 hZ))
  refine wd (zn he17 rfl) ?_
  exact zb (ob4 trivial trivial ⟨_,(fun z h=>tl10 z (hZ z h)),hm15.keep rfl rfl tl10,hm17.keep rfl rfl tl10,Made.one (val:=(fun (c:SlV)=>Value.agg (tmC r44.1 c).toArray)) (ps:=(fun (c:SlV)=>[zg c r44.1.sub])) s47 (yp List.mem_cons_self y7),S⟩)
 ·rintro L g v hL hcl hclo ⟨Z48,hZ,hm15,hm17,hm18,S⟩ _
  obtain ⟨s47,he17,hp17⟩ := hm17 (hcl 17 zbM)
  replace S:=(S.zneed (xP (l1:=[zg s47 r44.1.sub]) hp17 hZ))
  refine wd (zn he17 rfl) ?_
  exact zb (ob4 trivial rfl ⟨_,(fun z h=>tl10 z (hZ z h)),hm15.keep rfl rfl tl10,hm17.keep rfl rfl tl10,hm18.keep rfl rfl tl10,S⟩)
 rintro L g w64 hLm ⟨Z48,hZ,hm15,hm17,hm18,S⟩ hv65_0 hv65_1 hv65_2 hv65_3 hv65_4 hv65_5 hv65_6 hv65_7 hv65_8 hv65_9 hv65_10 hv65_11 hv65_12 hv65_13 hv65_14 _ hv65_16 _ _ hv65_19
 have hLt : ∀ j,j < 20→L j=true:=fun j hj=>by rw [hLm]; exact decide_eq_true hj
 obtain ⟨s43,hv65_15,hp15⟩ := hm15 (hLt 15 zbJ)
 obtain ⟨s47,hv65_18,hp18⟩ := hm18 (hLt 18 zbJ)
 replace S:=S.pickZ (xP (l1:=[zg s43 r40.sub]) hp15 (xP (l1:=[zg s47 r44.1.sub]) hp18 hZ))
 clear hp15 hp18 hZ hm15 hm17 hm18
 refine wsT rfl hv65_18 (S.blk 0) fun w66 B hw66 zw66=>?_
 replace S:=S.store 0 B hw66
 clear B
 refine wd (zh hv65_19) (zb (zr ?_))
 refine ⟨_,(xe (rtT rfl (S.blk 0)) (ze rfl)),?_⟩
 replace S:=S.arr [] [1]
 obtain rfl:=zbN H
 exact ⟨s47,rfl,S⟩
theorem reduce_rules_14_st {a0:Tb} {a_0:Option Addr} {a1:PTerm} {s_1:SlV} (S:St A N w w [] [oT a_0 a0,zg s_1 a1.sub,oPw]) {k:Nat} {r:PTerm × Int} (H:zcY.f k a0 a1=some r) :
  Calls PP vk #[.pointer a_0,.agg (tmC a1 s_1).toArray] w fun e w' => ∃ v,e = .returned v∧(∃ so0:SlV,v = .tuple #[.agg (tmC r.1 so0).toArray,.int .i64 r.2]∧St A N w w' [] [zg so0 r.1.sub]):=by
 unfold zcY.f at H
 refine zx (n:=19) fn_reduce_rules_14 rfl rfl zbL (zd (za ?_))
 refine zE rfl zbJ fun b2 w1 hw1=>?_
 replace S:=S.new hw1
 refine zP xy zbJ fun b4 w3 hw3=>?_
 replace S:=S.new hw3
 refine wd (zh rfl) (zb (zd ?_))
 refine wc_ws hmix fun w12 K=>?_
 replace S:=S.ext K
 clear K
 obtain ⟨hi13,H⟩ := xb H
 obtain ⟨s14,hc15,S⟩ := S.viewTerm 1 (zL hi13)
 replace S:=S.zs [1,2,3,0]
 obtain ⟨hi16,H⟩ := xb H
 obtain ⟨s17,hc18,S⟩ := S.viewTerm 1 (zL hi16)
 replace S:=S.zs [1,2,3,4,0]
 refine vp 0 10 [] zbM zbJ zbM
  (V:=fun i v u=>match i with
  | _=>True) ?_ ?_
 ·intro i v u u' hi hx hv
  match i,hv with
  | _,_=>exact trivial
 refine zC (fun v K=>zf zG rfl (o':=4) rfl) rfl (zC (fun v K=>zl zB rfl (((S.ext K).blk 1).cell (Term.get_sub _))) rfl (zC (fun v K=>does_indexF zz rfl rfl ((S.ext K).onZ 1) (zL hi13).1 (zL hi13).2) rfl (zC (fun v K=>zm zS rfl (hc15.chg K (fun x=>x)) (Term.len _)) rfl (zC (fun v K=>zf xH rfl (o':=1) rfl) rfl (zC (fun v K=>zl xl rfl (((S.ext K).blk 1).cell (Term.get_name _))) rfl ?_)))))
 refine zC (fun v K=>zf zG rfl (o':=4) rfl) rfl (zC (fun v K=>zl zB rfl (((S.ext K).blk 1).cell (Term.get_sub _))) rfl (zC (fun v K=>does_indexF zz rfl rfl ((S.ext K).onZ 1) (zL hi16).1 (zL hi16).2) rfl (zC (fun v K=>zm zS rfl (hc18.chg K (fun x=>x)) (Term.len _)) rfl ?_)))
 refine y6 fun g w19 K hV=>?_
 replace S:=S.ext K
 clear K hV
 refine jE 10 11 zbM zbJ ?_
 obtain ⟨r21,er21,H⟩ := zq H
 obtain ⟨B23,MB23,SB23,back⟩ := S.sub [3,4,2] [] [oB b4 zo (Term.C tmZ),oB b2 zo (tmC a1 s_1)]
 refine zw (zt kY) zbJ (zag (a0:=(kd a1 1)) (a2:=(kd a1 0)) SB23 er21) ?_
 rintro _ w22 ⟨s24,rfl,S2⟩
 replace S:=back _ _ _ _ _ S2 rfl rfl
 clear back S2 SB23
 refine zb ⟨rfl,?_⟩
 refine vp 11 13 [] zbM zbJ zbM
  (V:=fun i v u=>match i with
  | _=>True) ?_ ?_
 ·intro i v u u' hi hx hv
  match i,hv with
  | _,_=>exact trivial
 refine zC (fun v K=>zn rfl rfl) rfl (zC (fun v K=>zn rfl rfl) rfl ?_)
 refine y6 fun g w25 K hV=>?_
 replace S:=S.ext K
 clear K hV
 refine kP 13 zbM zbJ ?_
 refine wsT rfl rfl (S.blk 0) fun w27 B hw27 zw27=>?_
 replace S:=S.store 0 B hw27
 clear B
 refine wd (zh rfl) (zb (zr ?_))
 refine ⟨_,(xe (rtT rfl (S.blk 0)) (ze rfl)),?_⟩
 replace S:=S.arr [] [0]
 obtain rfl:=zbN H
 exact ⟨s24,rfl,S⟩
end
section
open Gw Go.RowKit
def kS (i:Int):FuncId:=if i=0 then vI else if i=1 then vJ else if i=2 then vK else if i=3 then vM else if i=4 then vi else if i=5 then vj else if i=6 then vk else vl
theorem ca_rule_does (i:Int):zI PP (kS i):=by
 unfold kS
 repeat' split
 ·exact ca_reduce_rules_2
 ·exact ca_reduce_rules_4
 ·exact ca_reduce_rules_6
 ·exact ca_reduce_rules_8
 ·exact ca_reduce_rules_10
 ·exact ca_reduce_rules_12
 ·exact ca_reduce_rules_14
 ·exact ca_reduce_rules_16
def zcZ.f (k:Nat) (i:Int) (a0:Tb) (a1:PTerm):Option (PTerm × Int) :=
 if i=0 then zcT.f k a0 a1 else if i=1 then zcU.f k a0 a1 else if i=2 then zcx.f a0 a1 else if i=3 then zcz.f a0 a1 else if i=4 then zcW.f k a0 a1 else if i=5 then zcX.f k a0 a1 else if i=6 then zcY.f k a0 a1 else if i=7 then zcE.f a0 a1 else none
theorem rule_does_v {k:Nat} {i:Int} {a0:Tb} {a1:PTerm} {r:PTerm × Int} (H:zcZ.f k i a0 a1=some r):(jt i).does.v = .func (.func (kS i)) #[] #[]:=by
 by_cases h:0 ≤ i∧i < 8
 ·have:i=0∨i=1∨i=2∨i=3∨i=4∨i=5∨i=6∨i=7:=by omega
  rcases this with rfl | rfl | rfl | rfl | rfl | rfl | rfl | rfl <;> rfl
 ·unfold zcZ.f at H
  simp only [show ¬ i=0 by omega,show ¬ i=1 by omega,show ¬ i=2 by omega,show ¬ i=3 by omega,show ¬ i=4 by omega,show ¬ i=5 by omega,show ¬ i=6 by omega,show ¬ i=7 by omega,if_false] at H
  cases H
section
variable {A:Nat→Prop} {N:Oth} {w:World}
theorem rule_does_st {a0:Tb} {a_0:Option Addr} {a1:PTerm} {s_1:SlV} (S:St A N w w [] [oT a_0 a0,zg s_1 a1.sub,oPw]) {k:Nat} {i:Int} {r:PTerm × Int} (H:zcZ.f k i a0 a1=some r) :
  Calls PP (kS i) #[.pointer a_0,.agg (Term.C (⟨a1.kind,a1.name,a1.other,a1.form,s_1⟩ : Term)).toArray] w fun e w' => ∃ v,e = .returned v∧(∃ so0:SlV,v = .tuple #[.agg (Term.C (⟨r.1.kind,r.1.name,r.1.other,r.1.form,so0⟩ : Term)).toArray,.int .i64 r.2]∧St A N w w' [] [zg so0 r.1.sub]):=by
 unfold zcZ.f at H
 unfold kS
 have S2:St A N w w [] [oT a_0 a0,zg s_1 a1.sub]:=S.zs [0,1]
 split
 ·rename_i e; rw [if_pos e] at H; exact reduce_rules_2_st S H
 rename_i e; rw [if_neg e] at H; clear e
 split
 ·rename_i e; rw [if_pos e] at H; exact reduce_rules_4_st S H
 rename_i e; rw [if_neg e] at H; clear e
 split
 ·rename_i e; rw [if_pos e] at H; exact reduce_rules_6_st S2 H
 rename_i e; rw [if_neg e] at H; clear e
 split
 ·rename_i e; rw [if_pos e] at H; exact reduce_rules_8_st S2 H
 rename_i e; rw [if_neg e] at H; clear e
 split
 ·rename_i e; rw [if_pos e] at H; exact reduce_rules_10_st S H
 rename_i e; rw [if_neg e] at H; clear e
 split
 ·rename_i e; rw [if_pos e] at H; exact reduce_rules_12_st S H
 rename_i e; rw [if_neg e] at H; clear e
 split
 ·rename_i e; rw [if_pos e] at H; exact reduce_rules_14_st S H
 rename_i e; rw [if_neg e] at H; clear e
 split at H
 ·exact reduce_rules_16_st S2 H
 ·cases H
end
end
section
open Gw
def zda.f (a0:Tb) (a1:PTerm):Option (Int × Bool) :=
 (zcu.f a0 a1).bind fun r17=>if r17 then some (0,true) else (zcv.f a0 a1).bind fun r31=>if r31 then some (1,true) else (zcw.f a0 a1).bind fun r45=>if r45 then some (2,true) else (zcy.f a0 a1).bind fun r59=>if r59 then some (3,true) else (zcA.f a0 a1).bind fun r73=>if r73 then some (4,true) else (zcB.f a0 a1).bind fun r87=>if r87 then some (5,true) else (zcC.f a0 a1).bind fun r101=>if r101 then some (6,true) else (zcD.f a0 a1).bind fun r115=>if r115 then some (7,true) else some (8,false)
def zdb.b0 (zef:PTerm→Option PTerm) (i11:Int) (x11_0:PTerm):Option PTerm :=
 chk (inb i11 x11_0.sub.length) ((zef (at_ PTerm.z x11_0.sub i11)).bind fun r23=>chk (inb i11 x11_0.sub.length) (some (⟨x11_0.kind,x11_0.name,x11_0.other,x11_0.form,x11_0.sub.set (Int.toNat i11) r23⟩ : PTerm)))
def zdb.g (zef:PTerm→Option PTerm) (a0:PTerm):Option PTerm :=
 (zbW.f a0.sub).bind fun r6=>(forS (fun i s=>zdb.b0 zef i s) ((r6.length:Int) - 0).toNat 0 (⟨a0.kind,a0.name,a0.other,a0.form,r6⟩ : PTerm)).bind fun (o11:PTerm)=>some (⟨o11.kind,o11.name,o11.other,o11.form,o11.sub⟩ : PTerm)
def zdb.f:Nat→PTerm→Option PTerm
 | 0=>fun _=>none
 | k + 1=>zdb.g (zdb.f k)
def zdc.b0 (zek:PTerm→Option PTerm) (i20:Int) (x20_0:PTerm):Option PTerm :=
 chk (inb i20 x20_0.sub.length) ((zek (at_ PTerm.z x20_0.sub i20)).bind fun r32=>chk (inb i20 x20_0.sub.length) (some (⟨x20_0.kind,x20_0.name,x20_0.other,x20_0.form,x20_0.sub.set (Int.toNat i20) r32⟩ : PTerm)))
def zdc.g (zek:PTerm→Option PTerm) (a0:PTerm):Option PTerm :=
 if decide (a0.kind=11) then chk (inb 0 a0.sub.length) ((zek (at_ PTerm.z a0.sub 0)).bind fun r9=>some r9) else (zbW.f a0.sub).bind fun r15=>(forS (fun i s=>zdc.b0 zek i s) ((r15.length:Int) - 0).toNat 0 (⟨a0.kind,a0.name,a0.other,a0.form,r15⟩ : PTerm)).bind fun (o20:PTerm)=>some (⟨o20.kind,o20.name,o20.other,o20.form,o20.sub⟩ : PTerm)
def zdc.f:Nat→PTerm→Option PTerm
 | 0=>fun _=>none
 | k + 1=>zdc.g (zdc.f k)
def zdd.f (k:Nat) (a0:PTerm):Option (PTerm × Int) :=
 (zck.f k a0).bind fun r5=>if decide (r5 ≠ 0) then some ((⟨0,ByteArray.empty,ByteArray.empty,0,[]⟩ : PTerm),r5) else (zdc.f k a0).bind fun r10=>some (r10,0)
def zde.g (zeh:Tb→PTerm→List Int→Option (PTerm × Int)) (k:Nat) (a0:Tb) (a1:PTerm) (a2:List Int):Option (PTerm × Int) :=
 if decide ((a2.length:Int)=0) then (zda.f a0 a1).bind fun r6=>if !r6.2 then some ((⟨0,ByteArray.empty,ByteArray.empty,0,[]⟩ : PTerm),140) else (zcZ.f k r6.1 a0 a1).bind fun r21=>some (r21.1,r21.2) else chk (inb 0 a2.length) (if (decide (at_ (0:Int) a2 0 < 0)) || (decide ((a1.sub.length:Int) ≤ at_ (0:Int) a2 0)) then some ((⟨0,ByteArray.empty,ByteArray.empty,0,[]⟩ : PTerm),140) else chk (inb (at_ (0:Int) a2 0) a1.sub.length) (chk (decide ((0:Int) ≤ 1∧1 ≤ (a2.length:Int))) ((zeh a0 (at_ PTerm.z a1.sub (at_ (0:Int) a2 0)) (a2.drop ((1:Int)).toNat)).bind fun r38=>if decide (r38.2 ≠ 0) then some ((⟨0,ByteArray.empty,ByteArray.empty,0,[]⟩ : PTerm),r38.2) else (zbW.f a1.sub).bind fun r62=>chk (inb (at_ (0:Int) a2 0) r62.length) (some ((⟨a1.kind,a1.name,a1.other,a1.form,r62.set (Int.toNat (at_ (0:Int) a2 0)) r38.1⟩ : PTerm),0)))))
def zde.f:Nat→Tb→PTerm→List Int→Option (PTerm × Int)
 | 0=>fun _ _ _=>none
 | k + 1=>zde.g (zde.f k) k
def zdf.f (k:Nat) (a0:Tb) (a1:PTerm) (a2:List Int):Option (PTerm × Int) :=
 (zde.f k a0 a1 a2).bind fun r5=>(if (decide (r5.2=0)) then zck.f k r5.1 else some 0).bind fun r12=>if (decide (r5.2=0)) && (decide (r12 ≠ 0)) then if decide (121 ≠ 0) then some ((⟨0,ByteArray.empty,ByteArray.empty,0,[]⟩ : PTerm),121) else (zdb.f k r5.1).bind fun r17=>some (r17,0) else if decide (r5.2 ≠ 0) then some ((⟨0,ByteArray.empty,ByteArray.empty,0,[]⟩ : PTerm),r5.2) else (zdb.f k r5.1).bind fun r24=>some (r24,0)
def zdg.f (k:Nat) (a0:Tb) (a1:PTerm) (a2:List Int):Option (PTerm × Int) :=
 (zcK.f k a0 a1).bind fun r5=>if decide (r5.2 ≠ 0) then some ((⟨0,ByteArray.empty,ByteArray.empty,0,[]⟩ : PTerm),r5.2) else chk r5.1 ((zdf.f k a0 a1 a2).bind fun r11=>some (r11.1,r11.2))
def zdh.f (a0:List Int) (a1:List (List Int)):Option (List (List Int) × Bool) :=
 (zbX.f a0).bind fun r10=>chk (decide ((a1.length + 1) * 24 ≤ 140737488355328)) (some (a1 ++ [r10],decide (((a1 ++ [r10]).length:Int) < 1000)))
def zdi.b0 (a2:List Int) (zei:Tb→PTerm→List Int→List (List Int)→Option (List (List Int) × Bool)) (a0:Tb) (a1:PTerm) (i14:Int) (x14_0:List (List Int)):Option (Stp (List (List Int)) (List (List Int) × Bool)) :=
 chk (decide (0 ≤ (a2.length:Int)∧(a2.length:Int) ≤ (a2.length:Int))) (chk (decide (((a2.take (Int.toNat (a2.length:Int))).length + ([i14]).length) * 8 ≤ 140737488355328)) ((zei a0 (at_ PTerm.z a1.sub i14) ((a2.take (Int.toNat (a2.length:Int))) ++ [i14]) x14_0).bind fun r43=>if !r43.2 then some (.ret (r43.1,false)) else some (.go r43.1)))
def zdi.g (zei:Tb→PTerm→List Int→List (List Int)→Option (List (List Int) × Bool)) (a0:Tb) (a1:PTerm) (a2:List Int) (a3_0:List (List Int)):Option (List (List Int) × Bool) :=
 (zda.f a0 a1).bind fun r3=>(if r3.2 then zdh.f a2 a3_0 else some (a3_0,false)).bind fun r9=>if r3.2 && (!r9.2) then some (r9.1,false) else (forN (fun i s=>zdi.b0 a2 zei a0 a1 i s) ((a1.sub.length:Int) - 0).toNat 0 r9.1).bind (aft fun (s14:List (List Int))=>some (s14,true))
def zdi.f:Nat→Tb→PTerm→List Int→List (List Int)→Option (List (List Int) × Bool)
 | 0=>fun _ _ _ _=>none
 | k + 1=>zdi.g (zdi.f k)
def zdj.f (k:Nat) (a0:Tb) (a1:PTerm):Option (List (List Int) × Int) :=
 (zcK.f k a0 a1).bind fun r3=>if decide (r3.2 ≠ 0) then some (([]:List (List Int)),r3.2) else chk r3.1 ((zdi.f k a0 a1 ([]) ([]:List (List Int))).bind fun r10=>some (r10.1,0))
def zdk.f (k:Nat) (a0:Tb) (a1:PTerm):Option (Bool × Int) :=
 (zdj.f k a0 a1).bind fun r3=>some ((decide (r3.2=0)) && (decide ((r3.1.length:Int)=0)),r3.2)
def zdl.f (a0:List Int) (a1:List Int):Option (List Int × Bool) :=
 (zbX.f a0).bind fun r1=>some (r1,false)
def zdm.b0 (a2:List Int) (zej:Tb→PTerm→List Int→List Int→Option (List Int × Bool)) (a0:Tb) (a1:PTerm) (i14:Int) (x14_0:List Int):Option (Stp (List Int) (List Int × Bool)) :=
 chk (decide (0 ≤ (a2.length:Int)∧(a2.length:Int) ≤ (a2.length:Int))) (chk (decide (((a2.take (Int.toNat (a2.length:Int))).length + ([i14]).length) * 8 ≤ 140737488355328)) ((zej a0 (at_ PTerm.z a1.sub i14) ((a2.take (Int.toNat (a2.length:Int))) ++ [i14]) x14_0).bind fun r43=>if !r43.2 then some (.ret (r43.1,false)) else some (.go r43.1)))
def zdm.g (zej:Tb→PTerm→List Int→List Int→Option (List Int × Bool)) (a0:Tb) (a1:PTerm) (a2:List Int) (a3_0:List Int):Option (List Int × Bool) :=
 (zda.f a0 a1).bind fun r3=>(if r3.2 then zdl.f a2 a3_0 else some (a3_0,false)).bind fun r9=>if r3.2 && (!r9.2) then some (r9.1,false) else (forN (fun i s=>zdm.b0 a2 zej a0 a1 i s) ((a1.sub.length:Int) - 0).toNat 0 r9.1).bind (aft fun (s14:List Int)=>some (s14,true))
def zdm.f:Nat→Tb→PTerm→List Int→List Int→Option (List Int × Bool)
 | 0=>fun _ _ _ _=>none
 | k + 1=>zdm.g (zdm.f k)
def zdn.b0 (k:Nat) (a0:Tb) (a2:Int) (x19_0:Int) (x19_1:PTerm) (x19_2:PTerm):Option (Stp (Int × PTerm × PTerm) (PTerm × Int × Bool × Int)) :=
 (zdm.f k a0 x19_1 ([]) ([]:List Int)).bind fun r28=>if r28.2 then some (.brk (x19_0,x19_1,x19_2)) else if decide (x19_0=a2) then some (.ret (x19_1,x19_0,false,0)) else (zdf.f k a0 x19_1 r28.1).bind fun r35=>if decide (r35.2 ≠ 0) then some (.ret (x19_1,x19_0,false,r35.2)) else some (.go (IntKind.i64.wrap (x19_0 + 1),r35.1,x19_2))
def zdn.f (k:Nat) (a0:Tb) (a1:PTerm) (a2:Int):Option (PTerm × Int × Bool × Int) :=
 (zcK.f k a0 a1).bind fun r5=>if decide (r5.2 ≠ 0) then some ((⟨0,ByteArray.empty,ByteArray.empty,0,[]⟩ : PTerm),0,false,r5.2) else if (decide (a2 < 0)) || (decide (4096 < a2)) then some ((⟨0,ByteArray.empty,ByteArray.empty,0,[]⟩ : PTerm),0,false,2) else (zdb.f k a1).bind fun r13=>chk r5.1 ((iter (fun s=>zdn.b0 k a0 a2 s.1 s.2.1 s.2.2) k (0,r13,(⟨0,ByteArray.empty,ByteArray.empty,0,[]⟩ : PTerm))).bind (aft fun (s19:Int × PTerm × PTerm)=>some (s19.2.1,s19.1,true,0)))
end
section
open Gw
def zdo.b0 (a0:List Nd) (i5:Int) (x5_0:Tb):Option (Stp Tb (Tb × Int)) :=
 (zbS.f x5_0 (at_ Nd.z a0 i5)).bind fun r11=>if (decide (r11.2.2=0)) && (decide (r11.2.1 ≠ i5)) then if decide (31 ≠ 0) then some (.ret (none,31)) else some (.go r11.1) else if decide (r11.2.2 ≠ 0) then some (.ret (none,r11.2.2)) else some (.go r11.1)
def zdo.f (a0:List Nd):Option (Tb × Int) :=
 (zbV.f).bind fun r1=>(forN (fun i s=>zdo.b0 a0 i s) ((a0.length:Int) - 0).toNat 0 r1).bind (aft fun (s5:Tb)=>some (s5,0))
def zdp.b0 (a1:List Int) (a0:List Int) (i2:Int):Option (Stp Unit Bool) :=
 chk (inb i2 a1.length) (if decide (at_ (0:Int) a0 i2 ≠ at_ (0:Int) a1 i2) then some (.ret false) else some (.go ()))
def zdp.f (a0:List Int) (a1:List Int):Option Bool :=
 if decide ((a0.length:Int) ≠ (a1.length:Int)) then some false else (forN (fun i s=>zdp.b0 a1 a0 i) ((a0.length:Int) - 0).toNat 0 ()).bind (aft fun (s2:Unit)=>some true)
def zdq.f (a0:Tb) (a1:Int):Option Bool :=
 chk a0.isSome (some ((decide (0 ≤ a1)) && (decide (a1 < ((a0.getD []).length:Int)))))
def zdr.b0 (a0:Tb) (a1:Nd) (i4:Int):Option (Stp Unit (Int × Bool)) :=
 if decide (at_ Nd.z (a0.getD []) i4=a1) then some (.ret (i4,true)) else some (.go ())
def zdr.f (a0:Tb) (a1:Nd):Option (Int × Bool) :=
 chk a0.isSome ((forN (fun i s=>zdr.b0 a0 a1 i) (((a0.getD []).length:Int) - 0).toNat 0 ()).bind (aft fun (s4:Unit)=>some (0,false)))
def zds.f (a0:Tb) (a1:Nd):Option (Tb × Int × Int) :=
 (if decide (a1.kind=1) then if (decide (a1.l ≠ 0)) || (decide (a1.r ≠ 0)) then some (.inr (a0,0,31)) else (zbU.f a1.name).bind fun r6=>if !r6 then some (.inr (a0,0,32)) else some (.inl a0) else if decide (a1.kind=2) then if ((decide (a1.name ≠ (⟨#[]⟩ : ByteArray))) || (decide (a1.l ≠ 0))) || (decide (a1.r ≠ 0)) then some (.inr (a0,0,31)) else some (.inl a0) else (if decide (a1.kind=3) then some (decide (a1.kind=3)) else if decide (a1.kind=4) then some (decide (a1.kind=4)) else some (decide (a1.kind=5))).bind fun (o12:Bool)=>if o12 then (if (!(decide (a1.name ≠ (⟨#[]⟩ : ByteArray)))) then zdq.f a0 a1.l else some false).bind fun r18=>(if (!((decide (a1.name ≠ (⟨#[]⟩ : ByteArray))) || (!r18))) then zdq.f a0 a1.r else some false).bind fun r20=>if ((decide (a1.name ≠ (⟨#[]⟩ : ByteArray))) || (!r18)) || (!r20) then some (.inr (a0,0,31)) else some (.inl a0) else some (.inr (a0,0,31))).bind (aft fun (s3:Tb)=>(zdr.f s3 a1).bind fun r25=>if r25.2 then some (s3,r25.1,0) else chk s3.isSome (if decide (1024 ≤ ((s3.getD []).length:Int)) then some ((some (s3.getD [])),0,30) else chk (decide (((s3.getD []).length + 1) * 40 ≤ 140737488355328)) (some ((some ((s3.getD []) ++ [a1])),IntKind.i64.wrap ((((s3.getD []) ++ [a1]).length:Int) - 1),0))))
def zdt.b0 (a0:List Nd) (i3:Int) (x3_0:Tb):Option (Stp Tb (Tb × Int)) :=
 (zds.f x3_0 (at_ Nd.z a0 i3)).bind fun r6=>if decide (r6.2.2 ≠ 0) then some (.ret (none,r6.2.2)) else if decide (r6.2.1 ≠ i3) then some (.ret (none,31)) else some (.go r6.1)
def zdt.f (a0:List Nd):Option (Tb × Int) :=
 (forN (fun i s=>zdt.b0 a0 i s) ((a0.length:Int) - 0).toNat 0 (some [])).bind (aft fun (s3:Tb)=>some (s3,0))
def zdu.f (a0:List Nd):Option (Tb × Tb × Bool) :=
 chk (decide ((([]:List Nd).length + a0.length) * 40 ≤ 140737488355328)) ((zdt.f a0).bind fun r7=>if decide (r7.2 ≠ 0) then some (none,none,false) else (zdo.f (([]:List Nd) ++ a0)).bind fun r12=>some (r12.1,r7.1,true))
end
section
open Gw
def zdv.f (a0:Tb) (a1:ByteArray):Option (Tb × Int × Int) :=
 (zbS.f a0 ({ Nd.z with kind:=1,name:=a1 })).bind fun r1=>some (r1.1,r1.2.1,r1.2.2)
def zdw.f (a0:Int):Option Int :=
 some a0
def zdx.f (a0:ByteArray):Option PTerm :=
 some (⟨1,a0,ByteArray.empty,0,[]⟩ : PTerm)
def zdy.b0 (a0:PTerm) (a1:PTerm) (zem:PTerm→PTerm→Option Bool) (x6_0:Int):Option (Stp Int Bool) :=
 if decide (x6_0 < (a0.sub.length:Int)) then chk (inb x6_0 a0.sub.length) (chk (inb x6_0 a1.sub.length) ((zem (at_ PTerm.z a0.sub x6_0) (at_ PTerm.z a1.sub x6_0)).bind fun r15=>if !r15 then some (.ret false) else some (.go (IntKind.i64.wrap (x6_0 + 1))))) else some (.brk x6_0)
def zdy.g (zem:PTerm→PTerm→Option Bool) (k:Nat) (a0:PTerm) (a1:PTerm):Option Bool :=
 if ((((decide (a0.kind ≠ a1.kind)) || (decide (a0.name ≠ a1.name))) || (decide (a0.other ≠ a1.other))) || (decide (a0.form ≠ a1.form))) || (decide ((a0.sub.length:Int) ≠ (a1.sub.length:Int))) then some false else (iter (fun s=>zdy.b0 a0 a1 zem s) k 0).bind (aft fun (s6:Int)=>some true)
def zdy.f:Nat→PTerm→PTerm→Option Bool
 | 0=>fun _ _=>none
 | k + 1=>zdy.g (zdy.f k) k
def zdz.b0 (a1:List (List Int)) (a0:List (List Int)) (i2:Int):Option (Stp Unit Bool) :=
 chk (inb i2 a1.length) ((zdp.f (at_ [] a0 i2) (at_ [] a1 i2)).bind fun r11=>if !r11 then some (.ret false) else some (.go ()))
def zdz.f (a0:List (List Int)) (a1:List (List Int)):Option Bool :=
 if decide ((a0.length:Int) ≠ (a1.length:Int)) then some false else (forN (fun i s=>zdz.b0 a1 a0 i) ((a0.length:Int) - 0).toNat 0 ()).bind (aft fun (s2:Unit)=>some true)
end
section
open Gw
def zdA.f (k:Nat)  : Option Bool :=
 (zbV.f).bind fun r1=>(zdv.f r1 (⟨#[112]⟩ : ByteArray)).bind fun r5=>(zbR.f r5.1 r5.2.1 r5.2.1).bind fun r8=>(zdx.f (⟨#[120]⟩ : ByteArray)).bind fun r11=>(zdx.f (⟨#[121]⟩ : ByteArray)).bind fun r24=>(zdg.f k r8.1 (⟨3,ByteArray.empty,ByteArray.empty,0,[(⟨11,ByteArray.empty,ByteArray.empty,r8.2.1,[(⟨2,(⟨#[120]⟩ : ByteArray),ByteArray.empty,0,[r11]⟩ : PTerm)]⟩ : PTerm),r24]⟩ : PTerm) ([])).bind fun r50=>(zdj.f k r8.1 r50.1).bind fun r57=>(zdn.f k r8.1 (⟨3,ByteArray.empty,ByteArray.empty,0,[(⟨11,ByteArray.empty,ByteArray.empty,r8.2.1,[(⟨2,(⟨#[120]⟩ : ByteArray),ByteArray.empty,0,[r11]⟩ : PTerm)]⟩ : PTerm),r24]⟩ : PTerm) 9).bind fun r61=>(zdd.f k (⟨3,ByteArray.empty,ByteArray.empty,0,[(⟨11,ByteArray.empty,ByteArray.empty,r8.2.1,[(⟨2,(⟨#[120]⟩ : ByteArray),ByteArray.empty,0,[r11]⟩ : PTerm)]⟩ : PTerm),r24]⟩ : PTerm)).bind fun r68=>(zdx.f (⟨#[121]⟩ : ByteArray)).bind fun r75=>(zdk.f k r8.1 r75).bind fun r79=>(zdx.f (⟨#[121]⟩ : ByteArray)).bind fun r82=>(zdg.f k r8.1 r82 ([])).bind fun r86=>(zdx.f (⟨#[121]⟩ : ByteArray)).bind fun r93=>(zdw.f r50.2).bind fun r130=>chk (decide (r130=0)) ((zdy.f k r50.1 (⟨11,ByteArray.empty,ByteArray.empty,r5.2.1,[(⟨11,ByteArray.empty,ByteArray.empty,r5.2.1,[r93]⟩ : PTerm)]⟩ : PTerm)).bind fun r134=>chk ((decide (r130=0)) && r134) ((zdw.f r57.2).bind fun r138=>chk (((decide (r130=0)) && r134) && (decide (r138=0))) ((zdz.f r57.1 ([([]:List Int),[0]])).bind fun r148=>chk ((((decide (r130=0)) && r134) && (decide (r138=0))) && r148) ((zdw.f r61.2.2.2).bind fun r152=>chk (((((decide (r130=0)) && r134) && (decide (r138=0))) && r148) && (decide (r152=0))) (chk ((((((decide (r130=0)) && r134) && (decide (r138=0))) && r148) && (decide (r152=0))) && (decide (r61.2.1=3))) (chk (((((((decide (r130=0)) && r134) && (decide (r138=0))) && r148) && (decide (r152=0))) && (decide (r61.2.1=3))) && r61.2.2.1) ((zdx.f (⟨#[121]⟩ : ByteArray)).bind fun r158=>(zdy.f k r61.1 r158).bind fun r162=>chk ((((((((decide (r130=0)) && r134) && (decide (r138=0))) && r148) && (decide (r152=0))) && (decide (r61.2.1=3))) && r61.2.2.1) && r162) ((zdw.f r68.2).bind fun r166=>chk (((((((((decide (r130=0)) && r134) && (decide (r138=0))) && r148) && (decide (r152=0))) && (decide (r61.2.1=3))) && r61.2.2.1) && r162) && (decide (r166=0))) ((if (((((((((decide (r130=0)) && r134) && (decide (r138=0))) && r148) && (decide (r152=0))) && (decide (r61.2.1=3))) && r61.2.2.1) && r162) && (decide (r166=0))) then zdy.f k r68.1 (⟨3,ByteArray.empty,ByteArray.empty,0,[(⟨2,(⟨#[120]⟩ : ByteArray),ByteArray.empty,0,[r11]⟩ : PTerm),r158]⟩ : PTerm) else some false).bind fun r215=>(if ((((((((((decide (r130=0)) && r134) && (decide (r138=0))) && r148) && (decide (r152=0))) && (decide (r61.2.1=3))) && r61.2.2.1) && r162) && (decide (r166=0))) && r215) then zdw.f r79.2 else some 0).bind fun r217=>(if ((((((((((((decide (r130=0)) && r134) && (decide (r138=0))) && r148) && (decide (r152=0))) && (decide (r61.2.1=3))) && r61.2.2.1) && r162) && (decide (r166=0))) && r215) && (decide (r217=0))) && r79.1) then zdw.f r86.2 else some 0).bind fun r219=>some (((((((((((((decide (r130=0)) && r134) && (decide (r138=0))) && r148) && (decide (r152=0))) && (decide (r61.2.1=3))) && r61.2.2.1) && r162) && (decide (r166=0))) && r215) && (decide (r217=0))) && r79.1) && (decide (r219=140))))))))))))
end
section
open Gw
def zdB.f (a0:List Nd):Option (Tb × Tb) :=
 (zdu.f a0).bind fun r1=>if !r1.2.2 then (zbV.f).bind fun r7=>some (r7,(some [])) else some (r1.1,r1.2.1)
def zdC.b0 (a0:PTerm) (zel:PTerm→Option PTerm) (x9_0:Int) (x9_1:PTerm):Option (Stp (Int × PTerm) PTerm) :=
 if decide (x9_0 < (a0.sub.length:Int)) then chk (inb x9_0 a0.sub.length) ((zel (at_ PTerm.z a0.sub x9_0)).bind fun r19=>chk (decide ((x9_1.sub.length + 1) * 72 ≤ 140737488355328)) (some (.go (IntKind.i64.wrap (x9_0 + 1),(⟨x9_1.kind,x9_1.name,x9_1.other,x9_1.form,x9_1.sub ++ [r19]⟩ : PTerm))))) else some (.brk (x9_0,x9_1))
def zdC.g (zel:PTerm→Option PTerm) (k:Nat) (a0:PTerm):Option PTerm :=
 (iter (fun s=>zdC.b0 a0 zel s.1 s.2) k (0,(⟨a0.kind,a0.name,a0.other,a0.form,([]:List PTerm)⟩ : PTerm))).bind (aft fun (s9:Int × PTerm)=>some (⟨s9.2.kind,s9.2.name,s9.2.other,s9.2.form,s9.2.sub⟩ : PTerm))
def zdC.f:Nat→PTerm→Option PTerm
 | 0=>fun _=>none
 | k + 1=>zdC.g (zdC.f k) k
end
section
open Gw
def zdD.f (a0:Int) (a1:Option (Int × List Int)):Option (Option (Int × List Int)) :=
 match a1 with
 | none=>some none
 | some (c0,up0)=>chk (decide ((up0.length + 1) * 8 ≤ 140737488355328)) (some (some (c0,up0 ++ [a0])))
def zdE.f (a0:Option (Int × List Int)):Option (List Int × Int) :=
 match a0 with
 | none=>some (([]:List Int),0)
 | some (c0,up0)=>(zcb.f up0).bind fun r9=>some (r9,c0)
end
section
open Gw
def zdF.f (a0:PChecker) (a1:Int) (a2:Int):Option (Nd × (Option (Int × List Int))) :=
 (zbO.f a0.t a1).bind fun r5=>if decide (r5.1.kind ≠ a2) then some (r5.1,(some (130,([]:List Int)))) else some (r5.1,none)
def zdG.g (zeu:PChecker→PTerm→(List (ByteArray × Int))→Option (Int × (Option (Int × List Int)))) (a0:PChecker) (a1:PTerm) (a2:Int) (a3:List (ByteArray × Int)):Option (Int × (Option (Int × List Int))) :=
 chk (inb a2 a1.sub.length) ((zeu a0 (at_ PTerm.z a1.sub a2) a3).bind fun r16=>(zdD.f a2 r16.2).bind fun r22=>some (r16.1,r22))
def zdH.g (zet:PChecker→PTerm→(List (ByteArray × Int))→Int→Option (Option (Int × List Int))) (a0:PChecker) (a1:PTerm) (a2:Int) (a3:List (ByteArray × Int)) (a4:Int):Option (Option (Int × List Int)) :=
 chk (inb a2 a1.sub.length) ((zet a0 (at_ PTerm.z a1.sub a2) a3 a4).bind fun r8=>(zdD.f a2 r8).bind fun r12=>some r12)
def zdI.g (zeu:PChecker→PTerm→(List (ByteArray × Int))→Option (Int × (Option (Int × List Int)))) (a0:PChecker) (a1:PTerm) (a2:List (ByteArray × Int)) (a3:Int):Option (Nd × (Option (Int × List Int))) :=
 (zdG.g zeu a0 a1 0 a2).bind fun r7=>if r7.2.isSome then some (Nd.z,r7.2) else (zdF.f a0 r7.1 a3).bind fun r13=>some (r13.1,r13.2)
def zdJ.g (zeu:PChecker→PTerm→(List (ByteArray × Int))→Option (Int × (Option (Int × List Int)))) (zet:PChecker→PTerm→(List (ByteArray × Int))→Int→Option (Option (Int × List Int))) (a0:PChecker) (a1:PTerm) (a2:List (ByteArray × Int)):Option (Int × (Option (Int × List Int))) :=
 if decide (a1.kind=1) then (zca.f a2 a1.name).bind fun r6=>some (r6.1,r6.2) else if decide (a1.kind=3) then (zdI.g zeu a0 a1 a2 5).bind fun r11=>if r11.2.isSome then some (0,r11.2) else (zdH.g zet a0 a1 1 a2 r11.1.l).bind fun r19=>some (r11.1.r,r19) else if decide (a1.kind=5) then (zdI.g zeu a0 a1 a2 3).bind fun r24=>some (r24.1.l,r24.2) else if decide (a1.kind=6) then (zdI.g zeu a0 a1 a2 3).bind fun r32=>some (r32.1.r,r32.2) else if decide (a1.kind=11) then (zbO.f a0.t a1.form).bind fun r40=>if !r40.2 then some (0,(some (31,([]:List Int)))) else (zdH.g zet a0 a1 0 a2 a1.form).bind fun r49=>some (a1.form,r49) else if decide (a1.kind=12) then (zdG.g zeu a0 a1 0 a2).bind fun r54=>if r54.2.isSome then some (0,r54.2) else (zdG.g zeu a0 a1 1 ((a1.name,r54.1) :: a2)).bind fun r66=>some (r66.1,r66.2) else if decide (a1.kind=9) then (zdI.g zeu a0 a1 a2 4).bind fun r73=>if r73.2.isSome then some (0,r73.2) else (zdG.g zeu a0 a1 1 ((a1.name,r73.1.l) :: a2)).bind fun r88=>if r88.2.isSome then some (0,r88.2) else (zdG.g zeu a0 a1 2 ((a1.other,r73.1.r) :: a2)).bind fun r102=>if r102.2.isNone && (decide (r102.1 ≠ r88.1)) then some (r88.1,(some (130,([]:List Int)))) else some (r88.1,r102.2) else some (0,(some (132,([]:List Int))))
def zdK.g (zeu:PChecker→PTerm→(List (ByteArray × Int))→Option (Int × (Option (Int × List Int)))) (zet:PChecker→PTerm→(List (ByteArray × Int))→Int→Option (Option (Int × List Int))) (a0:PChecker) (a1:PTerm) (a2:List (ByteArray × Int)) (a3:Int):Option (Option (Int × List Int)) :=
 if decide (a1.kind=2) then (zdF.f a0 a3 5).bind fun r6=>if r6.2.isSome then some r6.2 else (zdH.g zet a0 a1 0 ((a1.name,r6.1.l) :: a2) r6.1.r).bind fun r17=>some r17 else if decide (a1.kind=4) then (zdF.f a0 a3 3).bind fun r22=>if r22.2.isSome then some r22.2 else (zdH.g zet a0 a1 0 a2 r22.1.l).bind fun r30=>if r30.isSome then some r30 else (zdH.g zet a0 a1 1 a2 r22.1.r).bind fun r35=>some r35 else (if decide (a1.kind=7) then some (decide (a1.kind=7)) else some (decide (a1.kind=8))).bind fun (o39:Bool)=>if o39 then (zdF.f a0 a3 4).bind fun r44=>if r44.2.isSome then some r44.2 else if decide (a1.kind=7) then (zdH.g zet a0 a1 0 a2 r44.1.l).bind fun r53=>some r53 else (zdH.g zet a0 a1 0 a2 r44.1.r).bind fun r57=>some r57 else if decide (a1.kind=9) then (zdI.g zeu a0 a1 a2 4).bind fun r62=>if r62.2.isSome then some r62.2 else (zdH.g zet a0 a1 1 ((a1.name,r62.1.l) :: a2) a3).bind fun r73=>if r73.isSome then some r73 else (zdH.g zet a0 a1 2 ((a1.other,r62.1.r) :: a2) a3).bind fun r81=>some r81 else if decide (a1.kind=10) then (zdI.g zeu a0 a1 a2 2).bind fun r86=>some r86.2 else if decide (a1.kind=12) then (zdG.g zeu a0 a1 0 a2).bind fun r94=>if r94.2.isSome then some r94.2 else (zdH.g zet a0 a1 1 ((a1.name,r94.1) :: a2) a3).bind fun r102=>some r102 else (zeu a0 a1 a2).bind fun r106=>if r106.2.isNone && (decide (r106.1 ≠ a3)) then some (some (130,([]:List Int))) else some r106.2
def types_tc.p:Nat→(PChecker→PTerm→(List (ByteArray × Int))→Option (Int × (Option (Int × List Int)))) × (PChecker→PTerm→(List (ByteArray × Int))→Int→Option (Option (Int × List Int)))
 | 0=>(fun _ _ _=>none,fun _ _ _ _=>none)
 | k + 1=>(zdJ.g (types_tc.p k).1 (types_tc.p k).2,zdK.g (types_tc.p k).1 (types_tc.p k).2)
def zdJ.f (k:Nat):PChecker→PTerm→(List (ByteArray × Int))→Option (Int × (Option (Int × List Int))):=(types_tc.p k).1
def zdK.f (k:Nat):PChecker→PTerm→(List (ByteArray × Int))→Int→Option (Option (Int × List Int)):=(types_tc.p k).2
def zdL.b0 (a1:List Hyp) (i7:Int) (x7_0:List Int) (x7_1:List (ByteArray × Int)):Option (List Int × (List (ByteArray × Int))) :=
 chk (decide ((x7_0.length + ([(at_ Hyp.z a1 i7).form]).length) * 8 ≤ 140737488355328)) ((zbZ.f x7_1 ((at_ Hyp.z a1 i7).name) ((at_ Hyp.z a1 i7).form)).bind fun r25=>some (x7_0 ++ [(at_ Hyp.z a1 i7).form],r25))
def zdL.b1 (a0:Tb) (o7:List Int × (List (ByteArray × Int))) (i31:Int):Option (Stp Unit ((List (ByteArray × Int)) × Int)) :=
 (zbO.f a0 (at_ (0:Int) o7.1 i31)).bind fun r34=>if !r34.2 then some (.ret (([]:List (ByteArray × Int)),31)) else some (.go ())
def zdL.f (k:Nat) (a0:Tb) (a1:List Hyp) (a2:PTerm) (a3:List Int):Option ((List (ByteArray × Int)) × Int) :=
 (zbQ.f a0 (-1)).bind fun r3=>if decide (r3.2=1) then some (([]:List (ByteArray × Int)),r3.2) else (forS (fun i s=>zdL.b0 a1 i s.1 s.2) ((a1.length:Int) - 0).toNat 0 (a3,([]:List (ByteArray × Int)))).bind fun (o7:List Int × (List (ByteArray × Int)))=>(forN (fun i s=>zdL.b1 a0 o7 i) ((o7.1.length:Int) - 0).toNat 0 ()).bind (aft fun (s31:Unit)=>(zck.f k a2).bind fun r43=>some (o7.2,r43))
def zdM.f (k:Nat) (a0:Tb) (a1:List Hyp) (a2:PTerm) (a3:Int):Option (List Int × Int) :=
 (zdL.f k a0 a1 a2 ([a3])).bind fun r6=>if decide (r6.2 ≠ 0) then some (([]:List Int),r6.2) else (zdK.f k (⟨a0⟩ : PChecker) a2 r6.1 a3).bind fun r11=>(zdE.f r11).bind fun r15=>some (r15.1,r15.2)
def zdN.f (k:Nat) (a0:Tb) (a1:List Hyp) (a2:PTerm) (a3:Int):Option Int :=
 (zdM.f k a0 a1 a2 a3).bind fun r3=>some r3.2
end
section
open Gw
def zdO.f (k:Nat) (a0:List Nd) (a1:PTerm) (a2:Int) (a3:Int):Option Bool :=
 (zdB.f a0).bind fun r3=>(zdC.f k a1).bind fun r8=>(zdN.f k r3.1 ([]) r8 a2).bind fun r12=>(zdw.f r12).bind fun r15=>if decide (r15 ≠ 0) then (zdA.f k).bind fun r19=>some r19 else (zdC.f k a1).bind fun r22=>(zdn.f k r3.1 r22 a3).bind fun r26=>(zdw.f r26.2.2.2).bind fun r33=>if (decide (r33 ≠ 0)) || (!r26.2.2.1) then (zdw.f r26.2.2.2).bind fun r37=>(if (!(decide (r37=0))) then zdw.f r26.2.2.2 else some 0).bind fun r40=>(if (!((decide (r37=0)) || (decide (r40=2)))) then zdw.f r26.2.2.2 else some 0).bind fun r42=>(if (((decide (r37=0)) || (decide (r40=2))) || (decide (r42=121))) then zdA.f k else some false).bind fun r44=>some ((((decide (r37=0)) || (decide (r40=2))) || (decide (r42=121))) && r44) else (zdd.f k r26.1).bind fun r46=>(zdw.f r46.2).bind fun r53=>(if (!(decide (r53 ≠ 0))) then zdq.f r3.2 a2 else some false).bind fun r56=>if (decide (r53 ≠ 0)) || (!r56) then some false else chk r3.2.isSome (chk (inb a2 (r3.2.getD []).length) (if decide ((at_ Nd.z (r3.2.getD []) a2).kind=5) then (if (decide (r46.1.kind=2)) then zdA.f k else some false).bind fun r65=>some ((decide (r46.1.kind=2)) && r65) else if decide ((at_ Nd.z (r3.2.getD []) a2).kind=3) then (if (decide (r46.1.kind=4)) then zdA.f k else some false).bind fun r68=>some ((decide (r46.1.kind=4)) && r68) else if decide ((at_ Nd.z (r3.2.getD []) a2).kind=4) then (if ((decide (r46.1.kind=7)) || (decide (r46.1.kind=8))) then zdA.f k else some false).bind fun r71=>some (((decide (r46.1.kind=7)) || (decide (r46.1.kind=8))) && r71) else some false))
end
section
open Go.RowKit
namespace Gw
section
variable {P:Program} {rd:Option Nat} {n:Nat} {dm:List Nat} {ops:Array Oper} {Q:Post} {f:Fr} {w:World} {rest:List Oper} {ty:TypeId} {pos:String} {af:Array Edge}
theorem wl_gturn2 {dd:Tmp} {op:Op} {j:Nat} {pol c t:Bool} {v:Value} {oj:Oper} {dj:Tmp} {g:FuncId} {args:Array Value} {R:World→Prop} (hj:ops[j]? = some oj) (hdj:oj.dst=some dj) (ht:f dj=gv c (.bool t)) (hdn:dj < n)
  (he:(c && (t == pol))=true→Enters P ⟨some dd,op,ty,pos,af,some (j,pol)⟩ f w g args) (hd:dd < n)
  (hc:(c && (t == pol))=true→Calls P g args w fun e w' => ∃ v',e = .returned v'∧(v'=v∧R w')) (h0:(c && (t == pol))=false→R w)
  (h : ∀ w',R w'→wl P rd n dm ops rest Q (upd f dd (gv (c && (t == pol)) v)) w'):wl P rd n dm ops (⟨some dd,op,ty,pos,af,some (j,pol)⟩ :: rest) Q f w:=fun a ha=>by
 refine wpListIn_step fun K hK=>?_
 rw [kK ha rfl hj hdj ht hdn]
 cases hcc:(c && (t == pol)) with
 | true =>
  rw [if_pos rfl]
  refine op_wp ha (he hcc) zbL (show _∧_ from ⟨fun h=>(by cases h),?_⟩)
  refine CallsIn.mono (show CallsIn (fen rd) _ P g args w _ from callsIn_wide.2 (hc hcc)) ?_
  rintro e w' ⟨v',rfl,rfl,hx⟩
  have h2:=h w' hx
  rw [hcc,zp rfl] at h2
  exact hK _ _ (h2 _ (ha.put hd _))
 | false =>
  rw [if_neg zbL]
  have h2:=h w (h0 hcc)
  rw [hcc,gv_f] at h2
  exact ⟨fun _ _=>trivial,hK _ _ (h2 _ (ha.put hd _))⟩
theorem wl_gturn {dd:Tmp} {op:Op} {j:Nat} {pol t:Bool} {v:Value} {oj:Oper} {dj:Tmp} {g:FuncId} {args:Array Value} {R:World→Prop} (hj:ops[j]? = some oj) (hdj:oj.dst=some dj) (ht:f dj = .bool t) (hdn:dj < n)
  (he:(t == pol)=true→Enters P ⟨some dd,op,ty,pos,af,some (j,pol)⟩ f w g args) (hd:dd < n)
  (hc:(t == pol)=true→Calls P g args w fun e w' => ∃ v',e = .returned v'∧(v'=v∧R w')) (h0:(t == pol)=false→R w)
  (h : ∀ w',R w'→wl P rd n dm ops rest Q (upd f dd (gv (t == pol) v)) w'):wl P rd n dm ops (⟨some dd,op,ty,pos,af,some (j,pol)⟩ :: rest) Q f w :=
 wl_gturn2 (c:=true) hj hdj (by rw [ht]; exact gv_t _) hdn he hd hc h0 h
end
end Gw
end
end Go.Proofs.YtmggdbbmmkkplaaGreatDoor
