/- Texts put together: Chapter 09, rules that are chosen: the walks. Printed by pp.py, a program of mine. Chapter 09, premises: the walks. Printed by pp.py, a program of mine. Chapter 09, the heads: the walks. Printed by pp.py, a program of mine. Chapter 09, the document's functions: the walks. Printed by pp.py, a program of mine. Chapter 13, the heads: the walks. Printed by pp.py, a program of mine. Chapter 11, the search: the walks. Printed by pp.py, a program of mine. A region that draws its order, with stores; what holds all along may speak of the values made so far. Chapter 13, TypesProve: the walks. Printed by pp.py, a program of mine. -/
import Derived.Test.YtjebgcoknpcadaaGreatDoorMP3
set_option linter.unusedVariables false
set_option linter.unusedSimpArgs false
section
namespace Go.Proofs.YtjebgcoknpcadaaGreatDoor
open Gw Go.RowKit
theorem vH {A : Nat → Prop} {N : Oth} {w : World} {a0 : Tb} {a_0 : Option Addr} {a1 : Int} (S : St A N w w [] [oT a_0 a0]) {r : Nd} (H : rule_node.f a0 a1 = some r) :
  Calls PP F_rule_node #[.pointer a_0, .int .i64 a1] w fun e w' => ∃ v, e = .returned v ∧ (v = .agg (Nd.C r).toArray ∧ St A N w w' [] []) := by
 unfold rule_node.f at H
 refine zw (n := 14) fn_rule_node rfl rfl (by simp) (zb (za ?_))
 refine zP uW (by decide) fun b2 w1 hw1 => ?_
 replace S := S.new hw1
 refine zd (zb (za (wd (zr rfl) (wd (zh rfl) ?_))))
 obtain ⟨r3, er3, H⟩ := zp H
 obtain ⟨B5, MB5, SB5, back⟩ := S.calln 0 ((.z 0 rfl .nil))
 refine zu (zo vy) (by decide) (vC SB5 er3) ?_
 rintro _ w4 ⟨rfl, S2⟩
 replace S := back _ _ _ _ S2 rfl
 clear back S2 SB5
 refine wd (zK rfl) (wd (zk rfl rfl) (wd (zk rfl rfl) ?_))
 refine zP uW (by decide) fun b7 w6 hw6 => ?_
 replace S := S.new hw6
 refine zx ya rfl rfl (S.blk 0) (Nd.len _) (by rw [Nd.len]; decide) (Nd.one _) (zG (Nd.len _)) fun w8 B hw8 zw8 => ?_
 replace S := S.store 0 B hw8
 clear B
 refine wd (zl rfl) (zd (zb (za (wd (zj ya rfl ((S.blk 0).all _ (Nd.len _)) (Nd.len _)) ?_))))
 refine zx ya rfl rfl (S.blk 1) (Nd.len _) (by rw [Nd.len]; decide) (Nd.one _) (zG (Nd.len _)) fun w9 B hw9 zw9 => ?_
 replace S := S.store 1 B hw9
 clear B
 refine zd (zn ?_)
 refine ⟨_, (zS (zV ya rfl ((S.blk 0).all _ (Nd.len _)) (Nd.len _))), ?_⟩
 replace S := S.arr [] []
 obtain rfl := Option.some.inj H
 exact ⟨rfl, S⟩
theorem kU {A : Nat → Prop} {N : Oth} {w : World} {a0 : Tb} {a_0 : Option Addr} {a1 : Sq} {a2 : Int} (S : St A N w w [] [oT a_0 a0]) {r : Int} (H : rule_on.f a0 a1 a2 = some r) :
  Calls PP F_rule_on #[.pointer a_0, .agg (Sq.C a1).toArray, .int .i64 a2] w fun e w' => ∃ v, e = .returned v ∧ (v = .int .i64 r ∧ St A N w w' [] []) := by
 unfold rule_on.f at H
 refine zw (n := 41) fn_rule_on rfl rfl (by simp) (zb (za ?_))
 refine zJ rfl (by decide) fun b2 w1 hw1 => ?_
 replace S := S.new hw1
 refine wd (zf rfl) (zd (zb (za (wd (zr rfl) (wd (zh rfl) ?_)))))
 obtain ⟨r3, er3, H⟩ := zp H
 obtain ⟨B5, MB5, SB5, back⟩ := S.calln 0 ((.z 0 rfl .nil))
 refine zu (zo vJ) (by decide) (vH SB5 er3) ?_
 rintro _ w4 ⟨rfl, S2⟩
 replace S := back _ _ _ _ S2 rfl
 clear back S2 SB5
 refine zP uW (by decide) fun b7 w6 hw6 => ?_
 replace S := S.new hw6
 refine zx ya rfl rfl (S.blk 0) (Nd.len _) (by rw [Nd.len]; decide) (Nd.one _) (zG (Nd.len _)) fun w8 B hw8 zw8 => ?_
 replace S := S.store 0 B hw8
 clear B
 refine zd (zb (zb (za (wd (zi fl_Nd_kind rfl (o' := 0) rfl) (wd (zm y4 rfl ((S.blk 0).cell (Nd.get_kind _))) (zd ?_))))))
 refine zF (zb (za (wd (zN rfl rfl) (wd (zl rfl) (zd ?_)))))
 refine zC rfl (fun hc9 => ?_) (fun hc9 => ?_)
 ·replace H := if_t hc9 H
  refine zb (za (wd (zf rfl) (zd (zn ?_))))
  refine ⟨_, (zS (ze rfl)), ?_⟩
  replace S := S.arr [] []
  obtain rfl := Option.some.inj H
  exact ⟨rfl, S⟩
 replace H := if_f hc9 H
 refine zb (za (wd (zN rfl rfl) (wd (zl rfl) (zd ?_))))
 refine zC rfl (fun hc10 => ?_) (fun hc10 => ?_)
 ·replace H := if_t hc10 H
  refine zb (za (wd (zf rfl) (zd (zn ?_))))
  refine ⟨_, (zS (ze rfl)), ?_⟩
  replace S := S.arr [] []
  obtain rfl := Option.some.inj H
  exact ⟨rfl, S⟩
 replace H := if_f hc10 H
 refine zb (za (wd (zN rfl rfl) (wd (zl rfl) (zd ?_))))
 refine zC rfl (fun hc11 => ?_) (fun hc11 => ?_)
 ·replace H := if_t hc11 H
  refine zb (za (wd (zf rfl) (zd (zn ?_))))
  refine ⟨_, (zS (ze rfl)), ?_⟩
  replace S := S.arr [] []
  obtain rfl := Option.some.inj H
  exact ⟨rfl, S⟩
 replace H := if_f hc11 H
 refine zb (za (wd (zN rfl rfl) (wd (zl rfl) (zd ?_))))
 refine zC rfl (fun hc12 => ?_) (fun hc12 => ?_)
 ·replace H := if_t hc12 H
  refine zb (za (wd (zr rfl) (wd (zi yB rfl (o' := 2) rfl) (wd (zm zQ rfl ((S.blk 0).cell (Nd.get_l _))) ?_))))
  obtain ⟨r13, er13, H⟩ := zp H
  obtain ⟨B15, MB15, SB15, back⟩ := S.calln 0 ((.z 0 rfl .nil))
  refine zu (zo vJ) (by decide) (vH SB15 er13) ?_
  rintro _ w14 ⟨rfl, S2⟩
  replace S := back _ _ _ _ S2 rfl
  clear back S2 SB15
  refine wd (jX jl y4 rfl (Nd.get_kind _)) (zd ?_)
  refine zF (zb (za (wd (zN rfl rfl) (wd (zl rfl) (zd ?_)))))
  refine zC rfl (fun hc16 => ?_) (fun hc16 => ?_)
  ·replace H := if_t hc16 H
   refine zb (za (wd (zi yC rfl (o' := 0) rfl) (wd (zj xd rfl ((S.blk 1).cells (Sq.sub_left _)) (Bits.len _)) (wd (zi yB rfl (o' := 2) rfl) (wd (zm zQ rfl ((S.blk 0).cell (Nd.get_l _))) ?_)))))
   obtain ⟨r17, er17, H⟩ := zp H
   obtain ⟨B19, MB19, SB19, back⟩ := S.calln 0 ((.nil))
   refine zu (zo ca_bits_Has) (by decide) (bits_Has_st SB19 er17) ?_
   rintro _ w18 ⟨rfl, S2⟩
   replace S := back _ _ _ _ S2 rfl
   clear back S2 SB19
   refine zd ?_
   refine zC rfl (fun hc20 => ?_) (fun hc20 => ?_)
   ·replace H := if_t hc20 H
    refine zb (za (wd (zf rfl) (zd (zn ?_))))
    refine ⟨_, (zS (ze rfl)), ?_⟩
    replace S := S.arr [] []
    obtain rfl := Option.some.inj H
    exact ⟨rfl, S⟩
   replace H := if_f hc20 H
   refine zt (zb (za (wd (zf rfl) (zd (zn ?_)))))
   refine ⟨_, (zS (ze rfl)), ?_⟩
   replace S := S.arr [] []
   obtain rfl := Option.some.inj H
   exact ⟨rfl, S⟩
  ·replace H := if_f hc16 H
   refine zb (za (wd (zN rfl rfl) (wd (zl rfl) (zd ?_))))
   refine zC rfl (fun hc21 => ?_) (fun hc21 => ?_)
   ·replace H := if_t hc21 H
    refine zb (za (wd (zf rfl) (zd (zn ?_))))
    refine ⟨_, (zS (ze rfl)), ?_⟩
    replace S := S.arr [] []
    obtain rfl := Option.some.inj H
    exact ⟨rfl, S⟩
   replace H := if_f hc21 H
   refine zb (za (wd (zN rfl rfl) (wd (zl rfl) (zd ?_))))
   refine zC rfl (fun hc22 => ?_) (fun hc22 => ?_)
   ·replace H := if_t hc22 H
    refine zb (za (wd (zf rfl) (zd (zn ?_))))
    refine ⟨_, (zS (ze rfl)), ?_⟩
    replace S := S.arr [] []
    obtain rfl := Option.some.inj H
    exact ⟨rfl, S⟩
   replace H := if_f hc22 H
   refine zb (za (wd (zN rfl rfl) (wd (zl rfl) (zd ?_))))
   refine zC rfl (fun hc23 => ?_) (fun hc23 => ?_)
   ·replace H := if_t hc23 H
    refine zb (za (wd (zf rfl) (zd (zn ?_))))
    refine ⟨_, (zS (ze rfl)), ?_⟩
    replace S := S.arr [] []
    obtain rfl := Option.some.inj H
    exact ⟨rfl, S⟩
   replace H := if_f hc23 H
   refine zb (za (wd (zN rfl rfl) (wd (zl rfl) (zd ?_))))
   refine zC rfl (fun hc24 => ?_) (fun hc24 => ?_)
   ·replace H := if_t hc24 H
    refine zb (za (wd (zf rfl) (zd (zn ?_))))
    refine ⟨_, (zS (ze rfl)), ?_⟩
    replace S := S.arr [] []
    obtain rfl := Option.some.inj H
    exact ⟨rfl, S⟩
   replace H := if_f hc24 H
   refine zt (zb (za (wd (zf rfl) (zd (zn ?_)))))
   refine ⟨_, (zS (ze rfl)), ?_⟩
   replace S := S.arr [] []
   obtain rfl := Option.some.inj H
   exact ⟨rfl, S⟩
 ·replace H := if_f hc12 H
  refine zt (zb (za (wd (zf rfl) (zd (zn ?_)))))
  refine ⟨_, (zS (ze rfl)), ?_⟩
  replace S := S.arr [] []
  obtain rfl := Option.some.inj H
  exact ⟨rfl, S⟩
theorem rule_fits_st {A : Nat → Prop} {N : Oth} {w : World} {a0 : Tb} {a_0 : Option Addr} {a1 : Sq} {a2 : Int} {a3 : Int} (S : St A N w w [] [oT a_0 a0]) {r : Bool} (H : rule_fits.f a0 a1 a2 a3 = some r) :
  Calls PP F_rule_fits #[.pointer a_0, .agg (Sq.C a1).toArray, .int .i64 a2, .int .i64 a3] w fun e w' => ∃ v, e = .returned v ∧ (v = .bool r ∧ St A N w w' [] []) := by
 unfold rule_fits.f at H
 refine zw (n := 74) fn_rule_fits rfl rfl (by simp) (zb (za ?_))
 refine zJ rfl (by decide) fun b2 w1 hw1 => ?_
 replace S := S.new hw1
 refine wd (zl rfl) (zd (zb (zb (za (wd (zh rfl) (wd (xm rfl rfl) (wd (zB rfl) (wg (fun hg => zh rfl) (wg (fun hg => zr rfl) ?_)))))))))
 obtain ⟨r3, er3, H⟩ := zp H
 refine yI (j := 2) (pol := false) rfl rfl rfl (by decide) (fun hg => zM ym (zO (zq hg) rfl)) (by decide) (fun hg => (have ⟨M, SS⟩ := S.lend ((.z 0 rfl .nil)); quiet (yl SS (if_t (by simpa using hg) er3)) (fun v w' h => ⟨h.1, _, _, h.2⟩))) fun w4 hw4 => ?_
 replace S := S.ext hw4
 refine wg (fun hg => vz (zq hg) (zq hg)) (wd (xU rfl (fun hp => (zq (xF hp)))) (zd ?_))
 refine zC rfl (fun hc5 => ?_) (fun hc5 => ?_)
 ·replace H := if_t hc5 H
  refine zb (za (wd (zl rfl) (zd (zn ?_))))
  refine ⟨_, (zS (ze rfl)), ?_⟩
  replace S := S.arr [] []
  obtain rfl := Option.some.inj H
  exact ⟨rfl, S⟩
 replace H := if_f hc5 H
 refine zt (zb ?_)
 refine yn 8 (Ext w4) hmix (by kernel_rfl) (by kernel_rfl) (Ext.drawn _) (zy (fun v K => zh rfl) (zy (fun v K => zi yE rfl (o' := 16) rfl) (zy (fun v K => zm zQ rfl (((S.ext K).blk 0).cell (Sq.get_goal _))) (zy (fun v K => zN rfl rfl) (zy (fun v K => zi yC rfl (o' := 0) rfl) (zy (fun v K => zj xd rfl (((S.ext K).blk 0).cells (Sq.sub_left _)) (Bits.len _)) (zy (fun v K => zh rfl) ?_)))))))
 obtain ⟨r6, er6, H⟩ := zp H
 refine wq_call (fun v => zo ca_bits_Has) (fun v K => (have ⟨M, SS⟩ := (S.ext K).lend ((.nil)); quiet (bits_Has_st SS er6) (fun v w' h => ⟨h.1, _, _, h.2⟩))) (fun v v' K h => K.thenExt h) ?_
 refine vt fun w7 K => ?_
 replace S := S.ext K
 clear K
 refine wd (zl rfl) (wd (zl rfl) (zd (zb (za (wd (zr rfl) (wd (zh rfl) ?_))))))
 obtain ⟨r8, er8, H⟩ := zp H
 obtain ⟨B10, MB10, SB10, back⟩ := S.calln 0 ((.z 0 rfl .nil))
 refine zu (zo vJ) (by decide) (vH SB10 er8) ?_
 rintro _ w9 ⟨rfl, S2⟩
 replace S := back _ _ _ _ S2 rfl
 clear back S2 SB10
 refine wd (jX jl y4 rfl (Nd.get_kind _)) (wd (zf rfl) (zd (zb (zb (za (wd (zh rfl) (zd ?_)))))))
 refine zF (zb (za (wd (zN rfl rfl) (wd (zl rfl) (zd ?_)))))
 refine zC rfl (fun hc11 => ?_) (fun hc11 => ?_)
 ·replace H := if_t hc11 H
  refine zb (za (wd (zB rfl) (wd (zB rfl) (wg (fun hg => zB rfl) (wd (xe rfl (fun hp => (zq (xF hp)))) (wd (zl rfl) (zd (zn ?_))))))))
  refine ⟨_, (zS (ze rfl)), ?_⟩
  replace S := S.arr [] []
  obtain rfl := Option.some.inj H
  exact ⟨rfl, S⟩
 replace H := if_f hc11 H
 refine zb (za (wd (zN rfl rfl) (wd (zl rfl) (zd ?_))))
 refine zC rfl (fun hc12 => ?_) (fun hc12 => ?_)
 ·replace H := if_t hc12 H
  refine zb (za (wd (zB rfl) (wd (zB rfl) (wg (fun hg => zh rfl) (wg (fun hg => zN (zq hg) rfl) (wd (xe rfl (fun hp => (zq (xF hp)))) (wd (zl rfl) (zd (zn ?_)))))))))
  refine ⟨_, (zS (ze rfl)), ?_⟩
  replace S := S.arr [] []
  obtain rfl := Option.some.inj H
  exact ⟨rfl, S⟩
 replace H := if_f hc12 H
 refine zb (za (wd (zN rfl rfl) (wd (zl rfl) (zd ?_))))
 refine zC rfl (fun hc13 => ?_) (fun hc13 => ?_)
 ·replace H := if_t hc13 H
  refine zb (za (wd (zB rfl) (wd (zB rfl) (wg (fun hg => zh rfl) (wg (fun hg => zN (zq hg) rfl) (wd (xe rfl (fun hp => (zq (xF hp)))) (wd (zl rfl) (zd (zn ?_)))))))))
  refine ⟨_, (zS (ze rfl)), ?_⟩
  replace S := S.arr [] []
  obtain rfl := Option.some.inj H
  exact ⟨rfl, S⟩
 replace H := if_f hc13 H
 refine zb (zb (za (wd (zN rfl rfl) (wd (zl rfl) (zd ?_)))))
 obtain ⟨o14, e14, Ho14⟩ := zp H
 replace H := e14; clear e14
 refine yT [53, 55] (fun fr W => fr 53 = .bool o14 ∧ St A N w W [oB b2 T_Sq (Sq.C a1)] [oT a_0 a0]) ?_ ?_
 ·refine zC rfl (fun hc15 => ?_) (fun hc15 => ?_)
  ·replace H := if_t hc15 H
   refine zt ?_
   obtain rfl := Option.some.inj H
   exact ⟨rfl, (Dif.refl _ _), rfl, S⟩
  ·replace H := if_f hc15 H
   refine za (wd (zN rfl rfl) (wd (zl rfl) (zd ?_)))
   obtain rfl := Option.some.inj H
   exact ⟨rfl, (((Dif.refl _ _).upd rfl _).upd rfl _), rfl, S⟩
 rintro g16 u17 ⟨p14_53, S⟩
 have H := Ho14
 refine zC p14_53 (fun hc18 => ?_) (fun hc18 => ?_)
 ·replace H := if_t hc18 H
  refine zb (za (wd (zB rfl) (wd (zB rfl) (wg (fun hg => zh rfl) (wg (fun hg => zN (zq hg) rfl) (wd (xe rfl (fun hp => (zq (xF hp)))) (wd (zl rfl) (zd (zn ?_)))))))))
  refine ⟨_, (zS (ze rfl)), ?_⟩
  replace S := S.arr [] []
  obtain rfl := Option.some.inj H
  exact ⟨rfl, S⟩
 replace H := if_f hc18 H
 refine zt (zb (za (wd (zh rfl) (wd (xc rfl rfl) (wd (zB rfl) (wg (fun hg => zB rfl) (wd (xe rfl (fun hp => (zq (xF hp)))) (wd (zB rfl) (wg (fun hg => zr rfl) (wg (fun hg => zj xQ rfl ((S.blk 0).all _ (Sq.len _)) (Sq.len _)) (wg (fun hg => zh rfl) ?_)))))))))))
 obtain ⟨r19, er19, H⟩ := zp H
 refine yI (j := 5) (pol := true) rfl rfl rfl (by decide) (fun hg => zM kZ (zO (zq hg) (zO (zq hg) (zO (zq hg) rfl)))) (by decide) (fun hg => (have ⟨M, SS⟩ := S.lend ((.z 0 rfl .nil)); quiet (kU SS (if_t (by simpa using hg) er19)) (fun v w' h => ⟨h.1, _, _, h.2⟩))) fun w20 hw20 => ?_
 replace S := S.ext hw20
 refine wg (fun hg => zh rfl) (wg (fun hg => zN (zq hg) (zq hg)) (wd (xe rfl (fun hp => (zq (xF hp)))) (wd (zl rfl) (zd (zn ?_)))))
 refine ⟨_, (zS (ze rfl)), ?_⟩
 replace S := S.arr [] []
 obtain rfl := Option.some.inj H
 exact ⟨rfl, S⟩
theorem vb {A : Nat → Prop} {N : Oth} {w : World} {a0 : Sq} {a1 : List Int} {s_1 : SlV} (S : St A N w w [] [fS 1 IC s_1 a1]) {r : Sq} (H : rule_with.f a0 a1 = some r) :
  Calls PP F_rule_with #[.agg (Sq.C a0).toArray, s_1.v] w fun e w' => ∃ v, e = .returned v ∧ (v = .agg (Sq.C r).toArray ∧ St A N w w' [] []) := by
 unfold rule_with.f at H
 refine zw (n := 18) fn_rule_with rfl rfl (by simp) (zb (za ?_))
 refine zJ rfl (by decide) fun b2 w1 hw1 => ?_
 replace S := S.new hw1
 refine zP ze_Sq (by decide) fun b4 w3 hw3 => ?_
 replace S := S.new hw3
 refine zd (zb (za (wd (zR rfl) ?_)))
 obtain ⟨r5, er5, H⟩ := zp H
 obtain ⟨B7, MB7, SB7, back⟩ := S.calln 0 ((.z 0 rfl .nil))
 refine zu (zo ca_bits_Of) (by decide) (bits_Of_st SB7 er5) ?_
 rintro _ w6 ⟨rfl, S2⟩
 replace S := back _ _ _ _ S2 rfl
 clear back S2 SB7
 refine wd (zK rfl) (wd (zk rfl rfl) (wd (zk rfl rfl) ?_))
 refine zP jK (by decide) fun b9 w8 hw8 => ?_
 replace S := S.new hw8
 refine zx xd rfl rfl (S.blk 0) (Bits.len _) (by rw [Bits.len]; decide) (Bits.one _) (zG (Bits.len _)) fun w10 B hw10 zw10 => ?_
 replace S := S.store 0 B hw10
 clear B
 refine wd (zf rfl) (zd (zb (za (wd (zi yC rfl (o' := 0) rfl) (wd (zj xd rfl ((S.blk 2).cells (Sq.sub_left _)) (Bits.len _)) (wd (zj xd rfl ((S.blk 0).all _ (Bits.len _)) (Bits.len _)) ?_))))))
 obtain ⟨r11, er11, H⟩ := zp H
 obtain ⟨B13, MB13, SB13, back⟩ := S.calln 0 ((.nil))
 refine zu (zo ca_bits_Union) (by decide) (bits_Union_st SB13 er11) ?_
 rintro _ w12 ⟨rfl, S2⟩
 replace S := back _ _ _ _ S2 rfl
 clear back S2 SB13
 refine wd (zi yC rfl (o' := 0) rfl) ?_
 refine zx xd rfl rfl (S.blk 2) (Bits.len _) (by rw [Sq.len]; decide) (Bits.one _) (Sq.put_left _ _) fun w14 B hw14 zw14 => ?_
 replace S := S.store 2 B hw14
 clear B
 refine zd (zb (za (wd (zj xQ rfl ((S.blk 0).all _ (Sq.len _)) (Sq.len _)) ?_)))
 refine zx xQ rfl rfl (S.blk 2) (Sq.len _) (by rw [Sq.len]; decide) (Sq.one _) (zG (Sq.len _)) fun w15 B hw15 zw15 => ?_
 replace S := S.store 2 B hw15
 clear B
 refine zd (zn ?_)
 refine ⟨_, (zS (zV xQ rfl ((S.blk 0).all _ (Sq.len _)) (Sq.len _))), ?_⟩
 replace S := S.arr [] []
 obtain rfl := Option.some.inj H
 exact ⟨rfl, S⟩
theorem jU {A : Nat → Prop} {N : Oth} {w : World} {a0 : Sq} {a1 : Int} (S : St A N w w [] []) {r : Sq} (H : rule_to.f a0 a1 = some r) :
  Calls PP F_rule_to #[.agg (Sq.C a0).toArray, .int .i64 a1] w fun e w' => ∃ v, e = .returned v ∧ (v = .agg (Sq.C r).toArray ∧ St A N w w' [] []) := by
 unfold rule_to.f at H
 refine zw (n := 8) fn_rule_to rfl rfl (by simp) (zb (za ?_))
 refine zJ rfl (by decide) fun b2 w1 hw1 => ?_
 replace S := S.new hw1
 refine zP ze_Sq (by decide) fun b4 w3 hw3 => ?_
 replace S := S.new hw3
 refine zd (zb (za (wd (zh rfl) (wd (zi yE rfl (o' := 16) rfl) ?_))))
 refine xi zQ rfl rfl (S.blk 1) (by rw [Sq.len]; decide) rfl (Sq.set_goal _ _) fun w5 B hw5 zw5 => ?_
 replace S := S.store 1 B hw5
 clear B
 refine zd (zb (za (wd (zj xQ rfl ((S.blk 0).all _ (Sq.len _)) (Sq.len _)) ?_)))
 refine zx xQ rfl rfl (S.blk 1) (Sq.len _) (by rw [Sq.len]; decide) (Sq.one _) (zG (Sq.len _)) fun w6 B hw6 zw6 => ?_
 replace S := S.store 1 B hw6
 clear B
 refine zd (zn ?_)
 refine ⟨_, (zS (zV xQ rfl ((S.blk 0).all _ (Sq.len _)) (Sq.len _))), ?_⟩
 replace S := S.arr [] []
 obtain rfl := Option.some.inj H
 exact ⟨rfl, S⟩
theorem rule_look_st {A : Nat → Prop} {N : Oth} {w : World} {a0 : Tb} {a_0 : Option Addr} {a1 : Sq} (S : St A N w w [] [oT a_0 a0, oTz]) {r : Int} (H : rule_look.f a0 a1 = some r) :
  Calls PP F_rule_look #[.pointer a_0, .agg (Sq.C a1).toArray] w fun e w' => ∃ v, e = .returned v ∧ (v = .int .i64 r ∧ St A N w w' [] []) := by
 unfold rule_look.f at H
 refine zw (n := 34) fn_rule_look rfl rfl (by simp) (zb (za ?_))
 refine kX rfl (by decide) fun b2 w1 hw1 => ?_
 replace S := S.new hw1
 refine zJ rfl (by decide) fun b4 w3 hw3 => ?_
 replace S := S.new hw3
 refine zP ze_api_Errno (by decide) fun b6 w5 hw5 => ?_
 replace S := S.new hw5
 refine zd (zb (zb (za (wd (zm zL rfl ((S.blk 2).cell rfl)) ?_))))
 obtain ⟨r7, er7, H⟩ := zp H
 obtain ⟨B9, MB9, SB9, back⟩ := S.calln 0 ((.z 0 rfl .nil))
 refine zu (zo uM) (by decide) (vP SB9 rfl er7) ?_
 rintro _ w8 ⟨rfl, S2⟩
 replace S := back _ _ _ _ S2 rfl
 clear back S2 SB9
 refine wd (zK rfl) (wd (zk rfl rfl) (wd (zk rfl rfl) (wd (zf rfl) (wd (zf rfl) (zd (zb (za (wd (zh rfl) (wd (zN rfl rfl) (zd ?_))))))))))
 refine zC rfl (fun hc10 => ?_) (fun hc10 => ?_)
 ·replace H := if_t hc10 H
  refine zb (za (wd (zh rfl) ?_))
  refine xi xy rfl rfl (S.blk 0) (by simp) rfl rfl fun w11 B hw11 zw11 => ?_
  replace S := S.store 0 B hw11
  clear B
  refine zd (zn ?_)
  refine ⟨_, (zS (yw xy rfl ((S.blk 0).cell rfl))), ?_⟩
  replace S := S.arr [] []
  obtain rfl := Option.some.inj H
  exact ⟨rfl, S⟩
 replace H := if_f hc10 H
 refine zt (zb (zb (za (wd (zi yC rfl (o' := 0) rfl) (wd (zj xd rfl ((S.blk 1).cells (Sq.sub_left _)) (Bits.len _)) ?_)))))
 refine zu (zo jq) (by decide) (jt _ a1.left) ?_
 rintro _ w12 ⟨c13, rfl, Bc13, hc13, Ec13⟩
 replace S := S.addZ (b := oB c13 vT (Bits.C a1.left)) (G := (· = c13)) Ec13 ⟨Bc13, fun _ => Iff.rfl⟩ (fun i hi => by rw [hi]; exact hc13)
 refine zd ?_
 refine zF ?_
 obtain ⟨hok14, H⟩ := xK H
 obtain ⟨o15, e15, Ho15⟩ := zp H
 clear H
 refine j5 (xs := Bits.list a1.left) (enc := fun (x : Nat) => Value.int .i64 (x : Int)) (bd := (fun (x : Nat) (s : Int) => rule_look.b0 a0 (x : Int) s)) (L := (fun (s : Int) (c : Unit) => [oB b6 zas [.int .i64 s], oB b4 T_Sq (Sq.C a1), oB b2 zT [.pointer a_0]])) (Lr := (fun (s : Int) (c : Unit) => [oB b6 zas [.int .i64 s], oB b4 T_Sq (Sq.C a1), oB b2 zT [.pointer a_0]])) (Z := [oB c13 vT (Bits.C a1.left), oT a_0 a0, oTz]) () false 0 rfl ur (vo (Bits.okB_ok hok14) c13) (by decide) (fun N' s c W h => ⟨h.blkZ 0, h.tz 2⟩) S e15 ?_ ?_ ?_ ?_
 ·rintro i15 x15_0 _ q15 N15 rd u15 H S
  replace S := S
  refine za (wd (zf rfl) (zd ?_))
  refine ⟨rfl, S, fun M15 v15 S => ?_⟩
  replace S := S
  replace H : rule_look.b0 a0 (i15 : Int) x15_0 = some q15 := H
  unfold rule_look.b0 at H
  try dsimp only at H
  refine zF (zb (za (wd (zh rfl) (wd (zm zL rfl ((S.blk 2).cell rfl)) ?_))))
  obtain ⟨r16, er16, H⟩ := zp H
  obtain ⟨B18, MB18, SB18, back⟩ := S.calln 0 ((.z 1 rfl .nil))
  refine zu (zo ym) (by decide) (yl SB18 er16) ?_
  rintro _ w17 ⟨rfl, S2⟩
  replace S := back _ _ _ _ S2 rfl
  clear back S2 SB18
  refine wd (vz rfl rfl) (zd ?_)
  refine zC rfl (fun hc19 => ?_) (fun hc19 => ?_)
  ·replace H := if_t hc19 H
   refine zb (za ?_)
   refine xi xy rfl rfl (S.blk 0) (by simp) rfl rfl fun w20 B hw20 zw20 => ?_
   replace S := S.store 0 B hw20
   clear B
   refine zd (zn ?_)
   obtain rfl := Option.some.inj H
   exact ⟨_, rfl, (), S⟩
  replace H := if_f hc19 H
  refine zt ?_
  obtain rfl := Option.some.inj H
  exact ⟨_, rfl, (), S⟩
 ·rintro s15 _ B15 w21 rfl S hB15
  replace S := S
  have H := Ho15
  dsimp only [fin] at H
  refine zb (zb ?_)
  refine yn 8 (Ext w21) hmix (by kernel_rfl) (by kernel_rfl) (Ext.drawn _) (zy (fun v K => zi yE rfl (o' := 16) rfl) (zy (fun v K => zm zQ rfl (((S.ext K).blk 1).cell (Sq.get_goal _))) (zy (fun v K => xm rfl rfl) (zy (fun v K => zB rfl) (zaW (j := 3) (pol := false) rfl rfl rfl (fun hg v K => zi yE rfl (o' := 16) rfl) (zaW (j := 3) (pol := false) rfl rfl rfl (fun hg v K => zm zQ (zq hg) (((S.ext K).blk 1).cell (Sq.get_goal _))) (zaW (j := 3) (pol := false) rfl rfl rfl (fun hg v K => zm zL rfl (((S.ext K).blk 2).cell rfl)) ?_)))))))
  obtain ⟨r22, er22, H⟩ := zp H
  refine wq_gcall (j := 3) (pol := false) rfl rfl rfl (fun hg v => zM ym (zO (zq hg) rfl)) (fun hg v K => (have ⟨M, SS⟩ := (S.ext K).lend ((.z 1 rfl .nil)); quiet (yl SS (if_t (by simpa using hg) er22)) (fun v w' h => ⟨h.1, _, _, h.2⟩))) (fun v v' K h => K.thenExt h) ?_
  refine vt fun w23 K => ?_
  replace S := S.ext K
  clear K
  refine wg (fun hg => vz (zq hg) (zq hg)) (wd (xU rfl (fun hp => (zq (xF hp)))) (zd ?_))
  refine zC rfl (fun hc24 => ?_) (fun hc24 => ?_)
  ·replace H := if_t hc24 H
   refine zb (za ?_)
   refine xi xy rfl rfl (S.blk 0) (by simp) rfl rfl fun w25 B hw25 zw25 => ?_
   replace S := S.store 0 B hw25
   clear B
   refine zd (zn ?_)
   refine end1 (.inl rfl) (S.take hB15).1 fun w26 hcw26 => ?_
   replace S := (S.take hB15).2 _ hcw26
   refine ⟨_, (zS (yw xy rfl ((S.blk 0).cell rfl))), ?_⟩
   replace S := S.arr [] []
   obtain rfl := Option.some.inj H
   exact ⟨rfl, S⟩
  replace H := if_f hc24 H
  refine zt (zb (za ?_))
  refine xi xy rfl rfl (S.blk 0) (by simp) rfl rfl fun w27 B hw27 zw27 => ?_
  replace S := S.store 0 B hw27
  clear B
  refine zd (zn ?_)
  refine end1 (.inl rfl) (S.take hB15).1 fun w28 hcw28 => ?_
  replace S := (S.take hB15).2 _ hcw28
  refine ⟨_, (zS (yw xy rfl ((S.blk 0).cell rfl))), ?_⟩
  replace S := S.arr [] []
  obtain rfl := Option.some.inj H
  exact ⟨rfl, S⟩
 ·rintro s15 _ B15 w29 rfl S hB15
  replace S := S
  have H := Ho15
  dsimp only [fin] at H
  refine end1 (.inl rfl) (S.take hB15).1 fun w30 hcw30 => ?_
  replace S := (S.take hB15).2 _ hcw30
  refine ⟨_, (zS (yw xy rfl ((S.blk 0).cell rfl))), ?_⟩
  replace S := S.arr [] []
  obtain rfl := Option.some.inj H
  exact ⟨rfl, S⟩
 ·intro h; cases h
theorem rule_apply_1_1_st {A : Nat → Prop} {N : Oth} {w : World} {a0 : Int} (S : St A N w w [] []) {r : Bool} (H : rule_apply_1_1.f a0 = some r) :
  Calls PP v7 #[.int .i64 a0] w fun e w' => ∃ v, e = .returned v ∧ (v = .bool r ∧ St A N w w' [] []) := by
 unfold rule_apply_1_1.f at H
 refine zw (n := 5) fn_rule_apply_1_1 rfl rfl (by simp) (zb (za (wd (zl rfl) (zd (zb (za (wd (zh rfl) (wd (zN rfl rfl) (wd (zl rfl) (zd (zn ?_)))))))))))
 refine ⟨_, (zS (ze rfl)), ?_⟩
 obtain rfl := Option.some.inj H
 exact ⟨rfl, S⟩
theorem ke {A : Nat → Prop} {N : Oth} {w : World} {a0 : Tb} {a_0 : Option Addr} {a1 : Sq} (S : St A N w w [] [oT a_0 a0, oTz]) {r : Fnd × Bool} (H : rule_least__rule_apply_1_1.f a0 a1 = some r) :
  Calls PP kF #[.pointer a_0, .agg (Sq.C a1).toArray, .func (.func v7) #[] #[]] w fun e w' => ∃ v, e = .returned v ∧ (v = .tuple #[.agg (Fnd.C r.1).toArray, .bool r.2] ∧ St A N w w' [] []) := by
 unfold rule_least__rule_apply_1_1.f at H
 refine zw (n := 25) zaK rfl rfl (by simp) (zb (za ?_))
 refine kX rfl (by decide) fun b2 w1 hw1 => ?_
 replace S := S.new hw1
 refine zJ rfl (by decide) fun b4 w3 hw3 => ?_
 replace S := S.new hw3
 refine wl_box_f rfl (by decide) fun b6 w5 hw5 => ?_
 replace S := S.new hw5
 refine zP uJ (by decide) fun b8 w7 hw7 => ?_
 replace S := S.new hw7
 refine zP ze_bool (by decide) fun b10 w9 hw9 => ?_
 replace S := S.new hw9
 refine zd (zb (zb (za (wd (zi yC rfl (o' := 0) rfl) (wd (zj xd rfl ((S.blk 3).cells (Sq.sub_left _)) (Bits.len _)) ?_)))))
 refine zu (zo jq) (by decide) (jt _ a1.left) ?_
 rintro _ w11 ⟨c12, rfl, Bc12, hc12, Ec12⟩
 replace S := S.addZ (b := oB c12 vT (Bits.C a1.left)) (G := (· = c12)) Ec12 ⟨Bc12, fun _ => Iff.rfl⟩ (fun i hi => by rw [hi]; exact hc12)
 refine zd ?_
 refine zF ?_
 obtain ⟨hok13, H⟩ := xK H
 obtain ⟨o14, e14, Ho14⟩ := zp H
 clear H
 refine j5 (xs := Bits.list a1.left) (enc := fun (x : Nat) => Value.int .i64 (x : Int)) (bd := (fun (x : Nat) (s : Bool × Fnd) => rule_least__rule_apply_1_1.b0 a0 a1 (x : Int) s.1 s.2)) (L := (fun (s : Bool × Fnd) (c : Unit) => [oB b10 T_bool [.bool s.1], oB b8 T_Fnd (Fnd.C s.2), oB b6 yF [.func (.func v7) #[] #[]], oB b4 T_Sq (Sq.C a1), oB b2 zT [.pointer a_0]])) (Lr := (fun (s : Bool × Fnd) (c : Unit) => [oB b10 T_bool [.bool s.1], oB b8 T_Fnd (Fnd.C s.2), oB b6 yF [.func (.func v7) #[] #[]], oB b4 T_Sq (Sq.C a1), oB b2 zT [.pointer a_0]])) (Z := [oB c12 vT (Bits.C a1.left), oT a_0 a0, oTz]) () false 0 rfl ur (vo (Bits.okB_ok hok13) c12) (by decide) (fun N' s c W h => ⟨h.blkZ 0, h.tz 2⟩) S e14 ?_ ?_ ?_ ?_
 ·rintro i14 ⟨x14_0, x14_1⟩ _ q14 N14 rd u14 H S
  replace S := S
  refine za (wd (zf rfl) (zd ?_))
  refine ⟨rfl, S, fun M14 v14 S => ?_⟩
  replace S := S
  replace H : rule_least__rule_apply_1_1.b0 a0 a1 (i14 : Int) x14_0 x14_1 = some q14 := H
  unfold rule_least__rule_apply_1_1.b0 at H
  try dsimp only at H
  refine zF (zb (za (wd (zm zL rfl ((S.blk 4).cell rfl)) (wd (zj xQ rfl ((S.blk 3).all _ (Sq.len _)) (Sq.len _)) (wd (zh rfl) ?_)))))
  obtain ⟨r15, er15, H⟩ := zp H
  obtain ⟨B17, MB17, SB17, back⟩ := S.calln 0 ((.z 1 rfl .nil))
  refine zu (zo kZ) (by decide) (kU SB17 er15) ?_
  rintro _ w16 ⟨rfl, S2⟩
  replace S := back _ _ _ _ S2 rfl
  clear back S2 SB17
  refine wd (zf rfl) (zd (zb (za (wd (zm uA rfl ((S.blk 2).cell rfl)) (wd (zh rfl) ?_)))))
  obtain ⟨r18, er18, H⟩ := zp H
  obtain ⟨B20, MB20, SB20, back⟩ := S.calln 0 ((.nil))
  refine zu (ye ca_rule_apply_1_1 rfl) (by decide) (rule_apply_1_1_st SB20 er18) ?_
  rintro _ w19 ⟨rfl, S2⟩
  replace S := back _ _ _ _ S2 rfl
  clear back S2 SB20
  refine zd ?_
  refine zC rfl (fun hc21 => ?_) (fun hc21 => ?_)
  ·replace H := if_t hc21 H
   refine zb (za (wd (zh rfl) (wd (zh rfl) (wd (xB zaL (Bld.one rfl rfl (by rw [Fnd.len]; decide) (Fnd.set_k _ _) (Bld.one rfl rfl (by rw [Fnd.len]; decide) (Fnd.set_main _ _) Bld.nil))) ?_))))
   refine zx xC rfl rfl (S.blk 1) (Fnd.len _) (by rw [Fnd.len]; decide) (Fnd.one _) (zG (Fnd.len _)) fun w22 B hw22 zw22 => ?_
   replace S := S.store 1 B hw22
   clear B
   refine xi vx rfl rfl (S.blk 1) (by simp) rfl rfl fun w23 B hw23 zw23 => ?_
   replace S := S.store 1 B hw23
   clear B
   refine zd (zn ?_)
   obtain rfl := Option.some.inj H
   exact ⟨_, rfl, (), S⟩
  replace H := if_f hc21 H
  refine zt ?_
  obtain rfl := Option.some.inj H
  exact ⟨_, rfl, (), S⟩
 ·rintro s14 _ B14 w24 rfl S hB14
  replace S := S
  have H := Ho14
  dsimp only [fin] at H
  refine zb (za (wd (xB zaL Bld.nil) ?_))
  refine zx xC rfl rfl (S.blk 1) (Fnd.len _) (by rw [Fnd.len]; decide) (Fnd.one _) (zG (Fnd.len _)) fun w25 B hw25 zw25 => ?_
  replace S := S.store 1 B hw25
  clear B
  refine xi vx rfl rfl (S.blk 1) (by simp) rfl rfl fun w26 B hw26 zw26 => ?_
  replace S := S.store 1 B hw26
  clear B
  refine zd (zn ?_)
  refine end1 (.inl rfl) (S.take hB14).1 fun w27 hcw27 => ?_
  replace S := (S.take hB14).2 _ hcw27
  refine ⟨_, (zU (zV xC rfl ((S.blk 1).all _ (Fnd.len _)) (Fnd.len _)) (yw vx rfl ((S.blk 0).cell rfl))), ?_⟩
  replace S := S.arr [] []
  obtain rfl := Option.some.inj H
  exact ⟨rfl, S⟩
 ·rintro s14 _ B14 w28 rfl S hB14
  replace S := S
  have H := Ho14
  dsimp only [fin] at H
  refine end1 (.inl rfl) (S.take hB14).1 fun w29 hcw29 => ?_
  replace S := (S.take hB14).2 _ hcw29
  refine ⟨_, (zU (zV xC rfl ((S.blk 1).all _ (Fnd.len _)) (Fnd.len _)) (yw vx rfl ((S.blk 0).cell rfl))), ?_⟩
  replace S := S.arr [] []
  obtain rfl := Option.some.inj H
  exact ⟨rfl, S⟩
 ·intro h; cases h
theorem rule_apply_1_st {A : Nat → Prop} {N : Oth} {w : World} {a0 : Tb} {b_0 : Nat} {a_0_1 : Option Addr} {a1 : Sq} {b_1 : Nat} (S : St A N w w [] [oB b_0 zT [.pointer a_0_1], oT a_0_1 a0, oB b_1 T_Sq (Sq.C a1), oTz]) {r : Fnd × Bool} (H : rule_apply_1.f a0 a1 = some r) :
  Calls PP jF #[.pointer (some ⟨b_0, 0, none⟩), .pointer (some ⟨b_1, 0, none⟩)] w fun e w' => ∃ v, e = .returned v ∧ (v = .tuple #[.agg (Fnd.C r.1).toArray, .bool r.2] ∧ St A N w w' [] []) := by
 unfold rule_apply_1.f at H
 refine zw (n := 9) fn_rule_apply_1 rfl rfl (by simp) (zb (za ?_))
 refine zP uJ (by decide) fun b2 w1 hw1 => ?_
 replace S := S.new hw1
 refine wd (zl rfl) (zd (zb (za (wd (zm zL rfl ((S.blkZ 0).cell rfl)) (wd (zj xQ rfl ((S.blkZ 2).all _ (Sq.len _)) (Sq.len _)) ?_)))))
 obtain ⟨r3, er3, H⟩ := zp H
 obtain ⟨B5, MB5, SB5, back⟩ := S.calln 0 ((.z 1 rfl (.z 3 rfl .nil)))
 refine zu (zo zaJ) (by decide) (ke SB5 er3) ?_
 rintro _ w4 ⟨rfl, S2⟩
 replace S := back _ _ _ _ S2 rfl
 clear back S2 SB5
 refine wd (zk rfl rfl) (wd (zk rfl rfl) ?_)
 refine zx xC rfl rfl (S.blk 0) (Fnd.len _) (by rw [Fnd.len]; decide) (Fnd.one _) (zG (Fnd.len _)) fun w6 B hw6 zw6 => ?_
 replace S := S.store 0 B hw6
 clear B
 refine wd (zl rfl) (zd (zn ?_))
 refine ⟨_, (zU (zV xC rfl ((S.blk 0).all _ (Fnd.len _)) (Fnd.len _)) (ze rfl)), ?_⟩
 replace S := S.arr [] []
 obtain rfl := Option.some.inj H
 exact ⟨rfl, S⟩
theorem rule_apply_2_st {A : Nat → Prop} {N : Oth} {w : World} {a0 : Sq} {b_0 : Nat} (S : St A N w w [] [oB b_0 T_Sq (Sq.C a0)]) {r : Fnd × Bool} (H : rule_apply_2.f a0 = some r) :
  Calls PP jQ #[.pointer (some ⟨b_0, 0, none⟩)] w fun e w' => ∃ v, e = .returned v ∧ (v = .tuple #[.agg (Fnd.C r.1).toArray, .bool r.2] ∧ St A N w w' [] []) := by
 unfold rule_apply_2.f at H
 refine zw (n := 11) fn_rule_apply_2 rfl rfl (by simp) (zb (za ?_))
 refine zP uJ (by decide) fun b2 w1 hw1 => ?_
 replace S := S.new hw1
 refine wd (zl rfl) (zd (zb ?_))
 refine yn 8 (Ext w1) hmix (by kernel_rfl) (by kernel_rfl) (Ext.drawn _) (zy (fun v K => zi yE rfl (o' := 16) rfl) (zy (fun v K => zm zQ rfl (((S.ext K).blkZ 0).cell (Sq.get_goal _))) (zy (fun v K => xB zaL (Bld.one rfl rfl (by rw [Fnd.len]; decide) (Fnd.set_k _ _) (Bld.one rfl rfl (by rw [Fnd.len]; decide) (Fnd.set_main _ _) Bld.nil))) (zy (fun v K => zi yC rfl (o' := 0) rfl) (zy (fun v K => zj xd rfl (((S.ext K).blkZ 0).cells (Sq.sub_left _)) (Bits.len _)) (zy (fun v K => zi yE rfl (o' := 16) rfl) (zy (fun v K => zm zQ rfl (((S.ext K).blkZ 0).cell (Sq.get_goal _))) ?_)))))))
 obtain ⟨r3, er3, H⟩ := zp H
 refine wq_call (fun v => zo ca_bits_Has) (fun v K => (have ⟨M, SS⟩ := (S.ext K).lend ((.nil)); quiet (bits_Has_st SS er3) (fun v w' h => ⟨h.1, _, _, h.2⟩))) (fun v v' K h => K.thenExt h) ?_
 refine vt fun w4 K => ?_
 replace S := S.ext K
 clear K
 refine zx xC rfl rfl (S.blk 0) (Fnd.len _) (by rw [Fnd.len]; decide) (Fnd.one _) (zG (Fnd.len _)) fun w5 B hw5 zw5 => ?_
 replace S := S.store 0 B hw5
 clear B
 refine wd (zl rfl) (zd (zn ?_))
 refine ⟨_, (zU (zV xC rfl ((S.blk 0).all _ (Fnd.len _)) (Fnd.len _)) (ze rfl)), ?_⟩
 replace S := S.arr [] []
 obtain rfl := Option.some.inj H
 exact ⟨rfl, S⟩
theorem rule_apply_3_1_st {A : Nat → Prop} {N : Oth} {w : World} {a0 : Int} (S : St A N w w [] []) {r : Bool} (H : rule_apply_3_1.f a0 = some r) :
  Calls PP v5 #[.int .i64 a0] w fun e w' => ∃ v, e = .returned v ∧ (v = .bool r ∧ St A N w w' [] []) := by
 unfold rule_apply_3_1.f at H
 refine zw (n := 9) fn_rule_apply_3_1 rfl rfl (by simp) (zb (za (wd (zl rfl) (zd (zb (za (wd (zh rfl) (wd (vz rfl rfl) (wd (zB rfl) (wg (fun hg => zh rfl) (wg (fun hg => zao (zq hg) rfl) (wd (xe rfl (fun hp => (zq (xF hp)))) (wd (zl rfl) (zd (zn ?_)))))))))))))))
 refine ⟨_, (zS (ze rfl)), ?_⟩
 obtain rfl := Option.some.inj H
 exact ⟨rfl, S⟩
theorem km {A : Nat → Prop} {N : Oth} {w : World} {a0 : Tb} {a_0 : Option Addr} {a1 : Sq} (S : St A N w w [] [oT a_0 a0, oTz]) {r : Fnd × Bool} (H : rule_least__rule_apply_3_1.f a0 a1 = some r) :
  Calls PP kF #[.pointer a_0, .agg (Sq.C a1).toArray, .func (.func v5) #[] #[]] w fun e w' => ∃ v, e = .returned v ∧ (v = .tuple #[.agg (Fnd.C r.1).toArray, .bool r.2] ∧ St A N w w' [] []) := by
 unfold rule_least__rule_apply_3_1.f at H
 refine zw (n := 25) zaK rfl rfl (by simp) (zb (za ?_))
 refine kX rfl (by decide) fun b2 w1 hw1 => ?_
 replace S := S.new hw1
 refine zJ rfl (by decide) fun b4 w3 hw3 => ?_
 replace S := S.new hw3
 refine wl_box_f rfl (by decide) fun b6 w5 hw5 => ?_
 replace S := S.new hw5
 refine zP uJ (by decide) fun b8 w7 hw7 => ?_
 replace S := S.new hw7
 refine zP ze_bool (by decide) fun b10 w9 hw9 => ?_
 replace S := S.new hw9
 refine zd (zb (zb (za (wd (zi yC rfl (o' := 0) rfl) (wd (zj xd rfl ((S.blk 3).cells (Sq.sub_left _)) (Bits.len _)) ?_)))))
 refine zu (zo jq) (by decide) (jt _ a1.left) ?_
 rintro _ w11 ⟨c12, rfl, Bc12, hc12, Ec12⟩
 replace S := S.addZ (b := oB c12 vT (Bits.C a1.left)) (G := (· = c12)) Ec12 ⟨Bc12, fun _ => Iff.rfl⟩ (fun i hi => by rw [hi]; exact hc12)
 refine zd ?_
 refine zF ?_
 obtain ⟨hok13, H⟩ := xK H
 obtain ⟨o14, e14, Ho14⟩ := zp H
 clear H
 refine j5 (xs := Bits.list a1.left) (enc := fun (x : Nat) => Value.int .i64 (x : Int)) (bd := (fun (x : Nat) (s : Bool × Fnd) => rule_least__rule_apply_3_1.b0 a0 a1 (x : Int) s.1 s.2)) (L := (fun (s : Bool × Fnd) (c : Unit) => [oB b10 T_bool [.bool s.1], oB b8 T_Fnd (Fnd.C s.2), oB b6 yF [.func (.func v5) #[] #[]], oB b4 T_Sq (Sq.C a1), oB b2 zT [.pointer a_0]])) (Lr := (fun (s : Bool × Fnd) (c : Unit) => [oB b10 T_bool [.bool s.1], oB b8 T_Fnd (Fnd.C s.2), oB b6 yF [.func (.func v5) #[] #[]], oB b4 T_Sq (Sq.C a1), oB b2 zT [.pointer a_0]])) (Z := [oB c12 vT (Bits.C a1.left), oT a_0 a0, oTz]) () false 0 rfl ur (vo (Bits.okB_ok hok13) c12) (by decide) (fun N' s c W h => ⟨h.blkZ 0, h.tz 2⟩) S e14 ?_ ?_ ?_ ?_
 ·rintro i14 ⟨x14_0, x14_1⟩ _ q14 N14 rd u14 H S
  replace S := S
  refine za (wd (zf rfl) (zd ?_))
  refine ⟨rfl, S, fun M14 v14 S => ?_⟩
  replace S := S
  replace H : rule_least__rule_apply_3_1.b0 a0 a1 (i14 : Int) x14_0 x14_1 = some q14 := H
  unfold rule_least__rule_apply_3_1.b0 at H
  try dsimp only at H
  refine zF (zb (za (wd (zm zL rfl ((S.blk 4).cell rfl)) (wd (zj xQ rfl ((S.blk 3).all _ (Sq.len _)) (Sq.len _)) (wd (zh rfl) ?_)))))
  obtain ⟨r15, er15, H⟩ := zp H
  obtain ⟨B17, MB17, SB17, back⟩ := S.calln 0 ((.z 1 rfl .nil))
  refine zu (zo kZ) (by decide) (kU SB17 er15) ?_
  rintro _ w16 ⟨rfl, S2⟩
  replace S := back _ _ _ _ S2 rfl
  clear back S2 SB17
  refine wd (zf rfl) (zd (zb (za (wd (zm uA rfl ((S.blk 2).cell rfl)) (wd (zh rfl) ?_)))))
  obtain ⟨r18, er18, H⟩ := zp H
  obtain ⟨B20, MB20, SB20, back⟩ := S.calln 0 ((.nil))
  refine zu (ye ca_rule_apply_3_1 rfl) (by decide) (rule_apply_3_1_st SB20 er18) ?_
  rintro _ w19 ⟨rfl, S2⟩
  replace S := back _ _ _ _ S2 rfl
  clear back S2 SB20
  refine zd ?_
  refine zC rfl (fun hc21 => ?_) (fun hc21 => ?_)
  ·replace H := if_t hc21 H
   refine zb (za (wd (zh rfl) (wd (zh rfl) (wd (xB zaL (Bld.one rfl rfl (by rw [Fnd.len]; decide) (Fnd.set_k _ _) (Bld.one rfl rfl (by rw [Fnd.len]; decide) (Fnd.set_main _ _) Bld.nil))) ?_))))
   refine zx xC rfl rfl (S.blk 1) (Fnd.len _) (by rw [Fnd.len]; decide) (Fnd.one _) (zG (Fnd.len _)) fun w22 B hw22 zw22 => ?_
   replace S := S.store 1 B hw22
   clear B
   refine xi vx rfl rfl (S.blk 1) (by simp) rfl rfl fun w23 B hw23 zw23 => ?_
   replace S := S.store 1 B hw23
   clear B
   refine zd (zn ?_)
   obtain rfl := Option.some.inj H
   exact ⟨_, rfl, (), S⟩
  replace H := if_f hc21 H
  refine zt ?_
  obtain rfl := Option.some.inj H
  exact ⟨_, rfl, (), S⟩
 ·rintro s14 _ B14 w24 rfl S hB14
  replace S := S
  have H := Ho14
  dsimp only [fin] at H
  refine zb (za (wd (xB zaL Bld.nil) ?_))
  refine zx xC rfl rfl (S.blk 1) (Fnd.len _) (by rw [Fnd.len]; decide) (Fnd.one _) (zG (Fnd.len _)) fun w25 B hw25 zw25 => ?_
  replace S := S.store 1 B hw25
  clear B
  refine xi vx rfl rfl (S.blk 1) (by simp) rfl rfl fun w26 B hw26 zw26 => ?_
  replace S := S.store 1 B hw26
  clear B
  refine zd (zn ?_)
  refine end1 (.inl rfl) (S.take hB14).1 fun w27 hcw27 => ?_
  replace S := (S.take hB14).2 _ hcw27
  refine ⟨_, (zU (zV xC rfl ((S.blk 1).all _ (Fnd.len _)) (Fnd.len _)) (yw vx rfl ((S.blk 0).cell rfl))), ?_⟩
  replace S := S.arr [] []
  obtain rfl := Option.some.inj H
  exact ⟨rfl, S⟩
 ·rintro s14 _ B14 w28 rfl S hB14
  replace S := S
  have H := Ho14
  dsimp only [fin] at H
  refine end1 (.inl rfl) (S.take hB14).1 fun w29 hcw29 => ?_
  replace S := (S.take hB14).2 _ hcw29
  refine ⟨_, (zU (zV xC rfl ((S.blk 1).all _ (Fnd.len _)) (Fnd.len _)) (yw vx rfl ((S.blk 0).cell rfl))), ?_⟩
  replace S := S.arr [] []
  obtain rfl := Option.some.inj H
  exact ⟨rfl, S⟩
 ·intro h; cases h
theorem rule_apply_3_st {A : Nat → Prop} {N : Oth} {w : World} {a0 : Tb} {b_0 : Nat} {a_0_1 : Option Addr} {a1 : Sq} {b_1 : Nat} (S : St A N w w [] [oB b_0 zT [.pointer a_0_1], oT a_0_1 a0, oB b_1 T_Sq (Sq.C a1), oTz]) {r : Fnd × Bool} (H : rule_apply_3.f a0 a1 = some r) :
  Calls PP jw #[.pointer (some ⟨b_0, 0, none⟩), .pointer (some ⟨b_1, 0, none⟩)] w fun e w' => ∃ v, e = .returned v ∧ (v = .tuple #[.agg (Fnd.C r.1).toArray, .bool r.2] ∧ St A N w w' [] []) := by
 unfold rule_apply_3.f at H
 refine zw (n := 9) fn_rule_apply_3 rfl rfl (by simp) (zb (za ?_))
 refine zP uJ (by decide) fun b2 w1 hw1 => ?_
 replace S := S.new hw1
 refine wd (zl rfl) (zd (zb (za (wd (zm zL rfl ((S.blkZ 0).cell rfl)) (wd (zj xQ rfl ((S.blkZ 2).all _ (Sq.len _)) (Sq.len _)) ?_)))))
 obtain ⟨r3, er3, H⟩ := zp H
 obtain ⟨B5, MB5, SB5, back⟩ := S.calln 0 ((.z 1 rfl (.z 3 rfl .nil)))
 refine zu (zo zaJ) (by decide) (km SB5 er3) ?_
 rintro _ w4 ⟨rfl, S2⟩
 replace S := back _ _ _ _ S2 rfl
 clear back S2 SB5
 refine wd (zk rfl rfl) (wd (zk rfl rfl) ?_)
 refine zx xC rfl rfl (S.blk 0) (Fnd.len _) (by rw [Fnd.len]; decide) (Fnd.one _) (zG (Fnd.len _)) fun w6 B hw6 zw6 => ?_
 replace S := S.store 0 B hw6
 clear B
 refine wd (zl rfl) (zd (zn ?_))
 refine ⟨_, (zU (zV xC rfl ((S.blk 0).all _ (Fnd.len _)) (Fnd.len _)) (ze rfl)), ?_⟩
 replace S := S.arr [] []
 obtain rfl := Option.some.inj H
 exact ⟨rfl, S⟩
theorem rule_apply_4_st {A : Nat → Prop} {N : Oth} {w : World} {a0 : Sq} {b_0 : Nat} {a1 : Tb} {b_1 : Nat} {a_1_1 : Option Addr} (S : St A N w w [] [oB b_0 T_Sq (Sq.C a0), oB b_1 zT [.pointer a_1_1], oT a_1_1 a1]) {r : Fnd × Bool} (H : rule_apply_4.f a0 a1 = some r) :
  Calls PP jA #[.pointer (some ⟨b_0, 0, none⟩), .pointer (some ⟨b_1, 0, none⟩)] w fun e w' => ∃ v, e = .returned v ∧ (v = .tuple #[.agg (Fnd.C r.1).toArray, .bool r.2] ∧ St A N w w' [] []) := by
 unfold rule_apply_4.f at H
 refine zw (n := 13) fn_rule_apply_4 rfl rfl (by simp) (zb (za ?_))
 refine zP uJ (by decide) fun b2 w1 hw1 => ?_
 replace S := S.new hw1
 refine wd (zl rfl) (zd (zb ?_))
 obtain ⟨r3, er3, H⟩ := zp H
 have hSB := S.blk 0
 have SH : ∀ v, Chg (· = b2) w1 v → St A (N.or (· = b2)) w v [] [oB b_0 T_Sq (Sq.C a0), oB b_1 zT [.pointer a_1_1], oT a_1_1 a1] := fun v hc => S.awayB 0 (hc := hc)
 refine wc_draw2 10 ⟨fun L v => Chg (· = b2) w1 v ∧ (L 9 = false → Ext w1 v) ∧ (L 9 = true → Blk v b2 T_Fnd (Fnd.C (⟨8, a0.goal⟩ : Fnd))), fun L a c => Chg (· = b2) a c ∧ (L 9 = true → Ext a c), fun i v _ => match i with
  | 0 => v = Value.pointer (some ⟨b_0, 16, none⟩)
  | 1 => v = Value.int .i64 a0.goal
  | 2 => v = Value.agg (Fnd.C (⟨8, a0.goal⟩ : Fnd)).toArray
  | 3 => v = Value.pointer a_1_1
  | 4 => v = Value.pointer (some ⟨b_0, 16, none⟩)
  | 5 => v = Value.int .i64 a0.goal
  | 6 => v = Value.agg (Nd.C r3).toArray
  | 7 => v = Value.int .i64 r3.kind
  | 8 => v = Value.bool (decide (r3.kind = 5))
  | _ => True⟩ hmix (by kernel_rfl) (fun _ _ _ _ _ _ _ hv => hv) ⟨(Ext.drawn _).mono (fun _ _ x => x.elim), fun _ => Ext.drawn _, fun h => by cases h⟩ ⟨?_, ?_, ?_, ?_, ?_, ?_, ?_, ?_, ?_, ?_, trivial⟩ ?_
 ·rintro L g v hL hT 
  refine wd (zi yE rfl (o' := 16) rfl) (zd (ob2 ⟨hT.1, fun h => hT.2.1 h, fun h => hT.2.2 h⟩ ⟨Chg.refl _ _, fun _ => Ext.refl _⟩ rfl))
 ·rintro L g v hL hT hv0
  refine wd (zm zQ hv0 (((SH v hT.1).blkZ 0).cell (Sq.get_goal _))) (zd (ob2 ⟨hT.1, fun h => hT.2.1 h, fun h => hT.2.2 h⟩ ⟨Chg.refl _ _, fun _ => Ext.refl _⟩ rfl))
 ·rintro L g v hL hT hv1
  refine wd (xh (vs := [(0, .int .i64 8), (1, .int .i64 a0.goal)]) zaL (x6 rfl (x6 hv1 rfl)) (Bld.one rfl rfl (by rw [Fnd.len]; decide) (Fnd.set_k _ _) (Bld.one rfl rfl (by rw [Fnd.len]; decide) (Fnd.set_main _ _) Bld.nil))) (zd (ob2 ⟨hT.1, fun h => hT.2.1 h, fun h => hT.2.2 h⟩ ⟨Chg.refl _ _, fun _ => Ext.refl _⟩ rfl))
 ·rintro L g v hL hT 
  refine wd (zm zL rfl (((SH v hT.1).blkZ 1).cell rfl)) (zd (ob2 ⟨hT.1, fun h => hT.2.1 h, fun h => hT.2.2 h⟩ ⟨Chg.refl _ _, fun _ => Ext.refl _⟩ rfl))
 ·rintro L g v hL hT 
  refine wd (zi yE rfl (o' := 16) rfl) (zd (ob2 ⟨hT.1, fun h => hT.2.1 h, fun h => hT.2.2 h⟩ ⟨Chg.refl _ _, fun _ => Ext.refl _⟩ rfl))
 ·rintro L g v hL hT hv4
  refine wd (zm zQ hv4 (((SH v hT.1).blkZ 0).cell (Sq.get_goal _))) (zd (ob2 ⟨hT.1, fun h => hT.2.1 h, fun h => hT.2.2 h⟩ ⟨Chg.refl _ _, fun _ => Ext.refl _⟩ rfl))
 ·rintro L g v hL hT hv3 hv5
  refine (have ⟨M, SS⟩ := (SH v hT.1).lend ((.z 2 rfl .nil)); zu (zM vJ (zO hv3 (zO hv5 rfl))) (by decide) (quiet (vH SS er3) (fun v w' h => ⟨h.1, _, _, h.2⟩)) (by rintro _ v' ⟨rfl, hx⟩; exact zd (ob2 ⟨hT.1.thenExt hx, fun h => (hT.2.1 h).trans hx, fun h => (hT.2.2 h).ext hx⟩ ⟨hx.mono (fun _ _ x => x.elim), fun _ => hx⟩ rfl)))
 ·rintro L g v hL hT hv6
  refine wd (jX jl y4 hv6 (Nd.get_kind _)) (zd (ob2 ⟨hT.1, fun h => hT.2.1 h, fun h => hT.2.2 h⟩ ⟨Chg.refl _ _, fun _ => Ext.refl _⟩ rfl))
 ·rintro L g v hL hT hv7
  refine wd (zN hv7 rfl) (zd (ob2 ⟨hT.1, fun h => hT.2.1 h, fun h => hT.2.2 h⟩ ⟨Chg.refl _ _, fun _ => Ext.refl _⟩ rfl))
 ·rintro L g v hL hT hv2
  refine zx xC rfl hv2 (hSB.ext (hT.2.1 hL)) (Fnd.len _) (by rw [Fnd.len]; decide) (Fnd.one _) (zG (Fnd.len _)) fun v' hb hc _ => zd (ob0 ⟨hT.1.trans hc, fun h => (by cases h), fun _ => hb⟩ ⟨hc, fun h => (by rw [hL] at h; cases h)⟩ (fun _ => trivial))
 rintro L g w4 hLm hT hv5_0 hv5_1 hv5_2 hv5_3 hv5_4 hv5_5 hv5_6 hv5_7 hv5_8 _
 replace S := S.store 0 (hT.2.2 (by rw [hLm]; rfl)) hT.1
 clear SH hSB
 refine wd (zl hv5_8) (zd (zn ?_))
 refine ⟨_, (zU (zV xC rfl ((S.blk 0).all _ (Fnd.len _)) (Fnd.len _)) (ze rfl)), ?_⟩
 replace S := S.arr [] []
 obtain rfl := Option.some.inj H
 exact ⟨rfl, S⟩
theorem rule_apply_5_st {A : Nat → Prop} {N : Oth} {w : World} {a0 : Sq} {b_0 : Nat} {a1 : Tb} {b_1 : Nat} {a_1_1 : Option Addr} (S : St A N w w [] [oB b_0 T_Sq (Sq.C a0), oB b_1 zT [.pointer a_1_1], oT a_1_1 a1]) {r : Fnd × Bool} (H : rule_apply_5.f a0 a1 = some r) :
  Calls PP jD #[.pointer (some ⟨b_0, 0, none⟩), .pointer (some ⟨b_1, 0, none⟩)] w fun e w' => ∃ v, e = .returned v ∧ (v = .tuple #[.agg (Fnd.C r.1).toArray, .bool r.2] ∧ St A N w w' [] []) := by
 unfold rule_apply_5.f at H
 refine zw (n := 13) fn_rule_apply_5 rfl rfl (by simp) (zb (za ?_))
 refine zP uJ (by decide) fun b2 w1 hw1 => ?_
 replace S := S.new hw1
 refine wd (zl rfl) (zd (zb ?_))
 obtain ⟨r3, er3, H⟩ := zp H
 have hSB := S.blk 0
 have SH : ∀ v, Chg (· = b2) w1 v → St A (N.or (· = b2)) w v [] [oB b_0 T_Sq (Sq.C a0), oB b_1 zT [.pointer a_1_1], oT a_1_1 a1] := fun v hc => S.awayB 0 (hc := hc)
 refine wc_draw2 10 ⟨fun L v => Chg (· = b2) w1 v ∧ (L 9 = false → Ext w1 v) ∧ (L 9 = true → Blk v b2 T_Fnd (Fnd.C (⟨9, a0.goal⟩ : Fnd))), fun L a c => Chg (· = b2) a c ∧ (L 9 = true → Ext a c), fun i v _ => match i with
  | 0 => v = Value.pointer (some ⟨b_0, 16, none⟩)
  | 1 => v = Value.int .i64 a0.goal
  | 2 => v = Value.agg (Fnd.C (⟨9, a0.goal⟩ : Fnd)).toArray
  | 3 => v = Value.pointer a_1_1
  | 4 => v = Value.pointer (some ⟨b_0, 16, none⟩)
  | 5 => v = Value.int .i64 a0.goal
  | 6 => v = Value.agg (Nd.C r3).toArray
  | 7 => v = Value.int .i64 r3.kind
  | 8 => v = Value.bool (decide (r3.kind = 3))
  | _ => True⟩ hmix (by kernel_rfl) (fun _ _ _ _ _ _ _ hv => hv) ⟨(Ext.drawn _).mono (fun _ _ x => x.elim), fun _ => Ext.drawn _, fun h => by cases h⟩ ⟨?_, ?_, ?_, ?_, ?_, ?_, ?_, ?_, ?_, ?_, trivial⟩ ?_
 ·rintro L g v hL hT 
  refine wd (zi yE rfl (o' := 16) rfl) (zd (ob2 ⟨hT.1, fun h => hT.2.1 h, fun h => hT.2.2 h⟩ ⟨Chg.refl _ _, fun _ => Ext.refl _⟩ rfl))
 ·rintro L g v hL hT hv0
  refine wd (zm zQ hv0 (((SH v hT.1).blkZ 0).cell (Sq.get_goal _))) (zd (ob2 ⟨hT.1, fun h => hT.2.1 h, fun h => hT.2.2 h⟩ ⟨Chg.refl _ _, fun _ => Ext.refl _⟩ rfl))
 ·rintro L g v hL hT hv1
  refine wd (xh (vs := [(0, .int .i64 9), (1, .int .i64 a0.goal)]) zaL (x6 rfl (x6 hv1 rfl)) (Bld.one rfl rfl (by rw [Fnd.len]; decide) (Fnd.set_k _ _) (Bld.one rfl rfl (by rw [Fnd.len]; decide) (Fnd.set_main _ _) Bld.nil))) (zd (ob2 ⟨hT.1, fun h => hT.2.1 h, fun h => hT.2.2 h⟩ ⟨Chg.refl _ _, fun _ => Ext.refl _⟩ rfl))
 ·rintro L g v hL hT 
  refine wd (zm zL rfl (((SH v hT.1).blkZ 1).cell rfl)) (zd (ob2 ⟨hT.1, fun h => hT.2.1 h, fun h => hT.2.2 h⟩ ⟨Chg.refl _ _, fun _ => Ext.refl _⟩ rfl))
 ·rintro L g v hL hT 
  refine wd (zi yE rfl (o' := 16) rfl) (zd (ob2 ⟨hT.1, fun h => hT.2.1 h, fun h => hT.2.2 h⟩ ⟨Chg.refl _ _, fun _ => Ext.refl _⟩ rfl))
 ·rintro L g v hL hT hv4
  refine wd (zm zQ hv4 (((SH v hT.1).blkZ 0).cell (Sq.get_goal _))) (zd (ob2 ⟨hT.1, fun h => hT.2.1 h, fun h => hT.2.2 h⟩ ⟨Chg.refl _ _, fun _ => Ext.refl _⟩ rfl))
 ·rintro L g v hL hT hv3 hv5
  refine (have ⟨M, SS⟩ := (SH v hT.1).lend ((.z 2 rfl .nil)); zu (zM vJ (zO hv3 (zO hv5 rfl))) (by decide) (quiet (vH SS er3) (fun v w' h => ⟨h.1, _, _, h.2⟩)) (by rintro _ v' ⟨rfl, hx⟩; exact zd (ob2 ⟨hT.1.thenExt hx, fun h => (hT.2.1 h).trans hx, fun h => (hT.2.2 h).ext hx⟩ ⟨hx.mono (fun _ _ x => x.elim), fun _ => hx⟩ rfl)))
 ·rintro L g v hL hT hv6
  refine wd (jX jl y4 hv6 (Nd.get_kind _)) (zd (ob2 ⟨hT.1, fun h => hT.2.1 h, fun h => hT.2.2 h⟩ ⟨Chg.refl _ _, fun _ => Ext.refl _⟩ rfl))
 ·rintro L g v hL hT hv7
  refine wd (zN hv7 rfl) (zd (ob2 ⟨hT.1, fun h => hT.2.1 h, fun h => hT.2.2 h⟩ ⟨Chg.refl _ _, fun _ => Ext.refl _⟩ rfl))
 ·rintro L g v hL hT hv2
  refine zx xC rfl hv2 (hSB.ext (hT.2.1 hL)) (Fnd.len _) (by rw [Fnd.len]; decide) (Fnd.one _) (zG (Fnd.len _)) fun v' hb hc _ => zd (ob0 ⟨hT.1.trans hc, fun h => (by cases h), fun _ => hb⟩ ⟨hc, fun h => (by rw [hL] at h; cases h)⟩ (fun _ => trivial))
 rintro L g w4 hLm hT hv5_0 hv5_1 hv5_2 hv5_3 hv5_4 hv5_5 hv5_6 hv5_7 hv5_8 _
 replace S := S.store 0 (hT.2.2 (by rw [hLm]; rfl)) hT.1
 clear SH hSB
 refine wd (zl hv5_8) (zd (zn ?_))
 refine ⟨_, (zU (zV xC rfl ((S.blk 0).all _ (Fnd.len _)) (Fnd.len _)) (ze rfl)), ?_⟩
 replace S := S.arr [] []
 obtain rfl := Option.some.inj H
 exact ⟨rfl, S⟩
theorem rule_apply_6_1_st {A : Nat → Prop} {N : Oth} {w : World} {a0 : Int} (S : St A N w w [] []) {r : Bool} (H : rule_apply_6_1.f a0 = some r) :
  Calls PP ua #[.int .i64 a0] w fun e w' => ∃ v, e = .returned v ∧ (v = .bool r ∧ St A N w w' [] []) := by
 unfold rule_apply_6_1.f at H
 refine zw (n := 5) fn_rule_apply_6_1 rfl rfl (by simp) (zb (za (wd (zl rfl) (zd (zb (za (wd (zh rfl) (wd (zN rfl rfl) (wd (zl rfl) (zd (zn ?_)))))))))))
 refine ⟨_, (zS (ze rfl)), ?_⟩
 obtain rfl := Option.some.inj H
 exact ⟨rfl, S⟩
theorem kh {A : Nat → Prop} {N : Oth} {w : World} {a0 : Tb} {a_0 : Option Addr} {a1 : Sq} (S : St A N w w [] [oT a_0 a0, oTz]) {r : Fnd × Bool} (H : rule_least__rule_apply_6_1.f a0 a1 = some r) :
  Calls PP kF #[.pointer a_0, .agg (Sq.C a1).toArray, .func (.func ua) #[] #[]] w fun e w' => ∃ v, e = .returned v ∧ (v = .tuple #[.agg (Fnd.C r.1).toArray, .bool r.2] ∧ St A N w w' [] []) := by
 unfold rule_least__rule_apply_6_1.f at H
 refine zw (n := 25) zaK rfl rfl (by simp) (zb (za ?_))
 refine kX rfl (by decide) fun b2 w1 hw1 => ?_
 replace S := S.new hw1
 refine zJ rfl (by decide) fun b4 w3 hw3 => ?_
 replace S := S.new hw3
 refine wl_box_f rfl (by decide) fun b6 w5 hw5 => ?_
 replace S := S.new hw5
 refine zP uJ (by decide) fun b8 w7 hw7 => ?_
 replace S := S.new hw7
 refine zP ze_bool (by decide) fun b10 w9 hw9 => ?_
 replace S := S.new hw9
 refine zd (zb (zb (za (wd (zi yC rfl (o' := 0) rfl) (wd (zj xd rfl ((S.blk 3).cells (Sq.sub_left _)) (Bits.len _)) ?_)))))
 refine zu (zo jq) (by decide) (jt _ a1.left) ?_
 rintro _ w11 ⟨c12, rfl, Bc12, hc12, Ec12⟩
 replace S := S.addZ (b := oB c12 vT (Bits.C a1.left)) (G := (· = c12)) Ec12 ⟨Bc12, fun _ => Iff.rfl⟩ (fun i hi => by rw [hi]; exact hc12)
 refine zd ?_
 refine zF ?_
 obtain ⟨hok13, H⟩ := xK H
 obtain ⟨o14, e14, Ho14⟩ := zp H
 clear H
 refine j5 (xs := Bits.list a1.left) (enc := fun (x : Nat) => Value.int .i64 (x : Int)) (bd := (fun (x : Nat) (s : Bool × Fnd) => rule_least__rule_apply_6_1.b0 a0 a1 (x : Int) s.1 s.2)) (L := (fun (s : Bool × Fnd) (c : Unit) => [oB b10 T_bool [.bool s.1], oB b8 T_Fnd (Fnd.C s.2), oB b6 yF [.func (.func ua) #[] #[]], oB b4 T_Sq (Sq.C a1), oB b2 zT [.pointer a_0]])) (Lr := (fun (s : Bool × Fnd) (c : Unit) => [oB b10 T_bool [.bool s.1], oB b8 T_Fnd (Fnd.C s.2), oB b6 yF [.func (.func ua) #[] #[]], oB b4 T_Sq (Sq.C a1), oB b2 zT [.pointer a_0]])) (Z := [oB c12 vT (Bits.C a1.left), oT a_0 a0, oTz]) () false 0 rfl ur (vo (Bits.okB_ok hok13) c12) (by decide) (fun N' s c W h => ⟨h.blkZ 0, h.tz 2⟩) S e14 ?_ ?_ ?_ ?_
 ·rintro i14 ⟨x14_0, x14_1⟩ _ q14 N14 rd u14 H S
  replace S := S
  refine za (wd (zf rfl) (zd ?_))
  refine ⟨rfl, S, fun M14 v14 S => ?_⟩
  replace S := S
  replace H : rule_least__rule_apply_6_1.b0 a0 a1 (i14 : Int) x14_0 x14_1 = some q14 := H
  unfold rule_least__rule_apply_6_1.b0 at H
  try dsimp only at H
  refine zF (zb (za (wd (zm zL rfl ((S.blk 4).cell rfl)) (wd (zj xQ rfl ((S.blk 3).all _ (Sq.len _)) (Sq.len _)) (wd (zh rfl) ?_)))))
  obtain ⟨r15, er15, H⟩ := zp H
  obtain ⟨B17, MB17, SB17, back⟩ := S.calln 0 ((.z 1 rfl .nil))
  refine zu (zo kZ) (by decide) (kU SB17 er15) ?_
  rintro _ w16 ⟨rfl, S2⟩
  replace S := back _ _ _ _ S2 rfl
  clear back S2 SB17
  refine wd (zf rfl) (zd (zb (za (wd (zm uA rfl ((S.blk 2).cell rfl)) (wd (zh rfl) ?_)))))
  obtain ⟨r18, er18, H⟩ := zp H
  obtain ⟨B20, MB20, SB20, back⟩ := S.calln 0 ((.nil))
  refine zu (ye ca_rule_apply_6_1 rfl) (by decide) (rule_apply_6_1_st SB20 er18) ?_
  rintro _ w19 ⟨rfl, S2⟩
  replace S := back _ _ _ _ S2 rfl
  clear back S2 SB20
  refine zd ?_
  refine zC rfl (fun hc21 => ?_) (fun hc21 => ?_)
  ·replace H := if_t hc21 H
   refine zb (za (wd (zh rfl) (wd (zh rfl) (wd (xB zaL (Bld.one rfl rfl (by rw [Fnd.len]; decide) (Fnd.set_k _ _) (Bld.one rfl rfl (by rw [Fnd.len]; decide) (Fnd.set_main _ _) Bld.nil))) ?_))))
   refine zx xC rfl rfl (S.blk 1) (Fnd.len _) (by rw [Fnd.len]; decide) (Fnd.one _) (zG (Fnd.len _)) fun w22 B hw22 zw22 => ?_
   replace S := S.store 1 B hw22
   clear B
   refine xi vx rfl rfl (S.blk 1) (by simp) rfl rfl fun w23 B hw23 zw23 => ?_
   replace S := S.store 1 B hw23
   clear B
   refine zd (zn ?_)
   obtain rfl := Option.some.inj H
   exact ⟨_, rfl, (), S⟩
  replace H := if_f hc21 H
  refine zt ?_
  obtain rfl := Option.some.inj H
  exact ⟨_, rfl, (), S⟩
 ·rintro s14 _ B14 w24 rfl S hB14
  replace S := S
  have H := Ho14
  dsimp only [fin] at H
  refine zb (za (wd (xB zaL Bld.nil) ?_))
  refine zx xC rfl rfl (S.blk 1) (Fnd.len _) (by rw [Fnd.len]; decide) (Fnd.one _) (zG (Fnd.len _)) fun w25 B hw25 zw25 => ?_
  replace S := S.store 1 B hw25
  clear B
  refine xi vx rfl rfl (S.blk 1) (by simp) rfl rfl fun w26 B hw26 zw26 => ?_
  replace S := S.store 1 B hw26
  clear B
  refine zd (zn ?_)
  refine end1 (.inl rfl) (S.take hB14).1 fun w27 hcw27 => ?_
  replace S := (S.take hB14).2 _ hcw27
  refine ⟨_, (zU (zV xC rfl ((S.blk 1).all _ (Fnd.len _)) (Fnd.len _)) (yw vx rfl ((S.blk 0).cell rfl))), ?_⟩
  replace S := S.arr [] []
  obtain rfl := Option.some.inj H
  exact ⟨rfl, S⟩
 ·rintro s14 _ B14 w28 rfl S hB14
  replace S := S
  have H := Ho14
  dsimp only [fin] at H
  refine end1 (.inl rfl) (S.take hB14).1 fun w29 hcw29 => ?_
  replace S := (S.take hB14).2 _ hcw29
  refine ⟨_, (zU (zV xC rfl ((S.blk 1).all _ (Fnd.len _)) (Fnd.len _)) (yw vx rfl ((S.blk 0).cell rfl))), ?_⟩
  replace S := S.arr [] []
  obtain rfl := Option.some.inj H
  exact ⟨rfl, S⟩
 ·intro h; cases h
theorem rule_apply_6_st {A : Nat → Prop} {N : Oth} {w : World} {a0 : Tb} {b_0 : Nat} {a_0_1 : Option Addr} {a1 : Sq} {b_1 : Nat} (S : St A N w w [] [oB b_0 zT [.pointer a_0_1], oT a_0_1 a0, oB b_1 T_Sq (Sq.C a1), oTz]) {r : Fnd × Bool} (H : rule_apply_6.f a0 a1 = some r) :
  Calls PP jI #[.pointer (some ⟨b_0, 0, none⟩), .pointer (some ⟨b_1, 0, none⟩)] w fun e w' => ∃ v, e = .returned v ∧ (v = .tuple #[.agg (Fnd.C r.1).toArray, .bool r.2] ∧ St A N w w' [] []) := by
 unfold rule_apply_6.f at H
 refine zw (n := 9) fn_rule_apply_6 rfl rfl (by simp) (zb (za ?_))
 refine zP uJ (by decide) fun b2 w1 hw1 => ?_
 replace S := S.new hw1
 refine wd (zl rfl) (zd (zb (za (wd (zm zL rfl ((S.blkZ 0).cell rfl)) (wd (zj xQ rfl ((S.blkZ 2).all _ (Sq.len _)) (Sq.len _)) ?_)))))
 obtain ⟨r3, er3, H⟩ := zp H
 obtain ⟨B5, MB5, SB5, back⟩ := S.calln 0 ((.z 1 rfl (.z 3 rfl .nil)))
 refine zu (zo zaJ) (by decide) (kh SB5 er3) ?_
 rintro _ w4 ⟨rfl, S2⟩
 replace S := back _ _ _ _ S2 rfl
 clear back S2 SB5
 refine wd (zk rfl rfl) (wd (zk rfl rfl) ?_)
 refine zx xC rfl rfl (S.blk 0) (Fnd.len _) (by rw [Fnd.len]; decide) (Fnd.one _) (zG (Fnd.len _)) fun w6 B hw6 zw6 => ?_
 replace S := S.store 0 B hw6
 clear B
 refine wd (zl rfl) (zd (zn ?_))
 refine ⟨_, (zU (zV xC rfl ((S.blk 0).all _ (Fnd.len _)) (Fnd.len _)) (ze rfl)), ?_⟩
 replace S := S.arr [] []
 obtain rfl := Option.some.inj H
 exact ⟨rfl, S⟩
theorem rule_apply_st {A : Nat → Prop} {N : Oth} {w : World} {a0 : Tb} {a_0 : Option Addr} {a1 : Sq} (S : St A N w w [] [oT a_0 a0, oTz]) {r : Fnd} (H : rule_apply.f a0 a1 = some r) :
  Calls PP F_rule_apply #[.pointer a_0, .agg (Sq.C a1).toArray] w fun e w' => ∃ v, e = .returned v ∧ (v = .agg (Fnd.C r).toArray ∧ St A N w w' [] []) := by
 unfold rule_apply.f at H
 refine zw (n := 32) fn_rule_apply rfl rfl (by simp) (zb (za ?_))
 refine kX rfl (by decide) fun b2 w1 hw1 => ?_
 replace S := S.new hw1
 refine zJ rfl (by decide) fun b4 w3 hw3 => ?_
 replace S := S.new hw3
 refine zP uJ (by decide) fun b6 w5 hw5 => ?_
 replace S := S.new hw5
 refine zd (zb (za (wd (vR) (wd (vR) (wd (vR) (wd (vR) (wd (vR) (wd (vR) ?_))))))))
 refine xx (C := FC) (l := [FnV.mk (.func jF) #[] #[.pointer (some ⟨b2, 0, none⟩), .pointer (some ⟨b4, 0, none⟩)], FnV.mk (.func jQ) #[] #[.pointer (some ⟨b4, 0, none⟩)], FnV.mk (.func jw) #[] #[.pointer (some ⟨b2, 0, none⟩), .pointer (some ⟨b4, 0, none⟩)], FnV.mk (.func jA) #[] #[.pointer (some ⟨b4, 0, none⟩), .pointer (some ⟨b2, 0, none⟩)], FnV.mk (.func jD) #[] #[.pointer (some ⟨b4, 0, none⟩), .pointer (some ⟨b2, 0, none⟩)], FnV.mk (.func jI) #[] #[.pointer (some ⟨b2, 0, none⟩), .pointer (some ⟨b4, 0, none⟩)]]) (vs := [.func (.func jF) #[] #[.pointer (some ⟨b2, 0, none⟩), .pointer (some ⟨b4, 0, none⟩)], .func (.func jQ) #[] #[.pointer (some ⟨b4, 0, none⟩)], .func (.func jw) #[] #[.pointer (some ⟨b2, 0, none⟩), .pointer (some ⟨b4, 0, none⟩)], .func (.func jA) #[] #[.pointer (some ⟨b4, 0, none⟩), .pointer (some ⟨b2, 0, none⟩)], .func (.func jD) #[] #[.pointer (some ⟨b4, 0, none⟩), .pointer (some ⟨b2, 0, none⟩)], .func (.func jI) #[] #[.pointer (some ⟨b2, 0, none⟩), .pointer (some ⟨b4, 0, none⟩)]]) xE zaR.zero rfl rfl (fun _ _ => rfl) (by decide) rfl (by decide) fun b8 w7 s9 hBw7 hw7 => ?_
 replace S := S.lit hBw7 hw7 (by simp)
 refine wd (xa rfl) (zd (zb (zb (za (wd (zR rfl) (wd (xG xE rfl (S.rdO 0)) (wd (zh rfl) (zd ?_))))))))
 refine zF ?_
 refine wc_rounds 7 ?_
 refine vv (zb (za (wd (xm rfl rfl) (zd (zb ?_)))))
 refine vI rfl (zt (zb ?_))
 refine zF (zb (za (wd (zZ xE rfl rfl (S.rdO 0) (by decide) (by simp)) (wd (zm yj rfl ((S.rdO 0).one (yg FnV.nil (And.intro (by decide) (by simp))) rfl)) (wd (vn rfl) (zd (zb (za (wd (yY rfl) ?_)))))))))
 obtain ⟨r12, er12, H⟩ := zp H
 obtain ⟨B14, MB14, SB14, back⟩ := S.calln 0 ((.o 3 rfl (.z 0 rfl (.o 2 rfl (.z 1 rfl .nil)))))
 refine zu (ye ca_rule_apply_1 rfl) (by decide) (rule_apply_1_st SB14 er12) ?_
 rintro _ w13 ⟨rfl, S2⟩
 replace S := back _ _ _ _ S2 rfl
 clear back S2 SB14
 refine wd (zK rfl) (wd (zk rfl rfl) (wd (zk rfl rfl) ?_))
 refine zP uJ (by decide) fun b16 w15 hw15 => ?_
 replace S := S.new hw15
 refine zx xC rfl rfl (S.blk 0) (Fnd.len _) (by rw [Fnd.len]; decide) (Fnd.one _) (zG (Fnd.len _)) fun w17 B hw17 zw17 => ?_
 replace S := S.store 0 B hw17
 clear B
 refine wd (zl rfl) (zd (zb (za (wd (zB rfl) (zd ?_)))))
 refine zC rfl (fun hc18 => ?_) (fun hc18 => ?_)
 ·replace H := if_t hc18 H
  refine zb (za (wd (zj xC rfl ((S.blk 0).all _ (Fnd.len _)) (Fnd.len _)) ?_))
  refine zx xC rfl rfl (S.blk 2) (Fnd.len _) (by rw [Fnd.len]; decide) (Fnd.one _) (zG (Fnd.len _)) fun w19 B hw19 zw19 => ?_
  replace S := S.store 2 B hw19
  clear B
  refine zd (zn ?_)
  refine ⟨_, (zS (zV xC rfl ((S.blk 0).all _ (Fnd.len _)) (Fnd.len _))), ?_⟩
  replace S := S.arr [] []
  obtain rfl := Option.some.inj H
  exact ⟨rfl, S⟩
 replace H := if_f hc18 H
 refine zt (za (wd (xg rfl rfl (c := 1) rfl (by decide) (by decide)) (wd (zh rfl) (zd ?_))))
 refine ⟨rfl, ?_⟩
 refine vv (zb (za (wd (xm rfl rfl) (zd (zb ?_)))))
 refine vI rfl (zt (zb ?_))
 refine zF (zb (za (wd (zZ xE rfl rfl (S.rdO 1) (by decide) (by simp)) (wd (zm yj rfl ((S.rdO 1).one (yg FnV.nil (And.intro (by decide) (by simp))) rfl)) (wd (vn rfl) (zd (zb (za (wd (yY rfl) ?_)))))))))
 obtain ⟨r22, er22, H⟩ := zp H
 obtain ⟨B24, MB24, SB24, back⟩ := S.calln 0 ((.o 3 rfl .nil))
 refine zu (ye ca_rule_apply_2 rfl) (by decide) (rule_apply_2_st SB24 er22) ?_
 rintro _ w23 ⟨rfl, S2⟩
 replace S := back _ _ _ _ S2 rfl
 clear back S2 SB24
 refine wd (zK rfl) (wd (zk rfl rfl) (wd (zk rfl rfl) ?_))
 refine zP uJ (by decide) fun b26 w25 hw25 => ?_
 replace S := S.new hw25
 refine zx xC rfl rfl (S.blk 0) (Fnd.len _) (by rw [Fnd.len]; decide) (Fnd.one _) (zG (Fnd.len _)) fun w27 B hw27 zw27 => ?_
 replace S := S.store 0 B hw27
 clear B
 refine wd (zl rfl) (zd (zb (za (wd (zB rfl) (zd ?_)))))
 refine zC rfl (fun hc28 => ?_) (fun hc28 => ?_)
 ·replace H := if_t hc28 H
  refine zb (za (wd (zj xC rfl ((S.blk 0).all _ (Fnd.len _)) (Fnd.len _)) ?_))
  refine zx xC rfl rfl (S.blk 3) (Fnd.len _) (by rw [Fnd.len]; decide) (Fnd.one _) (zG (Fnd.len _)) fun w29 B hw29 zw29 => ?_
  replace S := S.store 3 B hw29
  clear B
  refine zd (zn ?_)
  refine ⟨_, (zS (zV xC rfl ((S.blk 0).all _ (Fnd.len _)) (Fnd.len _))), ?_⟩
  replace S := S.arr [] []
  obtain rfl := Option.some.inj H
  exact ⟨rfl, S⟩
 replace H := if_f hc28 H
 refine zt (za (wd (xg rfl rfl (c := 2) rfl (by decide) (by decide)) (wd (zh rfl) (zd ?_))))
 refine ⟨rfl, ?_⟩
 refine vv (zb (za (wd (xm rfl rfl) (zd (zb ?_)))))
 refine vI rfl (zt (zb ?_))
 refine zF (zb (za (wd (zZ xE rfl rfl (S.rdO 2) (by decide) (by simp)) (wd (zm yj rfl ((S.rdO 2).one (yg FnV.nil (And.intro (by decide) (by simp))) rfl)) (wd (vn rfl) (zd (zb (za (wd (yY rfl) ?_)))))))))
 obtain ⟨r32, er32, H⟩ := zp H
 obtain ⟨B34, MB34, SB34, back⟩ := S.calln 0 ((.o 5 rfl (.z 0 rfl (.o 4 rfl (.z 1 rfl .nil)))))
 refine zu (ye ca_rule_apply_3 rfl) (by decide) (rule_apply_3_st SB34 er32) ?_
 rintro _ w33 ⟨rfl, S2⟩
 replace S := back _ _ _ _ S2 rfl
 clear back S2 SB34
 refine wd (zK rfl) (wd (zk rfl rfl) (wd (zk rfl rfl) ?_))
 refine zP uJ (by decide) fun b36 w35 hw35 => ?_
 replace S := S.new hw35
 refine zx xC rfl rfl (S.blk 0) (Fnd.len _) (by rw [Fnd.len]; decide) (Fnd.one _) (zG (Fnd.len _)) fun w37 B hw37 zw37 => ?_
 replace S := S.store 0 B hw37
 clear B
 refine wd (zl rfl) (zd (zb (za (wd (zB rfl) (zd ?_)))))
 refine zC rfl (fun hc38 => ?_) (fun hc38 => ?_)
 ·replace H := if_t hc38 H
  refine zb (za (wd (zj xC rfl ((S.blk 0).all _ (Fnd.len _)) (Fnd.len _)) ?_))
  refine zx xC rfl rfl (S.blk 4) (Fnd.len _) (by rw [Fnd.len]; decide) (Fnd.one _) (zG (Fnd.len _)) fun w39 B hw39 zw39 => ?_
  replace S := S.store 4 B hw39
  clear B
  refine zd (zn ?_)
  refine ⟨_, (zS (zV xC rfl ((S.blk 0).all _ (Fnd.len _)) (Fnd.len _))), ?_⟩
  replace S := S.arr [] []
  obtain rfl := Option.some.inj H
  exact ⟨rfl, S⟩
 replace H := if_f hc38 H
 refine zt (za (wd (xg rfl rfl (c := 3) rfl (by decide) (by decide)) (wd (zh rfl) (zd ?_))))
 refine ⟨rfl, ?_⟩
 refine vv (zb (za (wd (xm rfl rfl) (zd (zb ?_)))))
 refine vI rfl (zt (zb ?_))
 refine zF (zb (za (wd (zZ xE rfl rfl (S.rdO 3) (by decide) (by simp)) (wd (zm yj rfl ((S.rdO 3).one (yg FnV.nil (And.intro (by decide) (by simp))) rfl)) (wd (vn rfl) (zd (zb (za (wd (yY rfl) ?_)))))))))
 obtain ⟨r42, er42, H⟩ := zp H
 obtain ⟨B44, MB44, SB44, back⟩ := S.calln 0 ((.o 5 rfl (.o 6 rfl (.z 0 rfl .nil))))
 refine zu (ye ca_rule_apply_4 rfl) (by decide) (rule_apply_4_st SB44 er42) ?_
 rintro _ w43 ⟨rfl, S2⟩
 replace S := back _ _ _ _ S2 rfl
 clear back S2 SB44
 refine wd (zK rfl) (wd (zk rfl rfl) (wd (zk rfl rfl) ?_))
 refine zP uJ (by decide) fun b46 w45 hw45 => ?_
 replace S := S.new hw45
 refine zx xC rfl rfl (S.blk 0) (Fnd.len _) (by rw [Fnd.len]; decide) (Fnd.one _) (zG (Fnd.len _)) fun w47 B hw47 zw47 => ?_
 replace S := S.store 0 B hw47
 clear B
 refine wd (zl rfl) (zd (zb (za (wd (zB rfl) (zd ?_)))))
 refine zC rfl (fun hc48 => ?_) (fun hc48 => ?_)
 ·replace H := if_t hc48 H
  refine zb (za (wd (zj xC rfl ((S.blk 0).all _ (Fnd.len _)) (Fnd.len _)) ?_))
  refine zx xC rfl rfl (S.blk 5) (Fnd.len _) (by rw [Fnd.len]; decide) (Fnd.one _) (zG (Fnd.len _)) fun w49 B hw49 zw49 => ?_
  replace S := S.store 5 B hw49
  clear B
  refine zd (zn ?_)
  refine ⟨_, (zS (zV xC rfl ((S.blk 0).all _ (Fnd.len _)) (Fnd.len _))), ?_⟩
  replace S := S.arr [] []
  obtain rfl := Option.some.inj H
  exact ⟨rfl, S⟩
 replace H := if_f hc48 H
 refine zt (za (wd (xg rfl rfl (c := 4) rfl (by decide) (by decide)) (wd (zh rfl) (zd ?_))))
 refine ⟨rfl, ?_⟩
 refine vv (zb (za (wd (xm rfl rfl) (zd (zb ?_)))))
 refine vI rfl (zt (zb ?_))
 refine zF (zb (za (wd (zZ xE rfl rfl (S.rdO 4) (by decide) (by simp)) (wd (zm yj rfl ((S.rdO 4).one (yg FnV.nil (And.intro (by decide) (by simp))) rfl)) (wd (vn rfl) (zd (zb (za (wd (yY rfl) ?_)))))))))
 obtain ⟨r52, er52, H⟩ := zp H
 obtain ⟨B54, MB54, SB54, back⟩ := S.calln 0 ((.o 6 rfl (.o 7 rfl (.z 0 rfl .nil))))
 refine zu (ye ca_rule_apply_5 rfl) (by decide) (rule_apply_5_st SB54 er52) ?_
 rintro _ w53 ⟨rfl, S2⟩
 replace S := back _ _ _ _ S2 rfl
 clear back S2 SB54
 refine wd (zK rfl) (wd (zk rfl rfl) (wd (zk rfl rfl) ?_))
 refine zP uJ (by decide) fun b56 w55 hw55 => ?_
 replace S := S.new hw55
 refine zx xC rfl rfl (S.blk 0) (Fnd.len _) (by rw [Fnd.len]; decide) (Fnd.one _) (zG (Fnd.len _)) fun w57 B hw57 zw57 => ?_
 replace S := S.store 0 B hw57
 clear B
 refine wd (zl rfl) (zd (zb (za (wd (zB rfl) (zd ?_)))))
 refine zC rfl (fun hc58 => ?_) (fun hc58 => ?_)
 ·replace H := if_t hc58 H
  refine zb (za (wd (zj xC rfl ((S.blk 0).all _ (Fnd.len _)) (Fnd.len _)) ?_))
  refine zx xC rfl rfl (S.blk 6) (Fnd.len _) (by rw [Fnd.len]; decide) (Fnd.one _) (zG (Fnd.len _)) fun w59 B hw59 zw59 => ?_
  replace S := S.store 6 B hw59
  clear B
  refine zd (zn ?_)
  refine ⟨_, (zS (zV xC rfl ((S.blk 0).all _ (Fnd.len _)) (Fnd.len _))), ?_⟩
  replace S := S.arr [] []
  obtain rfl := Option.some.inj H
  exact ⟨rfl, S⟩
 replace H := if_f hc58 H
 refine zt (za (wd (xg rfl rfl (c := 5) rfl (by decide) (by decide)) (wd (zh rfl) (zd ?_))))
 refine ⟨rfl, ?_⟩
 refine vv (zb (za (wd (xm rfl rfl) (zd (zb ?_)))))
 refine vI rfl (zt (zb ?_))
 refine zF (zb (za (wd (zZ xE rfl rfl (S.rdO 5) (by decide) (by simp)) (wd (zm yj rfl ((S.rdO 5).one (yg FnV.nil (And.intro (by decide) (by simp))) rfl)) (wd (vn rfl) (zd (zb (za (wd (yY rfl) ?_)))))))))
 obtain ⟨r62, er62, H⟩ := zp H
 obtain ⟨B64, MB64, SB64, back⟩ := S.calln 0 ((.o 8 rfl (.z 0 rfl (.o 7 rfl (.z 1 rfl .nil)))))
 refine zu (ye ca_rule_apply_6 rfl) (by decide) (rule_apply_6_st SB64 er62) ?_
 rintro _ w63 ⟨rfl, S2⟩
 replace S := back _ _ _ _ S2 rfl
 clear back S2 SB64
 refine wd (zK rfl) (wd (zk rfl rfl) (wd (zk rfl rfl) ?_))
 refine zP uJ (by decide) fun b66 w65 hw65 => ?_
 replace S := S.new hw65
 refine zx xC rfl rfl (S.blk 0) (Fnd.len _) (by rw [Fnd.len]; decide) (Fnd.one _) (zG (Fnd.len _)) fun w67 B hw67 zw67 => ?_
 replace S := S.store 0 B hw67
 clear B
 refine wd (zl rfl) (zd (zb (za (wd (zB rfl) (zd ?_)))))
 refine zC rfl (fun hc68 => ?_) (fun hc68 => ?_)
 ·replace H := if_t hc68 H
  refine zb (za (wd (zj xC rfl ((S.blk 0).all _ (Fnd.len _)) (Fnd.len _)) ?_))
  refine zx xC rfl rfl (S.blk 7) (Fnd.len _) (by rw [Fnd.len]; decide) (Fnd.one _) (zG (Fnd.len _)) fun w69 B hw69 zw69 => ?_
  replace S := S.store 7 B hw69
  clear B
  refine zd (zn ?_)
  refine ⟨_, (zS (zV xC rfl ((S.blk 0).all _ (Fnd.len _)) (Fnd.len _))), ?_⟩
  replace S := S.arr [] []
  obtain rfl := Option.some.inj H
  exact ⟨rfl, S⟩
 replace H := if_f hc68 H
 refine zt (za (wd (xg rfl rfl (c := 6) rfl (by decide) (by decide)) (wd (zh rfl) (zd ?_))))
 refine ⟨rfl, ?_⟩
 refine vv (zb (za (wd (xm rfl rfl) (zd (zb ?_)))))
 refine uH rfl ?_
 refine yf (zb (za (wd (xB zaL (Bld.one rfl rfl (by rw [Fnd.len]; decide) (Fnd.set_k _ _) (Bld.one rfl rfl (by rw [Fnd.len]; decide) (Fnd.set_main _ _) Bld.nil))) ?_)))
 refine zx xC rfl rfl (S.blk 7) (Fnd.len _) (by rw [Fnd.len]; decide) (Fnd.one _) (zG (Fnd.len _)) fun w71 B hw71 zw71 => ?_
 replace S := S.store 7 B hw71
 clear B
 refine zd (zn ?_)
 refine ⟨_, (zS (zV xC rfl ((S.blk 0).all _ (Fnd.len _)) (Fnd.len _))), ?_⟩
 replace S := S.arr [] []
 obtain rfl := Option.some.inj H
 exact ⟨rfl, S⟩
theorem rule_Apply_st {A : Nat → Prop} {N : Oth} {w : World} {a0 : Tb} {a_0 : Option Addr} {a1 : Sq} (S : St A N w w [] [oT a_0 a0, oTz]) {r : Int × Int × Int} (H : rule_Apply.f a0 a1 = some r) :
  Calls PP F_rule_Apply #[.pointer a_0, .agg (Sq.C a1).toArray] w fun e w' => ∃ v, e = .returned v ∧ (v = .tuple #[.int .i64 r.1, .int .i64 r.2.1, .int .i64 r.2.2] ∧ St A N w w' [] []) := by
 unfold rule_Apply.f at H
 refine zw (n := 22) fn_rule_Apply rfl rfl (by simp) (zb (za ?_))
 refine zJ rfl (by decide) fun b2 w1 hw1 => ?_
 replace S := S.new hw1
 refine wd (zf rfl) (wd (zf rfl) (wd (zf rfl) (zd (zb (zb (za (wd (zr rfl) (wd (zj xQ rfl ((S.blk 0).all _ (Sq.len _)) (Sq.len _)) ?_))))))))
 obtain ⟨r3, er3, H⟩ := zp H
 obtain ⟨B5, MB5, SB5, back⟩ := S.calln 0 ((.z 0 rfl (.z 1 rfl .nil)))
 refine zu (zo ca_rule_look) (by decide) (rule_look_st SB5 er3) ?_
 rintro _ w4 ⟨rfl, S2⟩
 replace S := back _ _ _ _ S2 rfl
 clear back S2 SB5
 refine wd (zf rfl) (zd (zb (za (wd (zh rfl) (wd (xc rfl rfl) (zd ?_))))))
 refine zC rfl (fun hc6 => ?_) (fun hc6 => ?_)
 ·replace H := if_t hc6 H
  refine zb (za (wd (zh rfl) (wd (zf rfl) (wd (zf rfl) (wd (zf rfl) (zd (zn ?_)))))))
  refine ⟨_, (rets3 (ze rfl) (ze rfl) (ze rfl)), ?_⟩
  replace S := S.arr [] []
  obtain rfl := Option.some.inj H
  exact ⟨rfl, S⟩
 replace H := if_f hc6 H
 refine zt (zb (za (wd (zr rfl) (wd (zj xQ rfl ((S.blk 0).all _ (Sq.len _)) (Sq.len _)) ?_))))
 obtain ⟨r7, er7, H⟩ := zp H
 obtain ⟨B9, MB9, SB9, back⟩ := S.calln 0 ((.z 0 rfl (.z 1 rfl .nil)))
 refine zu (zo ca_rule_apply) (by decide) (rule_apply_st SB9 er7) ?_
 rintro _ w8 ⟨rfl, S2⟩
 replace S := back _ _ _ _ S2 rfl
 clear back S2 SB9
 refine zP uJ (by decide) fun b11 w10 hw10 => ?_
 replace S := S.new hw10
 refine zx xC rfl rfl (S.blk 0) (Fnd.len _) (by rw [Fnd.len]; decide) (Fnd.one _) (zG (Fnd.len _)) fun w12 B hw12 zw12 => ?_
 replace S := S.store 0 B hw12
 clear B
 refine zd (zb ?_)
 refine yn 5 (Ext w12) hmix (by kernel_rfl) (by kernel_rfl) (Ext.drawn _) (zy (fun v K => zi fl_Fnd_k rfl (o' := 0) rfl) (zy (fun v K => zm on_api_Rule rfl (((S.ext K).blk 0).cell (Fnd.get_k _))) (zy (fun v K => zi fl_Fnd_main rfl (o' := 1) rfl) (zy (fun v K => zm zQ rfl (((S.ext K).blk 0).cell (Fnd.get_main _))) (zy (fun v K => zf rfl) ?_)))))
 refine vt fun w13 K => ?_
 replace S := S.ext K
 clear K
 refine wd (zf rfl) (wd (zf rfl) (zd (zn ?_)))
 refine ⟨_, (rets3 (ze rfl) (ze rfl) (ze rfl)), ?_⟩
 replace S := S.arr [] []
 obtain rfl := Option.some.inj H
 exact ⟨rfl, S⟩
theorem rule_Choices_st {A : Nat → Prop} {N : Oth} {w : World} {a0 : Tb} {a_0 : Option Addr} {a1 : Sq} (S : St A N w w [] [oT a_0 a0, oTz]) {r : List Int × List Int × Int} (H : rule_Choices.f a0 a1 = some r) :
  Calls PP F_rule_Choices #[.pointer a_0, .agg (Sq.C a1).toArray] w fun e w' => ∃ v, e = .returned v ∧ (∃ so0 : SlV, ∃ so1 : SlV, v = .tuple #[so0.v, so1.v, .int .i64 r.2.2] ∧ St A N w w' [oS yZ 1 IC so0 r.1, oS zX 1 IC so1 r.2.1] []) := by
 unfold rule_Choices.f at H
 refine zw (n := 56) fn_rule_Choices rfl rfl (by simp) (zb (za ?_))
 refine kX rfl (by decide) fun b2 w1 hw1 => ?_
 replace S := S.new hw1
 refine zJ rfl (by decide) fun b4 w3 hw3 => ?_
 replace S := S.new hw3
 refine wd (z0) (wd (z0) (wd (zf rfl) (zd (zb (zb (za (wd (zm zL rfl ((S.blk 1).cell rfl)) (wd (zj xQ rfl ((S.blk 0).all _ (Sq.len _)) (Sq.len _)) ?_))))))))
 obtain ⟨r5, er5, H⟩ := zp H
 obtain ⟨B7, MB7, SB7, back⟩ := S.calln 0 ((.z 0 rfl (.z 1 rfl .nil)))
 refine zu (zo ca_rule_look) (by decide) (rule_look_st SB7 er5) ?_
 rintro _ w6 ⟨rfl, S2⟩
 replace S := back _ _ _ _ S2 rfl
 clear back S2 SB7
 refine wd (zf rfl) (zd (zb (za (wd (zh rfl) (wd (xc rfl rfl) (zd ?_))))))
 refine zC rfl (fun hc8 => ?_) (fun hc8 => ?_)
 ·replace H := if_t hc8 H
  refine zb (za (wd (zh rfl) (wd (z0) (wd (z0) (wd (zf rfl) (zd (zn ?_)))))))
  replace S := (S.nil yZ 1 IC).nil zX 1 IC
  refine ⟨_, (rets3 (ze rfl) (ze rfl) (ze rfl)), ?_⟩
  replace S := S.arr [1, 0] []
  obtain rfl := Option.some.inj H
  exact ⟨SlV.nil, SlV.nil, rfl, S⟩
 replace H := if_f hc8 H
 refine zt (zb (za ?_))
 refine zP zs_L_api_Rule (by decide) fun b10 w9 hw9 => ?_
 replace S := S.new hw9
 refine zd (zb (za ?_))
 refine zP zs_L_int (by decide) fun b12 w11 hw11 => ?_
 replace S := S.new hw11
 refine zd (zb (zb (za (wd (zm zL rfl ((S.blk 3).cell rfl)) (wd (zj xQ rfl ((S.blk 2).all _ (Sq.len _)) (Sq.len _)) ?_)))))
 obtain ⟨r13, er13, H⟩ := zp H
 obtain ⟨B15, MB15, SB15, back⟩ := S.calln 0 ((.z 0 rfl (.z 1 rfl .nil)))
 refine zu (zo ca_rule_apply) (by decide) (rule_apply_st SB15 er13) ?_
 rintro _ w14 ⟨rfl, S2⟩
 replace S := back _ _ _ _ S2 rfl
 clear back S2 SB15
 refine wd (jX fv_Fnd_k on_api_Rule rfl (Fnd.get_k _)) (wd (xc rfl rfl) (zd ?_))
 refine zC rfl (fun hc16 => ?_) (fun hc16 => ?_)
 ·replace H := if_t hc16 H
  refine zb (za (wd (z0) (wd (z0) (wd (zf rfl) (zd (zn ?_))))))
  replace S := (S.nil yZ 1 IC).nil zX 1 IC
  refine ⟨_, (rets3 (ze rfl) (ze rfl) (ze rfl)), ?_⟩
  replace S := S.arr [1, 0] []
  obtain rfl := Option.some.inj H
  exact ⟨SlV.nil, SlV.nil, rfl, S⟩
 replace H := if_f hc16 H
 refine zt (zb (zb (za (wd (zm zL rfl ((S.blk 3).cell rfl)) (wd (zi yE rfl (o' := 16) rfl) (wd (zm zQ rfl ((S.blk 2).cell (Sq.get_goal _))) ?_))))))
 obtain ⟨r17, er17, H⟩ := zp H
 obtain ⟨B19, MB19, SB19, back⟩ := S.calln 0 ((.z 0 rfl .nil))
 refine zu (zo vJ) (by decide) (vH SB19 er17) ?_
 rintro _ w18 ⟨rfl, S2⟩
 replace S := back _ _ _ _ S2 rfl
 clear back S2 SB19
 refine wd (jX jl y4 rfl (Nd.get_kind _)) (wd (zN rfl rfl) (zd ?_))
 replace S := (S.nil zX 1 IC).nil yZ 1 IC
 obtain ⟨o20, e20, Ho20⟩ := zp H
 replace H := e20; clear e20
 refine yT [28, 29, 30, 31, 32, 33, 34, 35, 36, 37] (fun fr W => ∃ s21 : SlV, ∃ s22 : SlV, St A N w W [oS yZ 1 IC s22 o20.2, oS zX 1 IC s21 o20.1, oB b12 T_L_int [s21.v], oB b10 kG [s22.v], oB b4 T_Sq (Sq.C a1), oB b2 zT [.pointer a_0]] [oT a_0 a0, oTz]) ?_ ?_
 ·refine zC rfl (fun hc23 => ?_) (fun hc23 => ?_)
  ·replace H := if_t hc23 H
   refine zb (za (wd (zm je rfl ((S.blk 3).cell rfl)) ?_))
   refine xx (C := IC) (l := [11, 12]) (vs := [.int .i64 11, .int .i64 12]) ut zat.zero rfl rfl (fun _ _ => rfl) (by decide) rfl (by decide) fun b25 w24 s26 hBw24 hw24 => ?_
   replace S := S.lit hBw24 hw24 (by simp)
   obtain ⟨ha29, H⟩ := xK H
   have ha29 := of_decide_eq_true ha29
   refine yK (C := IC) ut zat rfl rfl (S.sl 1) (S.rdO 0) (by simp) (fun a _ v hv => by rw [List.mem_singleton.1 hv]; rfl) ha29 (by omega) (by decide) fun s28 w27 O hw27 gw27 => ?_
   replace S := S.push 1 O (by first | (simp; done) | (simp; omega)) hw27 gw27
   clear O
   refine xi je rfl rfl (S.blk 4) (by simp) (SlV.one _ _ rfl) rfl fun w30 B hw30 zw30 => ?_
   replace S := S.store 4 B hw30
   clear B
   refine zd (za (wd (zm va rfl ((S.blk 4).cell rfl)) (wd (zi yE rfl (o' := 16) rfl) (wd (zm zQ rfl ((S.blk 5).cell (Sq.get_goal _))) (wd (zi yE rfl (o' := 16) rfl) (wd (zm zQ rfl ((S.blk 5).cell (Sq.get_goal _))) ?_))))))
   refine xx (C := IC) (l := [a1.goal, a1.goal]) (vs := [.int .i64 a1.goal, .int .i64 a1.goal]) zY yh.zero rfl rfl (fun _ _ => rfl) (by decide) rfl (by decide) fun b32 w31 s33 hBw31 hw31 => ?_
   replace S := S.lit hBw31 hw31 (by simp)
   obtain ⟨ha36, H⟩ := xK H
   have ha36 := of_decide_eq_true ha36
   refine yK (C := IC) zY yh rfl rfl (S.sl 4) (S.rdO 0) (by simp) (fun a _ v hv => by rw [List.mem_singleton.1 hv]; rfl) ha36 (by omega) (by decide) fun s35 w34 O hw34 gw34 => ?_
   replace S := S.push 4 O (by first | (simp; done) | (simp; omega)) hw34 gw34
   clear O
   refine xi va rfl rfl (S.blk 5) (by simp) (SlV.one _ _ rfl) rfl fun w37 B hw37 zw37 => ?_
   replace S := S.store 5 B hw37
   clear B
   refine zd ?_
   replace S := S.arr [4, 1, 0, 3, 6, 7] [0, 1]
   obtain rfl := Option.some.inj H
   exact ⟨rfl, (((((((((((Dif.refl _ _).upd rfl _).upd rfl _).upd rfl _).upd rfl _).upd rfl _).upd rfl _).upd rfl _).upd rfl _).upd rfl _).upd rfl _), s35, s28, S⟩
  ·replace H := if_f hc23 H
   refine zt ?_
   obtain rfl := Option.some.inj H
   exact ⟨rfl, (Dif.refl _ _), SlV.nil, SlV.nil, S⟩
 rintro g38 u39 ⟨s21, s22, S⟩
 have H := Ho20
 refine zb (zb (za (wd (zi yC rfl (o' := 0) rfl) (wd (zj xd rfl ((S.blk 4).cells (Sq.sub_left _)) (Bits.len _)) ?_))))
 refine zu (zo jq) (by decide) (jt _ a1.left) ?_
 rintro _ w40 ⟨c41, rfl, Bc41, hc41, Ec41⟩
 replace S := S.addZ (b := oB c41 vT (Bits.C a1.left)) (G := (· = c41)) Ec41 ⟨Bc41, fun _ => Iff.rfl⟩ (fun i hi => by rw [hi]; exact hc41)
 refine zd ?_
 refine zF ?_
 obtain ⟨hok42, H⟩ := xK H
 obtain ⟨o43, e43, Ho43⟩ := zp H
 clear H
 refine j5 (xs := Bits.list a1.left) (enc := fun (x : Nat) => Value.int .i64 (x : Int)) (bd := (fun (x : Nat) (s : List Int × List Int) => rule_Choices.b0 a0 a1 (x : Int) s.1 s.2)) (L := (fun (s : List Int × List Int) (c : SlV × SlV) => [oS yZ 1 IC c.2 s.2, oS zX 1 IC c.1 s.1, oB b12 T_L_int [c.1.v], oB b10 kG [c.2.v], oB b4 T_Sq (Sq.C a1), oB b2 zT [.pointer a_0]])) (Lr := (fun (_ : Empty) (_ : Unit) => [])) (Z := [oB c41 vT (Bits.C a1.left), oT a_0 a0, oTz]) (s21, s22) false 0 rfl ur (vo (Bits.okB_ok hok42) c41) (by decide) (fun N' s c W h => ⟨h.blkZ 0, h.tz 2⟩) S e43 ?_ ?_ ?_ ?_
 ·rintro i43 ⟨x43_0, x43_1⟩ ⟨s44, s45⟩ q43 N43 rd u43 H S
  replace S := S
  refine za (wd (zf rfl) (zd ?_))
  refine ⟨rfl, S, fun M43 v43 S => ?_⟩
  replace S := S
  replace H : rule_Choices.b0 a0 a1 (i43 : Int) x43_0 x43_1 = some q43 := H
  unfold rule_Choices.b0 at H
  try dsimp only at H
  refine zF (zb (za (wd (zm zL rfl ((S.blk 5).cell rfl)) (wd (zj xQ rfl ((S.blk 4).all _ (Sq.len _)) (Sq.len _)) (wd (zh rfl) ?_)))))
  obtain ⟨r46, er46, H⟩ := zp H
  obtain ⟨B48, MB48, SB48, back⟩ := S.calln 0 ((.z 1 rfl .nil))
  refine zu (zo kZ) (by decide) (kU SB48 er46) ?_
  rintro _ w47 ⟨rfl, S2⟩
  replace S : St A M43 w w47 [oS yZ 1 IC s45 x43_1, oS zX 1 IC s44 x43_0, oB b12 T_L_int [s44.v], oB b10 kG [s45.v], oB b4 T_Sq (Sq.C a1), oB b2 zT [.pointer a_0]] [oB c41 vT (Bits.C a1.left), oT a_0 a0, oTz] := back _ _ _ _ S2 rfl
  clear back S2 SB48
  refine wd (zN rfl rfl) (zd ?_)
  refine zC rfl (fun hc49 => ?_) (fun hc49 => ?_)
  ·replace H := if_t hc49 H
   refine zb (za (wd (zm je rfl ((S.blk 3).cell rfl)) ?_))
   refine xx (C := IC) (l := [13]) (vs := [.int .i64 13]) ut zat.zero rfl rfl (fun _ _ => rfl) (by decide) rfl (by decide) fun b51 w50 s52 hBw50 hw50 => ?_
   replace S : St A M43 w w50 [oS yZ 1 IC s52 ([13]), oS yZ 1 IC s45 x43_1, oS zX 1 IC s44 x43_0, oB b12 T_L_int [s44.v], oB b10 kG [s45.v], oB b4 T_Sq (Sq.C a1), oB b2 zT [.pointer a_0]] [oB c41 vT (Bits.C a1.left), oT a_0 a0, oTz] := S.lit hBw50 hw50 (by simp)
   obtain ⟨ha55, H⟩ := xK H
   have ha55 := of_decide_eq_true ha55
   refine yK (C := IC) ut zat rfl rfl (S.sl 1) (S.rdO 0) (by simp) (fun a _ v hv => by rw [List.mem_singleton.1 hv]; rfl) ha55 (by omega) (by decide) fun s54 w53 O hw53 gw53 => ?_
   replace S := S.push 1 O (by first | (simp; done) | (simp; omega)) hw53 gw53
   clear O
   refine xi je rfl rfl (S.blk 4) (by simp) (SlV.one _ _ rfl) rfl fun w56 B hw56 zw56 => ?_
   replace S := S.store 4 B hw56
   clear B
   refine zd (za (wd (zm va rfl ((S.blk 4).cell rfl)) (wd (zh rfl) ?_)))
   refine xx (C := IC) (l := [(i43 : Int)]) (vs := [.int .i64 (i43 : Int)]) zY yh.zero rfl rfl (fun _ _ => rfl) (by decide) rfl (by decide) fun b58 w57 s59 hBw57 hw57 => ?_
   replace S := S.lit hBw57 hw57 (by simp)
   obtain ⟨ha62, H⟩ := xK H
   have ha62 := of_decide_eq_true ha62
   refine yK (C := IC) zY yh rfl rfl (S.sl 4) (S.rdO 0) (by simp) (fun a _ v hv => by rw [List.mem_singleton.1 hv]; rfl) ha62 (by omega) (by decide) fun s61 w60 O hw60 gw60 => ?_
   replace S := S.push 4 O (by first | (simp; done) | (simp; omega)) hw60 gw60
   clear O
   refine xi va rfl rfl (S.blk 5) (by simp) (SlV.one _ _ rfl) rfl fun w63 B hw63 zw63 => ?_
   replace S := S.store 5 B hw63
   clear B
   refine zd ?_
   replace S := S.arr [4, 1, 0, 3, 6, 7] [0, 1, 2]
   obtain rfl := Option.some.inj H
   exact ⟨_, rfl, (s61, s54), S⟩
  ·replace H := if_f hc49 H
   refine zt ?_
   obtain rfl := Option.some.inj H
   exact ⟨_, rfl, (s44, s45), S⟩
 ·rintro s43 ⟨s65, s66⟩ B43 w64 rfl S hB43
  replace S := S
  have H := Ho43
  dsimp only [fin] at H
  refine zb ?_
  refine yn 3 (Ext w64) hmix (by kernel_rfl) (by kernel_rfl) (Ext.drawn _) (zy (fun v K => zm je rfl (((S.ext K).blk 3).cell rfl)) (zy (fun v K => zm va rfl (((S.ext K).blk 2).cell rfl)) (zy (fun v K => xa rfl) ?_)))
  refine vt fun w67 K => ?_
  replace S := S.ext K
  clear K
  refine wd (xa rfl) (wd (zf rfl) (zd (zn ?_)))
  refine end1 (.inl rfl) (S.take hB43).1 fun w68 hcw68 => ?_
  replace S := (S.take hB43).2 _ hcw68
  refine ⟨_, (rets3 (ze rfl) (ze rfl) (ze rfl)), ?_⟩
  replace S := S.arr [0, 1] []
  obtain rfl := Option.some.inj H
  exact ⟨s66, s65, rfl, S⟩
 ·intro r; exact r.elim
 ·intro h; cases h
end Go.Proofs.YtjebgcoknpcadaaGreatDoor
end
section
namespace Go.Proofs.YtjebgcoknpcadaaGreatDoor
open Gw Go.RowKit
theorem jN {A : Nat → Prop} {N : Oth} {w : World} {a0 : List Int} {s_0 : SlV} {a1 : Int} {b_1 : Nat} {a2 : Int} {b_2 : Nat} (S : St A N w w [] [fS 1 IC s_0 a0, oB b_1 zX [.int .i64 a1], oB b_2 zX [.int .i64 a2]]) {r : Int × Int} (H : rule_pair_1.f a0 a1 a2 = some r) :
  Calls PP xz #[s_0.v, .pointer (some ⟨b_1, 0, none⟩), .pointer (some ⟨b_2, 0, none⟩)] w fun e w' => ∃ v, e = .returned v ∧ (v = .tuple #[.int .i64 r.1, .int .i64 r.2] ∧ St A N w w' [] []) := by
 unfold rule_pair_1.f at H
 refine zw (n := 8) fn_rule_pair_1 rfl rfl (by simp) (zb (za (wd (zf rfl) (wd (zf rfl) (zd (zb ?_))))))
 refine yn 3 (Ext w) hmix (by kernel_rfl) (by kernel_rfl) (Ext.drawn _) (zy (fun v K => zm zQ rfl (((S.ext K).blkZ 1).cell rfl)) (zy (fun v K => zm zQ rfl (((S.ext K).blkZ 2).cell rfl)) (zy (fun v K => zf rfl) ?_)))
 refine vt fun w1 K => ?_
 replace S := S.ext K
 clear K
 refine wd (zf rfl) (zd (zn ?_))
 refine ⟨_, (zU (ze rfl) (ze rfl)), ?_⟩
 replace S := S.arr [] []
 obtain rfl := Option.some.inj H
 exact ⟨rfl, S⟩
theorem kK {A : Nat → Prop} {N : Oth} {w : World} {a0 : Int} {a1 : Int} (S : St A N w w [] []) {r : Int × Int} (H : rule_pair.f a0 a1 = some r) :
  Calls PP F_rule_pair #[.int .i64 a0, .int .i64 a1] w fun e w' => ∃ v, e = .returned v ∧ (∃ bo0 : Nat, ∃ bo1 : Nat, v = .func (.func xz) #[] #[.pointer (some ⟨bo0, 0, none⟩), .pointer (some ⟨bo1, 0, none⟩)] ∧ (w.heap.size ≤ bo0 ∧ w.heap.size ≤ bo1) ∧ St A N w w' [] [oB bo0 zX [.int .i64 r.1], oB bo1 zX [.int .i64 r.2]]) := by
 unfold rule_pair.f at H
 refine zw (n := 6) fn_rule_pair rfl rfl (by simp) (zb (za ?_))
 refine wl_box_i rfl (by decide) fun b2 w1 hw1 => ?_
 have lb2 : w.heap.size ≤ b2 := by have := S.size; have := hw1.at_; omega
 replace S := S.new hw1
 refine wl_box_i rfl (by decide) fun b4 w3 hw3 => ?_
 have lb4 : w.heap.size ≤ b4 := by have := S.size; have := hw3.at_; omega
 replace S := S.new hw3
 refine wd (zA rfl) (zd (zb (za (wd (vR) (wd (vn rfl) (zd (zn ?_)))))))
 replace S := (S.frzB 1).frzB 0
 refine ⟨_, (zS (ze rfl)), ?_⟩
 replace S := S.arr [] [1, 0]
 obtain rfl := Option.some.inj H
 exact ⟨b2, b4, rfl, ⟨lb2, lb4⟩, S⟩
theorem rule_premises_1_st {A : Nat → Prop} {N : Oth} {w : World} {a0 : List Int} {s_0 : SlV} {a1 : Nd} {b_1 : Nat} (S : St A N w w [] [fS 1 IC s_0 a0, oB b_1 T_Nd (Nd.C a1)]) {r : Int × Int} (H : rule_premises_1.f a0 a1 = some r) :
  Calls PP vN #[s_0.v, .pointer (some ⟨b_1, 0, none⟩)] w fun e w' => ∃ v, e = .returned v ∧ (v = .tuple #[.int .i64 r.1, .int .i64 r.2] ∧ St A N w w' [] []) := by
 unfold rule_premises_1.f at H
 refine zw (n := 10) fn_rule_premises_1 rfl rfl (by simp) (zb (za (wd (zf rfl) (wd (zf rfl) (zd (zb ?_))))))
 refine yn 6 (Ext w) hmix (by kernel_rfl) (by kernel_rfl) (Ext.drawn _) (zy (fun v K => zi yB rfl (o' := 2) rfl) (zy (fun v K => zm zQ rfl (((S.ext K).blkZ 1).cell (Nd.get_l _))) (zy (fun v K => zR rfl) ?_)))
 obtain ⟨hi1, H⟩ := xK H
 refine zy (fun v K => zZ zY rfl rfl ((S.ext K).rd 0) (xv hi1).1 (xv hi1).2) (zy (fun v K => zm zQ rfl (((S.ext K).rd 0).one (yg (0 : Int) (xv hi1)) rfl)) (zy (fun v K => zf rfl) ?_))
 refine vt fun w2 K => ?_
 replace S := S.ext K
 clear K
 refine wd (zf rfl) (zd (zn ?_))
 refine ⟨_, (zU (ze rfl) (ze rfl)), ?_⟩
 replace S := S.arr [] []
 obtain rfl := Option.some.inj H
 exact ⟨rfl, S⟩
theorem uj {A : Nat → Prop} {N : Oth} {w : World} {a0 : Tb} {a_0 : Option Addr} {a1_0 : Int} {a1_1 : Int} {a1_2 : Nd} {s_1 : SlV} {b_1_1 : Nat} {b_1_2 : Nat} {b_1_3 : Nat} (S : St A N w w [oT a_0 a0] [fS 1 FC s_1 ([FnV.mk (.func xz) #[] #[.pointer (some ⟨b_1_1, 0, none⟩), .pointer (some ⟨b_1_2, 0, none⟩)], FnV.mk (.func vN) #[] #[.pointer (some ⟨b_1_3, 0, none⟩)]]), oB b_1_1 zX [.int .i64 a1_0], oB b_1_2 zX [.int .i64 a1_1], oB b_1_3 T_Nd (Nd.C a1_2)]) {r : Tb × List Int × Int} (H : rule_imps__rule_pair_1__rule_premises_1.f a0 a1_0 a1_1 a1_2 = some r) :
  Calls PP zau #[.pointer a_0, s_1.v] w fun e w' => ∃ v, e = .returned v ∧ (∃ so0 : SlV, v = .tuple #[so0.v, .int .i64 r.2.2] ∧ St A N w w' [oT a_0 r.1, oS zX 1 IC so0 r.2.1] []) := by
 unfold rule_imps__rule_pair_1__rule_premises_1.f at H
 refine zw (n := 41) fn_rule_imps rfl rfl (by simp) (zb (za (wd (z0) (wd (zf rfl) (zd (zb (za (wd (z0) (zd (zb (zb (za (wd (zR rfl) (wd (xG xl rfl (S.rd 0)) (wd (zh rfl) (zd ?_))))))))))))))))
 refine zF ?_
 refine wc_rounds 3 ?_
 refine vv (zb (za (wd (xm rfl rfl) (zd (zb ?_)))))
 refine vI rfl (zt (zb ?_))
 refine zF (zb (za (wd (zZ xl rfl rfl (S.rd 0) (by decide) (by simp)) (wd (zm yW rfl ((S.rd 0).one (yg FnV.nil (And.intro (by decide) (by simp))) rfl)) (wd (vn rfl) (zd (zb (za (wd (yY rfl) (wd (zR rfl) ?_))))))))))
 replace S := S.nilZ 1 IC
 obtain ⟨r3, er3, H⟩ := zp H
 obtain ⟨B5, MB5, SB5, back⟩ := S.calln 0 ((.z 0 rfl (.z 2 rfl (.z 3 rfl .nil))))
 refine zu (ye jB rfl) (by decide) (jN SB5 er3) ?_
 rintro _ w4 ⟨rfl, S2⟩
 replace S := back _ _ _ _ S2 rfl
 clear back S2 SB5
 refine wd (zK rfl) (wd (zk rfl rfl) (wd (zk rfl rfl) (wd (zf rfl) (wd (zf rfl) (zd (zb (za (wd (zr rfl) (wd (zh rfl) (wd (zh rfl) ?_))))))))))
 obtain ⟨r6, er6, H⟩ := zp H
 obtain ⟨B8, MB8, SB8, back⟩ := S.calln 1 ((.nil))
 refine zu (zo y3) (by decide) (y5 SB8 er6) ?_
 rintro _ w7 ⟨rfl, S2⟩
 replace S := back _ _ _ _ S2 rfl
 clear back S2 SB8
 refine wd (zK rfl) (wd (zk rfl rfl) (wd (zk rfl rfl) (wd (zf rfl) (wd (zf rfl) (zd (zb (zb (za (wd (zh rfl) (wd (xc rfl rfl) (zd ?_)))))))))))
 refine zC rfl (fun hc9 => ?_) (fun hc9 => ?_)
 ·replace H := if_t hc9 H
  refine zb (za (wd (zh rfl) (wd (z0) (wd (zf rfl) (zd (zn ?_))))))
  replace S := S.nil zX 1 IC
  refine ⟨_, (zU (ze rfl) (ze rfl)), ?_⟩
  replace S := S.arr [1, 0] []
  obtain rfl := Option.some.inj H
  exact ⟨SlV.nil, rfl, S⟩
 replace H := if_f hc9 H
 refine zt (za (wd (zR rfl) (wd (zh rfl) ?_)))
 refine xx (C := IC) (l := [r6.2.1]) (vs := [.int .i64 r6.2.1]) zY yh.zero rfl rfl (fun _ _ => rfl) (by decide) rfl (by decide) fun b11 w10 s12 hBw10 hw10 => ?_
 replace S := (S.lit hBw10 hw10 (by simp)).nil zX 1 IC
 obtain ⟨ha15, H⟩ := xK H
 have ha15 := of_decide_eq_true ha15
 refine yK (C := IC) zY yh rfl rfl (S.sl 0) (S.rdO 1) (by simp) (fun a _ v hv => by rw [List.mem_singleton.1 hv]; rfl) ha15 (by omega) (by decide) fun s14 w13 O hw13 gw13 => ?_
 replace S := S.push 0 O (by first | (simp; done) | (simp; omega)) hw13 gw13
 clear O
 refine wd (xa rfl) (zd (za (wd (xg rfl rfl (c := 1) rfl (by decide) (by decide)) (wd (zh rfl) (zd ?_)))))
 refine ⟨rfl, ?_⟩
 refine vv (zb (za (wd (xm rfl rfl) (zd (zb ?_)))))
 refine vI rfl (zt (zb ?_))
 refine zF (zb (za (wd (zZ xl rfl rfl (S.rd 1) (by decide) (by simp)) (wd (zm yW rfl ((S.rd 1).one (yg FnV.nil (And.intro (by decide) (by simp))) rfl)) (wd (vn rfl) (zd (zb (za (wd (yY rfl) (wd (zR rfl) ?_))))))))))
 obtain ⟨r18, er18, H⟩ := zp H
 obtain ⟨B20, MB20, SB20, back⟩ := S.calln 0 ((.s 0 rfl (.z 4 rfl .nil)))
 refine zu (ye ca_rule_premises_1 rfl) (by decide) (rule_premises_1_st SB20 er18) ?_
 rintro _ w19 ⟨rfl, S2⟩
 replace S := back _ _ _ _ S2 rfl
 clear back S2 SB20
 refine wd (zK rfl) (wd (zk rfl rfl) (wd (zk rfl rfl) (wd (zf rfl) (wd (zf rfl) (zd (zb (za (wd (zr rfl) (wd (zh rfl) (wd (zh rfl) ?_))))))))))
 obtain ⟨r21, er21, H⟩ := zp H
 replace S := S.front 2
 obtain ⟨B23, MB23, SB23, back⟩ := S.calln 1 ((.nil))
 refine zu (zo y3) (by decide) (y5 SB23 er21) ?_
 rintro _ w22 ⟨rfl, S2⟩
 replace S := back _ _ _ _ S2 rfl
 clear back S2 SB23
 refine wd (zK rfl) (wd (zk rfl rfl) (wd (zk rfl rfl) (wd (zf rfl) (wd (zf rfl) (zd (zb (zb (za (wd (zh rfl) (wd (xc rfl rfl) (zd ?_)))))))))))
 refine zC rfl (fun hc24 => ?_) (fun hc24 => ?_)
 ·replace H := if_t hc24 H
  refine zb (za (wd (zh rfl) (wd (z0) (wd (zf rfl) (zd (zn ?_))))))
  replace S := S.nil zX 1 IC
  refine ⟨_, (zU (ze rfl) (ze rfl)), ?_⟩
  replace S := S.arr [1, 0] []
  obtain rfl := Option.some.inj H
  exact ⟨SlV.nil, rfl, S⟩
 replace H := if_f hc24 H
 refine zt (za (wd (zR rfl) (wd (zh rfl) ?_)))
 refine xx (C := IC) (l := [r21.2.1]) (vs := [.int .i64 r21.2.1]) zY yh.zero rfl rfl (fun _ _ => rfl) (by decide) rfl (by decide) fun b26 w25 s27 hBw25 hw25 => ?_
 replace S := S.lit hBw25 hw25 (by simp)
 obtain ⟨ha30, H⟩ := xK H
 have ha30 := of_decide_eq_true ha30
 refine yK (C := IC) zY yh rfl rfl (S.sl 2) (S.rdO 0) (by simp) (fun a _ v hv => by rw [List.mem_singleton.1 hv]; rfl) ha30 (by omega) (by decide) fun s29 w28 O hw28 gw28 => ?_
 replace S := S.push 2 O (by first | (simp; done) | (simp; omega)) hw28 gw28
 clear O
 refine wd (xa rfl) (zd (za (wd (xg rfl rfl (c := 2) rfl (by decide) (by decide)) (wd (zh rfl) (zd ?_)))))
 refine ⟨rfl, ?_⟩
 refine vv (zb (za (wd (xm rfl rfl) (zd (zb ?_)))))
 refine uH rfl ?_
 refine yf (zb (za (wd (zR rfl) (wd (xa rfl) (wd (zf rfl) (zd (zn ?_)))))))
 refine ⟨_, (zU (ze rfl) (ze rfl)), ?_⟩
 replace S := S.arr [2, 0] []
 obtain rfl := Option.some.inj H
 exact ⟨s29, rfl, S⟩
theorem uO {A : Nat → Prop} {N : Oth} {w : World} {a0 : Tb} {a_0 : Option Addr} {a1_0 : Int} {a1_1 : Int} {a1_2 : Int} {a1_3 : Int} {s_1 : SlV} {b_1_1 : Nat} {b_1_2 : Nat} {b_1_3 : Nat} {b_1_4 : Nat} (S : St A N w w [oT a_0 a0] [fS 1 FC s_1 ([FnV.mk (.func xz) #[] #[.pointer (some ⟨b_1_1, 0, none⟩), .pointer (some ⟨b_1_2, 0, none⟩)], FnV.mk (.func xz) #[] #[.pointer (some ⟨b_1_3, 0, none⟩), .pointer (some ⟨b_1_4, 0, none⟩)]]), oB b_1_1 zX [.int .i64 a1_0], oB b_1_2 zX [.int .i64 a1_1], oB b_1_3 zX [.int .i64 a1_2], oB b_1_4 zX [.int .i64 a1_3]]) {r : Tb × List Int × Int} (H : rule_imps__rule_pair_1__rule_pair_1.f a0 a1_0 a1_1 a1_2 a1_3 = some r) :
  Calls PP zau #[.pointer a_0, s_1.v] w fun e w' => ∃ v, e = .returned v ∧ (∃ so0 : SlV, v = .tuple #[so0.v, .int .i64 r.2.2] ∧ St A N w w' [oT a_0 r.1, oS zX 1 IC so0 r.2.1] []) := by
 unfold rule_imps__rule_pair_1__rule_pair_1.f at H
 refine zw (n := 41) fn_rule_imps rfl rfl (by simp) (zb (za (wd (z0) (wd (zf rfl) (zd (zb (za (wd (z0) (zd (zb (zb (za (wd (zR rfl) (wd (xG xl rfl (S.rd 0)) (wd (zh rfl) (zd ?_))))))))))))))))
 refine zF ?_
 refine wc_rounds 3 ?_
 refine vv (zb (za (wd (xm rfl rfl) (zd (zb ?_)))))
 refine vI rfl (zt (zb ?_))
 refine zF (zb (za (wd (zZ xl rfl rfl (S.rd 0) (by decide) (by simp)) (wd (zm yW rfl ((S.rd 0).one (yg FnV.nil (And.intro (by decide) (by simp))) rfl)) (wd (vn rfl) (zd (zb (za (wd (yY rfl) (wd (zR rfl) ?_))))))))))
 replace S := S.nilZ 1 IC
 obtain ⟨r3, er3, H⟩ := zp H
 obtain ⟨B5, MB5, SB5, back⟩ := S.calln 0 ((.z 0 rfl (.z 2 rfl (.z 3 rfl .nil))))
 refine zu (ye jB rfl) (by decide) (jN SB5 er3) ?_
 rintro _ w4 ⟨rfl, S2⟩
 replace S := back _ _ _ _ S2 rfl
 clear back S2 SB5
 refine wd (zK rfl) (wd (zk rfl rfl) (wd (zk rfl rfl) (wd (zf rfl) (wd (zf rfl) (zd (zb (za (wd (zr rfl) (wd (zh rfl) (wd (zh rfl) ?_))))))))))
 obtain ⟨r6, er6, H⟩ := zp H
 obtain ⟨B8, MB8, SB8, back⟩ := S.calln 1 ((.nil))
 refine zu (zo y3) (by decide) (y5 SB8 er6) ?_
 rintro _ w7 ⟨rfl, S2⟩
 replace S := back _ _ _ _ S2 rfl
 clear back S2 SB8
 refine wd (zK rfl) (wd (zk rfl rfl) (wd (zk rfl rfl) (wd (zf rfl) (wd (zf rfl) (zd (zb (zb (za (wd (zh rfl) (wd (xc rfl rfl) (zd ?_)))))))))))
 refine zC rfl (fun hc9 => ?_) (fun hc9 => ?_)
 ·replace H := if_t hc9 H
  refine zb (za (wd (zh rfl) (wd (z0) (wd (zf rfl) (zd (zn ?_))))))
  replace S := S.nil zX 1 IC
  refine ⟨_, (zU (ze rfl) (ze rfl)), ?_⟩
  replace S := S.arr [1, 0] []
  obtain rfl := Option.some.inj H
  exact ⟨SlV.nil, rfl, S⟩
 replace H := if_f hc9 H
 refine zt (za (wd (zR rfl) (wd (zh rfl) ?_)))
 refine xx (C := IC) (l := [r6.2.1]) (vs := [.int .i64 r6.2.1]) zY yh.zero rfl rfl (fun _ _ => rfl) (by decide) rfl (by decide) fun b11 w10 s12 hBw10 hw10 => ?_
 replace S := (S.lit hBw10 hw10 (by simp)).nil zX 1 IC
 obtain ⟨ha15, H⟩ := xK H
 have ha15 := of_decide_eq_true ha15
 refine yK (C := IC) zY yh rfl rfl (S.sl 0) (S.rdO 1) (by simp) (fun a _ v hv => by rw [List.mem_singleton.1 hv]; rfl) ha15 (by omega) (by decide) fun s14 w13 O hw13 gw13 => ?_
 replace S := S.push 0 O (by first | (simp; done) | (simp; omega)) hw13 gw13
 clear O
 refine wd (xa rfl) (zd (za (wd (xg rfl rfl (c := 1) rfl (by decide) (by decide)) (wd (zh rfl) (zd ?_)))))
 refine ⟨rfl, ?_⟩
 refine vv (zb (za (wd (xm rfl rfl) (zd (zb ?_)))))
 refine vI rfl (zt (zb ?_))
 refine zF (zb (za (wd (zZ xl rfl rfl (S.rd 1) (by decide) (by simp)) (wd (zm yW rfl ((S.rd 1).one (yg FnV.nil (And.intro (by decide) (by simp))) rfl)) (wd (vn rfl) (zd (zb (za (wd (yY rfl) (wd (zR rfl) ?_))))))))))
 obtain ⟨r18, er18, H⟩ := zp H
 obtain ⟨B20, MB20, SB20, back⟩ := S.calln 0 ((.s 0 rfl (.z 4 rfl (.z 5 rfl .nil))))
 refine zu (ye jB rfl) (by decide) (jN SB20 er18) ?_
 rintro _ w19 ⟨rfl, S2⟩
 replace S := back _ _ _ _ S2 rfl
 clear back S2 SB20
 refine wd (zK rfl) (wd (zk rfl rfl) (wd (zk rfl rfl) (wd (zf rfl) (wd (zf rfl) (zd (zb (za (wd (zr rfl) (wd (zh rfl) (wd (zh rfl) ?_))))))))))
 obtain ⟨r21, er21, H⟩ := zp H
 replace S := S.front 2
 obtain ⟨B23, MB23, SB23, back⟩ := S.calln 1 ((.nil))
 refine zu (zo y3) (by decide) (y5 SB23 er21) ?_
 rintro _ w22 ⟨rfl, S2⟩
 replace S := back _ _ _ _ S2 rfl
 clear back S2 SB23
 refine wd (zK rfl) (wd (zk rfl rfl) (wd (zk rfl rfl) (wd (zf rfl) (wd (zf rfl) (zd (zb (zb (za (wd (zh rfl) (wd (xc rfl rfl) (zd ?_)))))))))))
 refine zC rfl (fun hc24 => ?_) (fun hc24 => ?_)
 ·replace H := if_t hc24 H
  refine zb (za (wd (zh rfl) (wd (z0) (wd (zf rfl) (zd (zn ?_))))))
  replace S := S.nil zX 1 IC
  refine ⟨_, (zU (ze rfl) (ze rfl)), ?_⟩
  replace S := S.arr [1, 0] []
  obtain rfl := Option.some.inj H
  exact ⟨SlV.nil, rfl, S⟩
 replace H := if_f hc24 H
 refine zt (za (wd (zR rfl) (wd (zh rfl) ?_)))
 refine xx (C := IC) (l := [r21.2.1]) (vs := [.int .i64 r21.2.1]) zY yh.zero rfl rfl (fun _ _ => rfl) (by decide) rfl (by decide) fun b26 w25 s27 hBw25 hw25 => ?_
 replace S := S.lit hBw25 hw25 (by simp)
 obtain ⟨ha30, H⟩ := xK H
 have ha30 := of_decide_eq_true ha30
 refine yK (C := IC) zY yh rfl rfl (S.sl 2) (S.rdO 0) (by simp) (fun a _ v hv => by rw [List.mem_singleton.1 hv]; rfl) ha30 (by omega) (by decide) fun s29 w28 O hw28 gw28 => ?_
 replace S := S.push 2 O (by first | (simp; done) | (simp; omega)) hw28 gw28
 clear O
 refine wd (xa rfl) (zd (za (wd (xg rfl rfl (c := 2) rfl (by decide) (by decide)) (wd (zh rfl) (zd ?_)))))
 refine ⟨rfl, ?_⟩
 refine vv (zb (za (wd (xm rfl rfl) (zd (zb ?_)))))
 refine uH rfl ?_
 refine yf (zb (za (wd (zR rfl) (wd (xa rfl) (wd (zf rfl) (zd (zn ?_)))))))
 refine ⟨_, (zU (ze rfl) (ze rfl)), ?_⟩
 replace S := S.arr [2, 0] []
 obtain rfl := Option.some.inj H
 exact ⟨s29, rfl, S⟩
theorem zal {A : Nat → Prop} {N : Oth} {w : World} {a0 : Tb} {a_0 : Option Addr} {a1_0 : Int} {a1_1 : Int} {s_1 : SlV} {b_1_1 : Nat} {b_1_2 : Nat} (S : St A N w w [oT a_0 a0] [fS 1 FC s_1 ([FnV.mk (.func xz) #[] #[.pointer (some ⟨b_1_1, 0, none⟩), .pointer (some ⟨b_1_2, 0, none⟩)]]), oB b_1_1 zX [.int .i64 a1_0], oB b_1_2 zX [.int .i64 a1_1]]) {r : Tb × List Int × Int} (H : rule_imps__rule_pair_1.f a0 a1_0 a1_1 = some r) :
  Calls PP zau #[.pointer a_0, s_1.v] w fun e w' => ∃ v, e = .returned v ∧ (∃ so0 : SlV, v = .tuple #[so0.v, .int .i64 r.2.2] ∧ St A N w w' [oT a_0 r.1, oS zX 1 IC so0 r.2.1] []) := by
 unfold rule_imps__rule_pair_1.f at H
 refine zw (n := 41) fn_rule_imps rfl rfl (by simp) (zb (za (wd (z0) (wd (zf rfl) (zd (zb (za (wd (z0) (zd (zb (zb (za (wd (zR rfl) (wd (xG xl rfl (S.rd 0)) (wd (zh rfl) (zd ?_))))))))))))))))
 refine zF ?_
 refine wc_rounds 2 ?_
 refine vv (zb (za (wd (xm rfl rfl) (zd (zb ?_)))))
 refine vI rfl (zt (zb ?_))
 refine zF (zb (za (wd (zZ xl rfl rfl (S.rd 0) (by decide) (by simp)) (wd (zm yW rfl ((S.rd 0).one (yg FnV.nil (And.intro (by decide) (by simp))) rfl)) (wd (vn rfl) (zd (zb (za (wd (yY rfl) (wd (zR rfl) ?_))))))))))
 replace S := S.nilZ 1 IC
 obtain ⟨r3, er3, H⟩ := zp H
 obtain ⟨B5, MB5, SB5, back⟩ := S.calln 0 ((.z 0 rfl (.z 2 rfl (.z 3 rfl .nil))))
 refine zu (ye jB rfl) (by decide) (jN SB5 er3) ?_
 rintro _ w4 ⟨rfl, S2⟩
 replace S := back _ _ _ _ S2 rfl
 clear back S2 SB5
 refine wd (zK rfl) (wd (zk rfl rfl) (wd (zk rfl rfl) (wd (zf rfl) (wd (zf rfl) (zd (zb (za (wd (zr rfl) (wd (zh rfl) (wd (zh rfl) ?_))))))))))
 obtain ⟨r6, er6, H⟩ := zp H
 obtain ⟨B8, MB8, SB8, back⟩ := S.calln 1 ((.nil))
 refine zu (zo y3) (by decide) (y5 SB8 er6) ?_
 rintro _ w7 ⟨rfl, S2⟩
 replace S := back _ _ _ _ S2 rfl
 clear back S2 SB8
 refine wd (zK rfl) (wd (zk rfl rfl) (wd (zk rfl rfl) (wd (zf rfl) (wd (zf rfl) (zd (zb (zb (za (wd (zh rfl) (wd (xc rfl rfl) (zd ?_)))))))))))
 refine zC rfl (fun hc9 => ?_) (fun hc9 => ?_)
 ·replace H := if_t hc9 H
  refine zb (za (wd (zh rfl) (wd (z0) (wd (zf rfl) (zd (zn ?_))))))
  replace S := S.nil zX 1 IC
  refine ⟨_, (zU (ze rfl) (ze rfl)), ?_⟩
  replace S := S.arr [1, 0] []
  obtain rfl := Option.some.inj H
  exact ⟨SlV.nil, rfl, S⟩
 replace H := if_f hc9 H
 refine zt (za (wd (zR rfl) (wd (zh rfl) ?_)))
 refine xx (C := IC) (l := [r6.2.1]) (vs := [.int .i64 r6.2.1]) zY yh.zero rfl rfl (fun _ _ => rfl) (by decide) rfl (by decide) fun b11 w10 s12 hBw10 hw10 => ?_
 replace S := (S.lit hBw10 hw10 (by simp)).nil zX 1 IC
 obtain ⟨ha15, H⟩ := xK H
 have ha15 := of_decide_eq_true ha15
 refine yK (C := IC) zY yh rfl rfl (S.sl 0) (S.rdO 1) (by simp) (fun a _ v hv => by rw [List.mem_singleton.1 hv]; rfl) ha15 (by omega) (by decide) fun s14 w13 O hw13 gw13 => ?_
 replace S := S.push 0 O (by first | (simp; done) | (simp; omega)) hw13 gw13
 clear O
 refine wd (xa rfl) (zd (za (wd (xg rfl rfl (c := 1) rfl (by decide) (by decide)) (wd (zh rfl) (zd ?_)))))
 refine ⟨rfl, ?_⟩
 refine vv (zb (za (wd (xm rfl rfl) (zd (zb ?_)))))
 refine uH rfl ?_
 refine yf (zb (za (wd (zR rfl) (wd (xa rfl) (wd (zf rfl) (zd (zn ?_)))))))
 refine ⟨_, (zU (ze rfl) (ze rfl)), ?_⟩
 replace S := S.arr [2, 0] []
 obtain rfl := Option.some.inj H
 exact ⟨s14, rfl, S⟩
theorem rule_premises_st {A : Nat → Prop} {N : Oth} {w : World} {a0 : Tb} {a_0 : Option Addr} {a1 : Sq} {a2 : Int} {a3 : Int} (S : St A N w w [oT a_0 a0] []) {r : Tb × List Sq × Int} (H : rule_premises.f a0 a1 a2 a3 = some r) :
  Calls PP F_rule_premises #[.pointer a_0, .agg (Sq.C a1).toArray, .int .i64 a2, .int .i64 a3] w fun e w' => ∃ v, e = .returned v ∧ (∃ so0 : SlV, v = .tuple #[so0.v, .int .i64 r.2.2] ∧ St A N w w' [oT a_0 r.1, oS T_Sq 17 Sq.C so0 r.2.1] []) := by
 unfold rule_premises.f at H
 refine zw (n := 181) fn_rule_premises rfl rfl (by simp) (zb (za ?_))
 refine zJ rfl (by decide) fun b2 w1 hw1 => ?_
 replace S := S.new hw1
 refine wd (z0) (wd (zf rfl) (zd (zb (za (wd (zr rfl) (wd (zh rfl) ?_))))))
 obtain ⟨r3, er3, H⟩ := zp H
 obtain ⟨B5, MB5, SB5, back⟩ := S.calln 0 ((.o 1 rfl .nil))
 refine zu (zo vJ) (by decide) (vH SB5 er3) ?_
 rintro _ w4 ⟨rfl, S2⟩
 replace S := back _ _ _ _ S2 rfl
 clear back S2 SB5
 refine zP uW (by decide) fun b7 w6 hw6 => ?_
 replace S := S.new hw6
 refine zx ya rfl rfl (S.blk 0) (Nd.len _) (by rw [Nd.len]; decide) (Nd.one _) (zG (Nd.len _)) fun w8 B hw8 zw8 => ?_
 replace S := S.store 0 B hw8
 clear B
 refine zd (zb (za (wd (zr rfl) (wd (zi yB rfl (o' := 2) rfl) (wd (zm zQ rfl ((S.blk 0).cell (Nd.get_l _))) ?_)))))
 obtain ⟨r9, er9, H⟩ := zp H
 obtain ⟨B11, MB11, SB11, back⟩ := S.calln 0 ((.o 2 rfl .nil))
 refine zu (zo vJ) (by decide) (vH SB11 er9) ?_
 rintro _ w10 ⟨rfl, S2⟩
 replace S := back _ _ _ _ S2 rfl
 clear back S2 SB11
 refine zP uW (by decide) fun b13 w12 hw12 => ?_
 replace S := S.new hw12
 refine zx ya rfl rfl (S.blk 0) (Nd.len _) (by rw [Nd.len]; decide) (Nd.one _) (zG (Nd.len _)) fun w14 B hw14 zw14 => ?_
 replace S := S.store 0 B hw14
 clear B
 refine zd (zb (za (wd (zj xQ rfl ((S.blk 2).all _ (Sq.len _)) (Sq.len _)) ?_)))
 refine zP ze_Sq (by decide) fun b16 w15 hw15 => ?_
 replace S := S.new hw15
 refine zx xQ rfl rfl (S.blk 0) (Sq.len _) (by rw [Sq.len]; decide) (Sq.one _) (zG (Sq.len _)) fun w17 B hw17 zw17 => ?_
 replace S := S.store 0 B hw17
 clear B
 refine zd (zb (za (wd (zi yC rfl (o' := 0) rfl) (wd (zj xd rfl ((S.blk 3).cells (Sq.sub_left _)) (Bits.len _)) (wd (zh rfl) ?_)))))
 obtain ⟨r18, er18, H⟩ := zp H
 obtain ⟨B20, MB20, SB20, back⟩ := S.calln 0 ((.nil))
 refine zu (zo ca_bits_Drop) (by decide) (bits_Drop_st SB20 er18) ?_
 rintro _ w19 ⟨rfl, S2⟩
 replace S := back _ _ _ _ S2 rfl
 clear back S2 SB20
 refine wd (zi yC rfl (o' := 0) rfl) ?_
 refine zx xd rfl rfl (S.blk 0) (Bits.len _) (by rw [Sq.len]; decide) (Bits.one _) (Sq.put_left _ _) fun w21 B hw21 zw21 => ?_
 replace S := S.store 0 B hw21
 clear B
 refine zd (zb (zb (za (wd (zh rfl) (zd ?_)))))
 refine zF (zb (za (wd (zN rfl rfl) (wd (zl rfl) (zd ?_)))))
 refine zC rfl (fun hc22 => ?_) (fun hc22 => ?_)
 ·replace H := if_t hc22 H
  refine zb (za (wd (zj xQ rfl ((S.blk 0).all _ (Sq.len _)) (Sq.len _)) (wd (zi yB rfl (o' := 2) rfl) (wd (zm zQ rfl ((S.blk 2).cell (Nd.get_l _))) (wd (zi yk rfl (o' := 3) rfl) (wd (zm zQ rfl ((S.blk 2).cell (Nd.get_r _))) ?_))))))
  refine xx (C := IC) (l := [r3.l, r3.r]) (vs := [.int .i64 r3.l, .int .i64 r3.r]) zY yh.zero rfl rfl (fun _ _ => rfl) (by decide) rfl (by decide) fun b24 w23 s25 hBw23 hw23 => ?_
  replace S := S.lit hBw23 hw23 (by simp)
  obtain ⟨r26, er26, H⟩ := zp H
  obtain ⟨B28, MB28, SB28, back⟩ := S.calln 0 ((.s 0 rfl .nil))
  refine zu (zo vc) (by decide) (vb SB28 er26) ?_
  rintro _ w27 ⟨rfl, S2⟩
  replace S := back _ _ _ _ S2 rfl
  clear back S2 SB28
  refine xx (C := Sq.C) (l := [r26]) (vs := [.agg (Sq.C r26).toArray]) x5 el_Sq.zero rfl rfl (fun a _ => Sq.len a) (by decide) rfl (by decide) fun b30 w29 s31 hBw29 hw29 => ?_
  replace S := S.lit hBw29 hw29 (by simp)
  refine wd (xa rfl) (wd (zf rfl) (zd (zn ?_)))
  refine ⟨_, (zU (ze rfl) (ze rfl)), ?_⟩
  replace S := S.arr [6, 0] []
  obtain rfl := Option.some.inj H
  exact ⟨s31, rfl, S⟩
 replace H := if_f hc22 H
 refine zb (za (wd (zN rfl rfl) (wd (zl rfl) (zd ?_))))
 refine zC rfl (fun hc32 => ?_) (fun hc32 => ?_)
 ·replace H := if_t hc32 H
  refine zb (za (wd (zj xQ rfl ((S.blk 0).all _ (Sq.len _)) (Sq.len _)) (wd (zi yk rfl (o' := 3) rfl) (wd (zm zQ rfl ((S.blk 2).cell (Nd.get_r _))) ?_))))
  refine xx (C := IC) (l := [r3.r]) (vs := [.int .i64 r3.r]) zY yh.zero rfl rfl (fun _ _ => rfl) (by decide) rfl (by decide) fun b34 w33 s35 hBw33 hw33 => ?_
  replace S := S.lit hBw33 hw33 (by simp)
  obtain ⟨r36, er36, H⟩ := zp H
  obtain ⟨B38, MB38, SB38, back⟩ := S.calln 0 ((.s 0 rfl .nil))
  refine zu (zo vc) (by decide) (vb SB38 er36) ?_
  rintro _ w37 ⟨rfl, S2⟩
  replace S := back _ _ _ _ S2 rfl
  clear back S2 SB38
  refine xx (C := Sq.C) (l := [r36]) (vs := [.agg (Sq.C r36).toArray]) x5 el_Sq.zero rfl rfl (fun a _ => Sq.len a) (by decide) rfl (by decide) fun b40 w39 s41 hBw39 hw39 => ?_
  replace S := S.lit hBw39 hw39 (by simp)
  refine wd (xa rfl) (wd (zf rfl) (zd (zn ?_)))
  refine ⟨_, (zU (ze rfl) (ze rfl)), ?_⟩
  replace S := S.arr [6, 0] []
  obtain rfl := Option.some.inj H
  exact ⟨s41, rfl, S⟩
 replace H := if_f hc32 H
 refine zb (za (wd (zN rfl rfl) (wd (zl rfl) (zd ?_))))
 refine zC rfl (fun hc42 => ?_) (fun hc42 => ?_)
 ·replace H := if_t hc42 H
  refine zb (za (wd (zj xQ rfl ((S.blk 0).all _ (Sq.len _)) (Sq.len _)) ?_))
  refine xx (C := Sq.C) (l := [{ a1 with left := r18 }]) (vs := [.agg (Sq.C ({ a1 with left := r18 })).toArray]) x5 el_Sq.zero rfl rfl (fun a _ => Sq.len a) (by decide) rfl (by decide) fun b44 w43 s45 hBw43 hw43 => ?_
  replace S := S.lit hBw43 hw43 (by simp)
  refine wd (xa rfl) (wd (zf rfl) (zd (zn ?_)))
  refine ⟨_, (zU (ze rfl) (ze rfl)), ?_⟩
  replace S := S.arr [5, 0] []
  obtain rfl := Option.some.inj H
  exact ⟨s45, rfl, S⟩
 replace H := if_f hc42 H
 refine zb (za (wd (zN rfl rfl) (wd (zl rfl) (zd ?_))))
 refine zC rfl (fun hc46 => ?_) (fun hc46 => ?_)
 ·replace H := if_t hc46 H
  refine zb (za (wd (zr rfl) (wd (zi yk rfl (o' := 3) rfl) (wd (zm zQ rfl ((S.blk 1).cell (Nd.get_r _))) (wd (zi yk rfl (o' := 3) rfl) (wd (zm zQ rfl ((S.blk 2).cell (Nd.get_r _))) ?_))))))
  obtain ⟨r47, er47, H⟩ := zp H
  obtain ⟨B49, MB49, SB49, back⟩ := S.sub [] [] [oB b16 T_Sq (Sq.C ({ a1 with left := r18 })), oB b13 T_Nd (Nd.C r9), oB b7 T_Nd (Nd.C r3), oB b2 T_Sq (Sq.C a1), oT a_0 a0]
  refine zu (zo kH) (by decide) (kK SB49 er47) ?_
  rintro _ w48 ⟨b50, b51, rfl, hnww48, S2⟩
  replace S := back _ _ _ _ _ S2 rfl rfl
  clear back S2 SB49
  refine wd (vR) ?_
  refine xx (C := FC) (l := [FnV.mk (.func xz) #[] #[.pointer (some ⟨b50, 0, none⟩), .pointer (some ⟨b51, 0, none⟩)], FnV.mk (.func vN) #[] #[.pointer (some ⟨b13, 0, none⟩)]]) (vs := [.func (.func xz) #[] #[.pointer (some ⟨b50, 0, none⟩), .pointer (some ⟨b51, 0, none⟩)], .func (.func vN) #[] #[.pointer (some ⟨b13, 0, none⟩)]]) xl uB.zero rfl rfl (fun _ _ => rfl) (by decide) rfl (by decide) fun b53 w52 s54 hBw52 hw52 => ?_
  replace S := S.lit hBw52 hw52 (by simp)
  obtain ⟨r55, er55, H⟩ := zp H
  replace S := S.front 5
  obtain ⟨B57, MB57, SB57, back⟩ := S.calln 1 ((.s 0 rfl (.z 0 rfl (.z 1 rfl (.o 2 rfl .nil)))))
  refine zu (zo ca_rule_imps) (by decide) (uj SB57 er55) ?_
  rintro _ w56 ⟨s58, rfl, S2⟩
  replace S := back _ _ _ _ S2 rfl
  clear back S2 SB57
  refine wd (zK rfl) (wd (zk rfl rfl) (wd (zk rfl rfl) (wd (xa rfl) (wd (zf rfl) (zd (zb (zb (za (wd (zh rfl) (wd (xc rfl rfl) (zd ?_)))))))))))
  refine zC rfl (fun hc59 => ?_) (fun hc59 => ?_)
  ·replace H := if_t hc59 H
   refine zb (za (wd (zh rfl) (wd (z0) (wd (zf rfl) (zd (zn ?_))))))
   replace S := S.nil T_Sq 17 Sq.C
   refine ⟨_, (zU (ze rfl) (ze rfl)), ?_⟩
   replace S := S.arr [1, 0] []
   obtain rfl := Option.some.inj H
   exact ⟨SlV.nil, rfl, S⟩
  replace H := if_f hc59 H
  refine zt (zb ?_)
  obtain ⟨hi60, H⟩ := xK H
  refine jk 5 [4]
   (fun i v u => match i with
   | 4 => ∃ sl, v = SlV.v sl ∧ Rd u 1 sl ([at_ (0 : Int) r55.2.1 1].map IC) ∧ (∀ j, sl.fp j → w56.heap.size ≤ j)
   | _ => True) hmix (by kernel_rfl) (by kernel_rfl) ?_ ?_
  ·intro i v u u' hi hx hv
   match i, hv with
   | 4, ⟨b, e1, hr, hl⟩ => exact ⟨b, e1, hr.ext hx, hl⟩
   | 0, _ => exact trivial
   | 1, _ => exact trivial
   | 2, _ => exact trivial
   | 3, _ => exact trivial
   | _ + 5, _ => exact trivial
  refine zz (fun v K => zj xQ rfl (((S.ext K).blk 3).all _ (Sq.len _)) (Sq.len _)) rfl (zz (fun v K => zR rfl) rfl (zz (fun v K => zZ zY rfl rfl ((S.ext K).rdO 1) (xv hi60).1 (xv hi60).2) rfl (zz (fun v K => zm zQ rfl (((S.ext K).rdO 1).one (yg (0 : Int) (xv hi60)) rfl)) rfl ?_)))
  refine wm_new (fun g v K G => (have ⟨sl, v', hd, hx, ho, hf⟩ := j1 (C := IC) (l := [at_ (0 : Int) r55.2.1 1]) (vs := [.int .i64 (at_ (0 : Int) r55.2.1 1)]) zY yh.zero rfl rfl (fun _ _ => rfl) (by first | decide | simp) rfl; ⟨_, v', hd, hx, sl, rfl, ho.toRd, (fun j hj => by have := hf j hj; have := K.size; omega)⟩)) rfl ?_
  refine yQ fun g w62 K hV => ?_
  obtain ⟨s61, hv634, hr4, hf4⟩ := hV 4 rfl (by decide)
  replace S := S.addZs K (.s hr4 (by simp) hf4 .nil)
  clear K hV
  obtain ⟨r64, er64, H⟩ := zp H
  obtain ⟨B66, MB66, SB66, back⟩ := S.calln 0 ((.z 0 rfl .nil))
  refine zu (zM vc (zO rfl (zO hv634 rfl))) (by decide) (vb SB66 er64) ?_
  rintro _ w65 ⟨rfl, S2⟩
  replace S := back _ _ _ _ S2 rfl
  clear back S2 SB66
  refine xx (C := Sq.C) (l := [r64]) (vs := [.agg (Sq.C r64).toArray]) x5 el_Sq.zero rfl rfl (fun a _ => Sq.len a) (by decide) rfl (by decide) fun b68 w67 s69 hBw67 hw67 => ?_
  replace S := S.lit hBw67 hw67 (by simp)
  refine wd (xa rfl) (wd (zf rfl) (zd (zn ?_)))
  refine ⟨_, (zU (ze rfl) (ze rfl)), ?_⟩
  replace S := S.arr [1, 0] []
  obtain rfl := Option.some.inj H
  exact ⟨s69, rfl, S⟩
 replace H := if_f hc46 H
 refine zb (za (wd (zN rfl rfl) (wd (zl rfl) (zd ?_))))
 refine zC rfl (fun hc70 => ?_) (fun hc70 => ?_)
 ·replace H := if_t hc70 H
  refine zb ?_
  refine wc_ws hmix fun w78 K => ?_
  replace S := S.ext K
  clear K
  obtain ⟨r79, er79, H⟩ := zp H
  obtain ⟨r82, er82, H⟩ := zp H
  refine vW 0 12 [5, 10, 11] (by kernel_rfl) (by decide) (by kernel_rfl)
   (V := fun i v u => match i with
   | 5 => ∃ b80 : Nat, ∃ b81 : Nat, v = Value.func (.func xz) #[] #[.pointer (some ⟨b80, 0, none⟩), .pointer (some ⟨b81, 0, none⟩)] ∧ Blk u b80 zX [.int .i64 r79.1] ∧ w78.heap.size ≤ b80 ∧ Blk u b81 zX [.int .i64 r79.2] ∧ w78.heap.size ≤ b81
   | 10 => ∃ b83 : Nat, ∃ b84 : Nat, v = Value.func (.func xz) #[] #[.pointer (some ⟨b83, 0, none⟩), .pointer (some ⟨b84, 0, none⟩)] ∧ Blk u b83 zX [.int .i64 r82.1] ∧ w78.heap.size ≤ b83 ∧ Blk u b84 zX [.int .i64 r82.2] ∧ w78.heap.size ≤ b84
   | 11 => ∃ sl, ∃ b80 : Nat, ∃ b81 : Nat, ∃ b83 : Nat, ∃ b84 : Nat, v = SlV.v sl ∧ Rd u 1 sl ([FnV.mk (.func xz) #[] #[.pointer (some ⟨b80, 0, none⟩), .pointer (some ⟨b81, 0, none⟩)], FnV.mk (.func xz) #[] #[.pointer (some ⟨b83, 0, none⟩), .pointer (some ⟨b84, 0, none⟩)]].map FC) ∧ (∀ j, sl.fp j → w78.heap.size ≤ j) ∧ Blk u b80 zX [.int .i64 r79.1] ∧ w78.heap.size ≤ b80 ∧ Blk u b81 zX [.int .i64 r79.2] ∧ w78.heap.size ≤ b81 ∧ Blk u b83 zX [.int .i64 r82.1] ∧ w78.heap.size ≤ b83 ∧ Blk u b84 zX [.int .i64 r82.2] ∧ w78.heap.size ≤ b84
   | _ => True) ?_ ?_
  ·intro i v u u' hi hx hv
   match i, hv with
   | 5, ⟨b80, b81, e1, hbb80, hlb80, hbb81, hlb81⟩ => exact ⟨b80, b81, e1, hbb80.ext hx, hlb80, hbb81.ext hx, hlb81⟩
   | 10, ⟨b83, b84, e1, hbb83, hlb83, hbb84, hlb84⟩ => exact ⟨b83, b84, e1, hbb83.ext hx, hlb83, hbb84.ext hx, hlb84⟩
   | 11, ⟨b, b80, b81, b83, b84, e1, hr, hl, hbb80, hlb80, hbb81, hlb81, hbb83, hlb83, hbb84, hlb84⟩ => exact ⟨b, b80, b81, b83, b84, e1, hr.ext hx, hl, hbb80.ext hx, hlb80, hbb81.ext hx, hlb81, hbb83.ext hx, hlb83, hbb84.ext hx, hlb84⟩
   | 0, _ => exact trivial
   | 1, _ => exact trivial
   | 2, _ => exact trivial
   | 3, _ => exact trivial
   | 4, _ => exact trivial
   | 6, _ => exact trivial
   | 7, _ => exact trivial
   | 8, _ => exact trivial
   | 9, _ => exact trivial
   | _ + 12, _ => exact trivial
  refine zz (fun v K => zr rfl) rfl (zz (fun v K => zi yB rfl (o' := 2) rfl) rfl (zz (fun v K => zm zQ rfl (((S.ext K).blk 1).cell (Nd.get_l _))) rfl (zz (fun v K => zi yk rfl (o' := 3) rfl) rfl (zz (fun v K => zm zQ rfl (((S.ext K).blk 2).cell (Nd.get_r _))) rfl ?_))))
  refine yH (fun g v K G => (have ⟨M, SS⟩ := (S.ext K).lend ((.nil)); ⟨_, _, zM kH (zO rfl (zO rfl rfl)), newc (kK SS er79) fun _ _ ⟨b80, b81, hv, h⟩ => ⟨h.2.frame, b80, b81, hv, (h.2.blkZ 0), (by have := h.1.1; have := K.size; omega), (h.2.blkZ 1), (by have := h.1.2; have := K.size; omega)⟩⟩)) rfl (zz (fun v K => zi yk rfl (o' := 3) rfl) rfl (zz (fun v K => zm zQ rfl (((S.ext K).blk 1).cell (Nd.get_r _))) rfl (zz (fun v K => zi yk rfl (o' := 3) rfl) rfl (zz (fun v K => zm zQ rfl (((S.ext K).blk 2).cell (Nd.get_r _))) rfl ?_))))
  refine yH (fun g v K G => (have ⟨M, SS⟩ := (S.ext K).lend ((.nil)); ⟨_, _, zM kH (zO rfl (zO rfl rfl)), newc (kK SS er82) fun _ _ ⟨b83, b84, hv, h⟩ => ⟨h.2.frame, b83, b84, hv, (h.2.blkZ 0), (by have := h.1.1; have := K.size; omega), (h.2.blkZ 1), (by have := h.1.2; have := K.size; omega)⟩⟩)) rfl ?_
  refine wm_new (fun g v K G => (have ⟨b80, b81, hv5, hbb80, hlb80, hbb81, hlb81⟩ := G 5 (by decide) rfl; have ⟨b83, b84, hv10, hbb83, hlb83, hbb84, hlb84⟩ := G 10 (by decide) rfl; have ⟨sl, v', hd, hx, ho, hf⟩ := j1 (C := FC) (l := [FnV.mk (.func xz) #[] #[.pointer (some ⟨b80, 0, none⟩), .pointer (some ⟨b81, 0, none⟩)], FnV.mk (.func xz) #[] #[.pointer (some ⟨b83, 0, none⟩), .pointer (some ⟨b84, 0, none⟩)]]) (vs := [.func (.func xz) #[] #[.pointer (some ⟨b80, 0, none⟩), .pointer (some ⟨b81, 0, none⟩)], .func (.func xz) #[] #[.pointer (some ⟨b83, 0, none⟩), .pointer (some ⟨b84, 0, none⟩)]]) xl uB.zero (by exact (x6 hv5 (x6 hv10 rfl))) rfl (fun _ _ => rfl) (by first | decide | simp) rfl; ⟨_, v', hd, hx, sl, b80, b81, b83, b84, rfl, ho.toRd, (fun j hj => by have := hf j hj; have := K.size; omega), (hbb80.ext hx), hlb80, (hbb81.ext hx), hlb81, (hbb83.ext hx), hlb83, (hbb84.ext hx), hlb84⟩)) rfl ?_
  refine yQ fun g w86 K hV => ?_
  obtain ⟨s85, b80, b81, b83, b84, hv8711, hr11, hf11, hbb80, hlb80, hbb81, hlb81, hbb83, hlb83, hbb84, hlb84⟩ := hV 11 rfl (by decide)
  replace S := S.addZs K (.s hr11 (by simp) hf11 (.b hbb80 hlb80 (.b hbb81 hlb81 (.b hbb83 hlb83 (.b hbb84 hlb84 .nil)))))
  clear K hV
  refine kk 12 14 (by kernel_rfl) (by decide) ?_
  obtain ⟨r88, er88, H⟩ := zp H
  replace S := S.front 4
  obtain ⟨B90, MB90, SB90, back⟩ := S.calln 1 ((.z 0 rfl (.z 1 rfl (.z 2 rfl (.z 3 rfl (.z 4 rfl .nil))))))
  refine zu (zM ca_rule_imps (zO rfl (zO hv8711 rfl))) (by decide) (uO SB90 er88) ?_
  rintro _ w89 ⟨s91, rfl, S2⟩
  replace S := back _ _ _ _ S2 rfl
  clear back S2 SB90
  refine wd (zK rfl) (zd ⟨rfl, ?_⟩)
  refine vW 14 17 [] (by kernel_rfl) (by decide) (by kernel_rfl)
   (V := fun i v u => match i with
   | _ => True) ?_ ?_
  ·intro i v u u' hi hx hv
   match i, hv with
   | _, _ => exact trivial
  refine zz (fun v K => zk rfl rfl) rfl (zz (fun v K => zk rfl rfl) rfl (zz (fun v K => xa rfl) rfl ?_))
  refine yQ fun g w92 K hV => ?_
  replace S := S.ext K
  clear K hV
  refine zap 17 (by kernel_rfl) (by decide) (wd (zf rfl) (zd (zb (zb (za (wd (zh rfl) (wd (xc rfl rfl) (zd ?_))))))))
  refine zC rfl (fun hc94 => ?_) (fun hc94 => ?_)
  ·replace H := if_t hc94 H
   refine zb (za (wd (zh rfl) (wd (z0) (wd (zf rfl) (zd (zn ?_))))))
   replace S := S.nil T_Sq 17 Sq.C
   refine ⟨_, (zU (ze rfl) (ze rfl)), ?_⟩
   replace S := S.arr [1, 0] []
   obtain rfl := Option.some.inj H
   exact ⟨SlV.nil, rfl, S⟩
  replace H := if_f hc94 H
  refine zt (zb (za (wd (zj xQ rfl ((S.blk 2).all _ (Sq.len _)) (Sq.len _)) (wd (zR rfl) ?_))))
  obtain ⟨r95, er95, H⟩ := zp H
  obtain ⟨B97, MB97, SB97, back⟩ := S.calln 0 ((.s 1 rfl .nil))
  refine zu (zo vc) (by decide) (vb SB97 er95) ?_
  rintro _ w96 ⟨rfl, S2⟩
  replace S := back _ _ _ _ S2 rfl
  clear back S2 SB97
  refine xx (C := Sq.C) (l := [r95]) (vs := [.agg (Sq.C r95).toArray]) x5 el_Sq.zero rfl rfl (fun a _ => Sq.len a) (by decide) rfl (by decide) fun b99 w98 s100 hBw98 hw98 => ?_
  replace S := S.lit hBw98 hw98 (by simp)
  refine wd (xa rfl) (wd (zf rfl) (zd (zn ?_)))
  refine ⟨_, (zU (ze rfl) (ze rfl)), ?_⟩
  replace S := S.arr [1, 0] []
  obtain rfl := Option.some.inj H
  exact ⟨s100, rfl, S⟩
 replace H := if_f hc70 H
 refine zb (za (wd (zN rfl rfl) (wd (zl rfl) (zd ?_))))
 refine zC rfl (fun hc101 => ?_) (fun hc101 => ?_)
 ·replace H := if_t hc101 H
  refine zb ?_
  obtain ⟨r103, er103, H⟩ := zp H
  refine jk 7 [3, 4]
   (fun i v u => match i with
   | 3 => ∃ sl, v = SlV.v sl ∧ Rd u 1 sl ([r3.l].map IC) ∧ (∀ j, sl.fp j → w21.heap.size ≤ j)
   | 4 => v = Value.agg (Sq.C r103).toArray
   | _ => True) hmix (by kernel_rfl) (by kernel_rfl) ?_ ?_
  ·intro i v u u' hi hx hv
   match i, hv with
   | 3, ⟨b, e1, hr, hl⟩ => exact ⟨b, e1, hr.ext hx, hl⟩
   | 4, hv => exact hv
   | 0, _ => exact trivial
   | 1, _ => exact trivial
   | 2, _ => exact trivial
   | _ + 5, _ => exact trivial
  refine zz (fun v K => zj xQ rfl (((S.ext K).blk 3).all _ (Sq.len _)) (Sq.len _)) rfl (zz (fun v K => zi yB rfl (o' := 2) rfl) rfl (zz (fun v K => zm zQ rfl (((S.ext K).blk 2).cell (Nd.get_l _))) rfl ?_))
  refine wm_new (fun g v K G => (have ⟨sl, v', hd, hx, ho, hf⟩ := j1 (C := IC) (l := [r3.l]) (vs := [.int .i64 r3.l]) zY yh.zero rfl rfl (fun _ _ => rfl) (by first | decide | simp) rfl; ⟨_, v', hd, hx, sl, rfl, ho.toRd, (fun j hj => by have := hf j hj; have := K.size; omega)⟩)) rfl ?_
  refine yH (fun g v K G => (have ⟨s102, hv3, hr3, hf3⟩ := G 3 (by decide) rfl; have ⟨M, SS⟩ := (S.addS K hr3 (by simp) hf3).lend ((.z 0 rfl .nil)); ⟨_, _, zM vc (zO rfl (zO hv3 rfl)), newc (vb SS er103) fun _ _ h => ⟨h.2.frame, h.1⟩⟩)) rfl (zz (fun v K => zi yk rfl (o' := 3) rfl) rfl (zz (fun v K => zm zQ rfl (((S.ext K).blk 2).cell (Nd.get_r _))) rfl ?_))
  refine yQ fun g w104 K hV => ?_
  obtain ⟨s102, hv1053, hr3, hf3⟩ := hV 3 rfl (by decide)
  have hv1054 := hV 4 rfl (by decide)
  replace S := S.addZs K (.s hr3 (by simp) hf3 .nil)
  clear K hV
  obtain ⟨r106, er106, H⟩ := zp H
  obtain ⟨B108, MB108, SB108, back⟩ := S.calln 0 ((.nil))
  refine zu (zM jV (zO hv1054 (zO rfl rfl))) (by decide) (jU SB108 er106) ?_
  rintro _ w107 ⟨rfl, S2⟩
  replace S := back _ _ _ _ S2 rfl
  clear back S2 SB108
  refine xx (C := Sq.C) (l := [r106]) (vs := [.agg (Sq.C r106).toArray]) x5 el_Sq.zero rfl rfl (fun a _ => Sq.len a) (by decide) rfl (by decide) fun b110 w109 s111 hBw109 hw109 => ?_
  replace S := S.lit hBw109 hw109 (by simp)
  refine wd (xa rfl) (wd (zf rfl) (zd (zn ?_)))
  refine ⟨_, (zU (ze rfl) (ze rfl)), ?_⟩
  replace S := S.arr [5, 0] []
  obtain rfl := Option.some.inj H
  exact ⟨s111, rfl, S⟩
 replace H := if_f hc101 H
 refine zb (za (wd (zN rfl rfl) (wd (zl rfl) (zd ?_))))
 refine zC rfl (fun hc112 => ?_) (fun hc112 => ?_)
 ·replace H := if_t hc112 H
  refine zb ?_
  refine yn 7 (Ext w21) hmix (by kernel_rfl) (by kernel_rfl) (Ext.drawn _) (zy (fun v K => zj xQ rfl (((S.ext K).blk 3).all _ (Sq.len _)) (Sq.len _)) (zy (fun v K => zi yB rfl (o' := 2) rfl) (zy (fun v K => zm zQ rfl (((S.ext K).blk 2).cell (Nd.get_l _))) ?_)))
  obtain ⟨r113, er113, H⟩ := zp H
  refine wq_call (fun v => zo jV) (fun v K => (have ⟨M, SS⟩ := (S.ext K).lend ((.nil)); quiet (jU SS er113) (fun v w' h => ⟨h.1, _, _, h.2⟩))) (fun v v' K h => K.thenExt h) (zy (fun v K => zj xQ rfl (((S.ext K).blk 3).all _ (Sq.len _)) (Sq.len _)) (zy (fun v K => zi yk rfl (o' := 3) rfl) (zy (fun v K => zm zQ rfl (((S.ext K).blk 2).cell (Nd.get_r _))) ?_)))
  refine vt fun w114 K => ?_
  replace S := S.ext K
  clear K
  obtain ⟨r115, er115, H⟩ := zp H
  obtain ⟨B117, MB117, SB117, back⟩ := S.calln 0 ((.nil))
  refine zu (zo jV) (by decide) (jU SB117 er115) ?_
  rintro _ w116 ⟨rfl, S2⟩
  replace S := back _ _ _ _ S2 rfl
  clear back S2 SB117
  refine xx (C := Sq.C) (l := [r113, r115]) (vs := [.agg (Sq.C r113).toArray, .agg (Sq.C r115).toArray]) x5 el_Sq.zero rfl rfl (fun a _ => Sq.len a) (by decide) rfl (by decide) fun b119 w118 s120 hBw118 hw118 => ?_
  replace S := S.lit hBw118 hw118 (by simp)
  refine wd (xa rfl) (wd (zf rfl) (zd (zn ?_)))
  refine ⟨_, (zU (ze rfl) (ze rfl)), ?_⟩
  replace S := S.arr [5, 0] []
  obtain rfl := Option.some.inj H
  exact ⟨s120, rfl, S⟩
 replace H := if_f hc112 H
 refine zb (za (wd (zN rfl rfl) (wd (zl rfl) (zd ?_))))
 refine zC rfl (fun hc121 => ?_) (fun hc121 => ?_)
 ·replace H := if_t hc121 H
  refine zb ?_
  obtain ⟨r123, er123, H⟩ := zp H
  refine jk 9 [3, 4, 8]
   (fun i v u => match i with
   | 3 => ∃ sl, v = SlV.v sl ∧ Rd u 1 sl ([r3.l].map IC) ∧ (∀ j, sl.fp j → w21.heap.size ≤ j)
   | 4 => v = Value.agg (Sq.C r123).toArray
   | 8 => ∃ sl, v = SlV.v sl ∧ Rd u 1 sl ([r3.r].map IC) ∧ (∀ j, sl.fp j → w21.heap.size ≤ j)
   | _ => True) hmix (by kernel_rfl) (by kernel_rfl) ?_ ?_
  ·intro i v u u' hi hx hv
   match i, hv with
   | 3, ⟨b, e1, hr, hl⟩ => exact ⟨b, e1, hr.ext hx, hl⟩
   | 4, hv => exact hv
   | 8, ⟨b, e1, hr, hl⟩ => exact ⟨b, e1, hr.ext hx, hl⟩
   | 0, _ => exact trivial
   | 1, _ => exact trivial
   | 2, _ => exact trivial
   | 5, _ => exact trivial
   | 6, _ => exact trivial
   | 7, _ => exact trivial
   | _ + 9, _ => exact trivial
  refine zz (fun v K => zj xQ rfl (((S.ext K).blk 0).all _ (Sq.len _)) (Sq.len _)) rfl (zz (fun v K => zi yB rfl (o' := 2) rfl) rfl (zz (fun v K => zm zQ rfl (((S.ext K).blk 2).cell (Nd.get_l _))) rfl ?_))
  refine wm_new (fun g v K G => (have ⟨sl, v', hd, hx, ho, hf⟩ := j1 (C := IC) (l := [r3.l]) (vs := [.int .i64 r3.l]) zY yh.zero rfl rfl (fun _ _ => rfl) (by first | decide | simp) rfl; ⟨_, v', hd, hx, sl, rfl, ho.toRd, (fun j hj => by have := hf j hj; have := K.size; omega)⟩)) rfl ?_
  refine yH (fun g v K G => (have ⟨s122, hv3, hr3, hf3⟩ := G 3 (by decide) rfl; have ⟨M, SS⟩ := (S.addS K hr3 (by simp) hf3).lend ((.z 0 rfl .nil)); ⟨_, _, zM vc (zO rfl (zO hv3 rfl)), newc (vb SS er123) fun _ _ h => ⟨h.2.frame, h.1⟩⟩)) rfl (zz (fun v K => zj xQ rfl (((S.ext K).blk 0).all _ (Sq.len _)) (Sq.len _)) rfl (zz (fun v K => zi yk rfl (o' := 3) rfl) rfl (zz (fun v K => zm zQ rfl (((S.ext K).blk 2).cell (Nd.get_r _))) rfl ?_)))
  refine wm_new (fun g v K G => (have ⟨sl, v', hd, hx, ho, hf⟩ := j1 (C := IC) (l := [r3.r]) (vs := [.int .i64 r3.r]) zY yh.zero rfl rfl (fun _ _ => rfl) (by first | decide | simp) rfl; ⟨_, v', hd, hx, sl, rfl, ho.toRd, (fun j hj => by have := hf j hj; have := K.size; omega)⟩)) rfl ?_
  refine yQ fun g w125 K hV => ?_
  obtain ⟨s122, hv1263, hr3, hf3⟩ := hV 3 rfl (by decide)
  have hv1264 := hV 4 rfl (by decide)
  obtain ⟨s124, hv1268, hr8, hf8⟩ := hV 8 rfl (by decide)
  replace S := S.addZs K (.s hr3 (by simp) hf3 (.s hr8 (by simp) hf8 .nil))
  clear K hV
  obtain ⟨r127, er127, H⟩ := zp H
  obtain ⟨B129, MB129, SB129, back⟩ := S.calln 0 ((.z 1 rfl .nil))
  refine zu (zM vc (zO rfl (zO hv1268 rfl))) (by decide) (vb SB129 er127) ?_
  rintro _ w128 ⟨rfl, S2⟩
  replace S := back _ _ _ _ S2 rfl
  clear back S2 SB129
  refine xx (C := Sq.C) (l := [r123, r127]) (vs := [.agg (Sq.C r123).toArray, .agg (Sq.C r127).toArray]) x5 el_Sq.zero (x6 hv1264 (x6 rfl rfl)) rfl (fun a _ => Sq.len a) (by decide) rfl (by decide) fun b131 w130 s132 hBw130 hw130 => ?_
  replace S := S.lit hBw130 hw130 (by simp)
  refine wd (xa rfl) (wd (zf rfl) (zd (zn ?_)))
  refine ⟨_, (zU (ze rfl) (ze rfl)), ?_⟩
  replace S := S.arr [5, 0] []
  obtain rfl := Option.some.inj H
  exact ⟨s132, rfl, S⟩
 replace H := if_f hc121 H
 refine zb (za (wd (zN rfl rfl) (wd (zl rfl) (zd ?_))))
 refine zC rfl (fun hc133 => ?_) (fun hc133 => ?_)
 ·replace H := if_t hc133 H
  refine zb (za (wd (zj xQ rfl ((S.blk 3).all _ (Sq.len _)) (Sq.len _)) (wd (zi yB rfl (o' := 2) rfl) (wd (zm zQ rfl ((S.blk 2).cell (Nd.get_l _))) ?_))))
  obtain ⟨r134, er134, H⟩ := zp H
  obtain ⟨B136, MB136, SB136, back⟩ := S.calln 0 ((.nil))
  refine zu (zo jV) (by decide) (jU SB136 er134) ?_
  rintro _ w135 ⟨rfl, S2⟩
  replace S := back _ _ _ _ S2 rfl
  clear back S2 SB136
  refine xx (C := Sq.C) (l := [r134]) (vs := [.agg (Sq.C r134).toArray]) x5 el_Sq.zero rfl rfl (fun a _ => Sq.len a) (by decide) rfl (by decide) fun b138 w137 s139 hBw137 hw137 => ?_
  replace S := S.lit hBw137 hw137 (by simp)
  refine wd (xa rfl) (wd (zf rfl) (zd (zn ?_)))
  refine ⟨_, (zU (ze rfl) (ze rfl)), ?_⟩
  replace S := S.arr [5, 0] []
  obtain rfl := Option.some.inj H
  exact ⟨s139, rfl, S⟩
 replace H := if_f hc133 H
 refine zb (za (wd (zN rfl rfl) (wd (zl rfl) (zd ?_))))
 refine zC rfl (fun hc140 => ?_) (fun hc140 => ?_)
 ·replace H := if_t hc140 H
  refine zb (za (wd (zj xQ rfl ((S.blk 3).all _ (Sq.len _)) (Sq.len _)) (wd (zi yk rfl (o' := 3) rfl) (wd (zm zQ rfl ((S.blk 2).cell (Nd.get_r _))) ?_))))
  obtain ⟨r141, er141, H⟩ := zp H
  obtain ⟨B143, MB143, SB143, back⟩ := S.calln 0 ((.nil))
  refine zu (zo jV) (by decide) (jU SB143 er141) ?_
  rintro _ w142 ⟨rfl, S2⟩
  replace S := back _ _ _ _ S2 rfl
  clear back S2 SB143
  refine xx (C := Sq.C) (l := [r141]) (vs := [.agg (Sq.C r141).toArray]) x5 el_Sq.zero rfl rfl (fun a _ => Sq.len a) (by decide) rfl (by decide) fun b145 w144 s146 hBw144 hw144 => ?_
  replace S := S.lit hBw144 hw144 (by simp)
  refine wd (xa rfl) (wd (zf rfl) (zd (zn ?_)))
  refine ⟨_, (zU (ze rfl) (ze rfl)), ?_⟩
  replace S := S.arr [5, 0] []
  obtain rfl := Option.some.inj H
  exact ⟨s146, rfl, S⟩
 replace H := if_f hc140 H
 refine zb (za (wd (zN rfl rfl) (wd (zl rfl) (zd ?_))))
 refine zC rfl (fun hc147 => ?_) (fun hc147 => ?_)
 ·replace H := if_t hc147 H
  refine zb (za (wd (zr rfl) (wd (zi yk rfl (o' := 3) rfl) (wd (zm zQ rfl ((S.blk 1).cell (Nd.get_r _))) (wd (zi yk rfl (o' := 3) rfl) (wd (zm zQ rfl ((S.blk 2).cell (Nd.get_r _))) ?_))))))
  obtain ⟨r148, er148, H⟩ := zp H
  obtain ⟨B150, MB150, SB150, back⟩ := S.sub [] [] [oB b16 T_Sq (Sq.C ({ a1 with left := r18 })), oB b13 T_Nd (Nd.C r9), oB b7 T_Nd (Nd.C r3), oB b2 T_Sq (Sq.C a1), oT a_0 a0]
  refine zu (zo kH) (by decide) (kK SB150 er148) ?_
  rintro _ w149 ⟨b151, b152, rfl, hnww149, S2⟩
  replace S := back _ _ _ _ _ S2 rfl rfl
  clear back S2 SB150
  refine xx (C := FC) (l := [FnV.mk (.func xz) #[] #[.pointer (some ⟨b151, 0, none⟩), .pointer (some ⟨b152, 0, none⟩)]]) (vs := [.func (.func xz) #[] #[.pointer (some ⟨b151, 0, none⟩), .pointer (some ⟨b152, 0, none⟩)]]) xl uB.zero rfl rfl (fun _ _ => rfl) (by decide) rfl (by decide) fun b154 w153 s155 hBw153 hw153 => ?_
  replace S := S.lit hBw153 hw153 (by simp)
  obtain ⟨r156, er156, H⟩ := zp H
  replace S := S.front 5
  obtain ⟨B158, MB158, SB158, back⟩ := S.calln 1 ((.s 0 rfl (.z 0 rfl (.z 1 rfl .nil))))
  refine zu (zo ca_rule_imps) (by decide) (zal SB158 er156) ?_
  rintro _ w157 ⟨s159, rfl, S2⟩
  replace S := back _ _ _ _ S2 rfl
  clear back S2 SB158
  refine wd (zK rfl) (wd (zk rfl rfl) (wd (zk rfl rfl) (wd (xa rfl) (wd (zf rfl) (zd (zb (zb (za (wd (zh rfl) (wd (xc rfl rfl) (zd ?_)))))))))))
  refine zC rfl (fun hc160 => ?_) (fun hc160 => ?_)
  ·replace H := if_t hc160 H
   refine zb (za (wd (zh rfl) (wd (z0) (wd (zf rfl) (zd (zn ?_))))))
   replace S := S.nil T_Sq 17 Sq.C
   refine ⟨_, (zU (ze rfl) (ze rfl)), ?_⟩
   replace S := S.arr [1, 0] []
   obtain rfl := Option.some.inj H
   exact ⟨SlV.nil, rfl, S⟩
  replace H := if_f hc160 H
  refine zt (zb ?_)
  obtain ⟨r161, er161, H⟩ := zp H
  obtain ⟨r162, er162, H⟩ := zp H
  refine jk 10 [9]
   (fun i v u => match i with
   | 9 => ∃ sl, v = SlV.v sl ∧ Rd u 1 sl ([r3.r].map IC) ∧ (∀ j, sl.fp j → w157.heap.size ≤ j)
   | _ => True) hmix (by kernel_rfl) (by kernel_rfl) ?_ ?_
  ·intro i v u u' hi hx hv
   match i, hv with
   | 9, ⟨b, e1, hr, hl⟩ => exact ⟨b, e1, hr.ext hx, hl⟩
   | 0, _ => exact trivial
   | 1, _ => exact trivial
   | 2, _ => exact trivial
   | 3, _ => exact trivial
   | 4, _ => exact trivial
   | 5, _ => exact trivial
   | 6, _ => exact trivial
   | 7, _ => exact trivial
   | 8, _ => exact trivial
   | _ + 10, _ => exact trivial
  refine zz (fun v K => zj xQ rfl (((S.ext K).blk 3).all _ (Sq.len _)) (Sq.len _)) rfl (zz (fun v K => zR rfl) rfl ?_)
  refine wm_call (fun v => zo vc) (fun v K => (have ⟨M, SS⟩ := (S.ext K).lend ((.s 1 rfl .nil)); quiet (vb SS er161) (fun v w' h => ⟨h.1, _, _, h.2⟩))) rfl (zz (fun v K => zi yB rfl (o' := 2) rfl) rfl (zz (fun v K => zm zQ rfl (((S.ext K).blk 5).cell (Nd.get_l _))) rfl ?_))
  refine wm_call (fun v => zo jV) (fun v K => (have ⟨M, SS⟩ := (S.ext K).lend ((.nil)); quiet (jU SS er162) (fun v w' h => ⟨h.1, _, _, h.2⟩))) rfl (zz (fun v K => zj xQ rfl (((S.ext K).blk 3).all _ (Sq.len _)) (Sq.len _)) rfl (zz (fun v K => zi yk rfl (o' := 3) rfl) rfl (zz (fun v K => zm zQ rfl (((S.ext K).blk 5).cell (Nd.get_r _))) rfl ?_)))
  refine wm_new (fun g v K G => (have ⟨sl, v', hd, hx, ho, hf⟩ := j1 (C := IC) (l := [r3.r]) (vs := [.int .i64 r3.r]) zY yh.zero rfl rfl (fun _ _ => rfl) (by first | decide | simp) rfl; ⟨_, v', hd, hx, sl, rfl, ho.toRd, (fun j hj => by have := hf j hj; have := K.size; omega)⟩)) rfl ?_
  refine yQ fun g w164 K hV => ?_
  obtain ⟨s163, hv1659, hr9, hf9⟩ := hV 9 rfl (by decide)
  replace S := S.addZs K (.s hr9 (by simp) hf9 .nil)
  clear K hV
  obtain ⟨r166, er166, H⟩ := zp H
  obtain ⟨B168, MB168, SB168, back⟩ := S.calln 0 ((.z 0 rfl .nil))
  refine zu (zM vc (zO rfl (zO hv1659 rfl))) (by decide) (vb SB168 er166) ?_
  rintro _ w167 ⟨rfl, S2⟩
  replace S := back _ _ _ _ S2 rfl
  clear back S2 SB168
  refine xx (C := Sq.C) (l := [r162, r166]) (vs := [.agg (Sq.C r162).toArray, .agg (Sq.C r166).toArray]) x5 el_Sq.zero rfl rfl (fun a _ => Sq.len a) (by decide) rfl (by decide) fun b170 w169 s171 hBw169 hw169 => ?_
  replace S := S.lit hBw169 hw169 (by simp)
  refine wd (xa rfl) (wd (zf rfl) (zd (zn ?_)))
  refine ⟨_, (zU (ze rfl) (ze rfl)), ?_⟩
  replace S := S.arr [1, 0] []
  obtain rfl := Option.some.inj H
  exact ⟨s171, rfl, S⟩
 replace H := if_f hc147 H
 refine zt (zb (za (wd (z0) (wd (zf rfl) (zd (zn ?_))))))
 replace S := S.nil T_Sq 17 Sq.C
 refine ⟨_, (zU (ze rfl) (ze rfl)), ?_⟩
 replace S := S.arr [5, 0] []
 obtain rfl := Option.some.inj H
 exact ⟨SlV.nil, rfl, S⟩
theorem zbd {A : Nat → Prop} {N : Oth} {w : World} {a0 : Tb} {a_0 : Option Addr} {a1 : Sq} {a2 : Int} {a3 : Int} (S : St A N w w [oT a_0 a0] [oTz]) {r : Tb × List Sq × Int} (H : rule_Premises.f a0 a1 a2 a3 = some r) :
  Calls PP F_rule_Premises #[.pointer a_0, .agg (Sq.C a1).toArray, .int .i64 a2, .int .i64 a3] w fun e w' => ∃ v, e = .returned v ∧ (∃ so0 : SlV, v = .tuple #[so0.v, .int .i64 r.2.2] ∧ St A N w w' [oT a_0 r.1, oS T_Sq 17 Sq.C so0 r.2.1] []) := by
 unfold rule_Premises.f at H
 refine zw (n := 43) fn_rule_Premises rfl rfl (by simp) (zb (za ?_))
 refine zJ rfl (by decide) fun b2 w1 hw1 => ?_
 replace S := S.new hw1
 refine wd (z0) (wd (zf rfl) (zd (zb (zb (za (wd (zr rfl) (wd (zj xQ rfl ((S.blk 0).all _ (Sq.len _)) (Sq.len _)) ?_)))))))
 obtain ⟨r3, er3, H⟩ := zp H
 obtain ⟨B5, MB5, SB5, back⟩ := S.calln 0 ((.o 1 rfl (.z 0 rfl .nil)))
 refine zu (zo ca_rule_look) (by decide) (rule_look_st SB5 er3) ?_
 rintro _ w4 ⟨rfl, S2⟩
 replace S := back _ _ _ _ S2 rfl
 clear back S2 SB5
 refine wd (zf rfl) (zd (zb (za (wd (zh rfl) (wd (xc rfl rfl) (zd ?_))))))
 refine zC rfl (fun hc6 => ?_) (fun hc6 => ?_)
 ·replace H := if_t hc6 H
  refine zb (za (wd (zh rfl) (wd (z0) (wd (zf rfl) (zd (zn ?_))))))
  replace S := S.nil T_Sq 17 Sq.C
  refine ⟨_, (zU (ze rfl) (ze rfl)), ?_⟩
  replace S := S.arr [2, 0] []
  obtain rfl := Option.some.inj H
  exact ⟨SlV.nil, rfl, S⟩
 replace H := if_f hc6 H
 refine zt (zb (zb (za (wd (zr rfl) (wd (zj xQ rfl ((S.blk 0).all _ (Sq.len _)) (Sq.len _)) (wd (zh rfl) (wd (zh rfl) ?_)))))))
 obtain ⟨r7, er7, H⟩ := zp H
 obtain ⟨B9, MB9, SB9, back⟩ := S.calln 0 ((.o 1 rfl .nil))
 refine zu (zo ca_rule_fits) (by decide) (rule_fits_st SB9 er7) ?_
 rintro _ w8 ⟨rfl, S2⟩
 replace S := back _ _ _ _ S2 rfl
 clear back S2 SB9
 refine wd (xk rfl) (zd ?_)
 refine zC rfl (fun hc10 => ?_) (fun hc10 => ?_)
 ·replace H := if_t hc10 H
  refine zb (za (wd (z0) (wd (zf rfl) (zd (zn ?_)))))
  replace S := S.nil T_Sq 17 Sq.C
  refine ⟨_, (zU (ze rfl) (ze rfl)), ?_⟩
  replace S := S.arr [2, 0] []
  obtain rfl := Option.some.inj H
  exact ⟨SlV.nil, rfl, S⟩
 replace H := if_f hc10 H
 refine zt (zb (za (wd (zr rfl) ?_)))
 obtain ⟨r11, er11, H⟩ := zp H
 obtain ⟨B13, MB13, SB13, back⟩ := S.calln 0 ((.o 1 rfl .nil))
 refine zu (zo ym) (by decide) (yl SB13 er11) ?_
 rintro _ w12 ⟨rfl, S2⟩
 replace S := back _ _ _ _ S2 rfl
 clear back S2 SB13
 refine wd (zf rfl) (zd (zb (za (wd (zr rfl) (wd (zj xQ rfl ((S.blk 0).all _ (Sq.len _)) (Sq.len _)) (wd (zh rfl) (wd (zh rfl) ?_)))))))
 obtain ⟨r14, er14, H⟩ := zp H
 replace S := S.front 1
 obtain ⟨B16, MB16, SB16, back⟩ := S.calln 1 ((.nil))
 refine zu (zo ca_rule_premises) (by decide) (rule_premises_st SB16 er14) ?_
 rintro _ w15 ⟨s17, rfl, S2⟩
 replace S := back _ _ _ _ S2 rfl
 clear back S2 SB16
 refine wd (zK rfl) (wd (zk rfl rfl) (wd (zk rfl rfl) (wd (xa rfl) (wd (zf rfl) (zd (zb (zb (za (wd (zh rfl) (wd (xc rfl rfl) (zd ?_)))))))))))
 refine zC rfl (fun hc18 => ?_) (fun hc18 => ?_)
 ·replace H := if_t hc18 H
  refine zb (za (wd (zr rfl) (wd (zh rfl) ?_)))
  obtain ⟨r19, er19, H⟩ := zp H
  obtain ⟨B21, MB21, SB21, back⟩ := S.calln 1 ((.nil))
  refine zu (zo kb) (by decide) (j9 SB21 er19) ?_
  rintro _ w20 ⟨rfl, S2⟩
  replace S := back _ _ _ _ S2 rfl
  clear back S2 SB21
  refine zd (zb (za (wd (zh rfl) (wd (z0) (wd (zf rfl) (zd (zn ?_)))))))
  replace S := S.nil T_Sq 17 Sq.C
  refine ⟨_, (zU (ze rfl) (ze rfl)), ?_⟩
  replace S := S.arr [1, 0] []
  obtain rfl := Option.some.inj H
  exact ⟨SlV.nil, rfl, S⟩
 replace H := if_f hc18 H
 refine zt (zb (za (wd (zR rfl) (wd (xa rfl) (wd (zf rfl) (zd (zn ?_)))))))
 refine ⟨_, (zU (ze rfl) (ze rfl)), ?_⟩
 replace S := S.arr [0, 1] []
 obtain rfl := Option.some.inj H
 exact ⟨s17, rfl, S⟩
end Go.Proofs.YtjebgcoknpcadaaGreatDoor
end
section
namespace Go.Proofs.YtjebgcoknpcadaaGreatDoor
open Gw Go.RowKit
theorem formula_From_st {A : Nat → Prop} {N : Oth} {w : World} {a0 : List Nd} {s_0 : SlV} (S : St A N w w [] [fS 4 Nd.C s_0 a0]) {r : Tb × Int} (H : formula_From.f a0 = some r) :
  Calls PP F_formula_From #[s_0.v] w fun e w' => ∃ v, e = .returned v ∧ (∃ ao0 : Option Addr, v = .tuple #[.pointer ao0, .int .i64 r.2] ∧ St A N w w' [oT ao0 r.1] []) := by
 unfold formula_From.f at H
 refine zw (n := 35) fn_formula_From rfl rfl (by simp) (zb (za ?_))
 replace S := S.add (Ext.refl _) (oT.nil _) (fun _ x => x.elim)
 refine wd (xj rfl) (wd (zf rfl) (zd (zb (za ?_))))
 obtain ⟨r1, er1, H⟩ := zp H
 obtain ⟨B3, MB3, SB3, back⟩ := S.calln 0 ((.nil))
 refine zu (zo ca_formula_New) (by decide) (formula_New_st SB3 er1) ?_
 rintro _ w2 ⟨a4, rfl, S2⟩
 replace S := back _ _ _ _ S2 rfl
 clear back S2 SB3
 refine wd (xj rfl) (zd (zb (zb (za (wd (zR rfl) (wd (xG z9 rfl (S.rd 0)) (wd (zh rfl) (zd ?_))))))))
 obtain ⟨o5, e5, Ho5⟩ := zp H
 clear H
 refine yT [2, 3, 5, 6, 7, 8, 12, 13, 14, 15, 16, 17, 18, 19, 20, 21, 22, 23, 24, 25, 26, 27, 28, 29, 30, 31, 32, 33] (fun fr W => ∃ s5 : Tb, o5 = .inl s5 ∧ St A N w W [oT a4 s5, oT none none] [fS 4 Nd.C s_0 a0]) ?_ ?_
 ·refine zF ?_
  refine yp (α := Nat × Int × Tb) [2, 3, 5, 6, 7, 8, 12, 13, 14, 15, 16, 17, 18, 19, 20, 21, 22, 23, 24, 25, 26, 27, 28, 29, 30, 31, 32, 33] (fun x fr W => (x.1 : Int) = (a0.length : Int) - x.2.1 ∧ 0 ≤ x.2.1 ∧ forN (fun i s => formula_From.b0 a0 i s) x.1 x.2.1 x.2.2 = some o5 ∧ fr 12 = .int .i64 x.2.1 ∧ St A N w W [oT a4 (x.2.2), oT none none] [fS 4 Nd.C s_0 a0]) (fun x => x.1) (((a0.length : Int) - 0).toNat, 0, r1) ⟨(by dsimp only; have hle := Int.natCast_nonneg (a0.length); omega), (Int.le_refl _), (by dsimp only; exact e5), rfl, S⟩ ?_
  rintro ⟨m5, i5, x5_0⟩ g5 u5 ⟨hm5, hl5, e5, q5_i, S⟩
  try dsimp only at hm5
  try dsimp only at hl5
  try dsimp only at e5
  try dsimp only at S
  try dsimp only at q5_i
  refine zb (za (wd (xm q5_i rfl) (zd (zb ?_))))
  refine zC rfl (fun hc6 => ?_) (fun hc6 => ?_)
  rotate_left
  ·refine yf ?_
   have hge : (a0.length : Int) ≤ i5 := Int.not_lt.1 (of_decide_eq_false hc6)
   obtain rfl : m5 = 0 := by omega
   replace e5 := zaG e5
   exact ⟨rfl, ((Dif.self _ _ _).upd rfl _), x5_0, e5, S⟩
  refine zt ?_
  have hlt5 : i5 < (a0.length : Int) := of_decide_eq_true hc6
  obtain ⟨m5, rfl⟩ : ∃ m, m5 = m + 1 := ⟨m5 - 1, by omega⟩
  obtain ⟨q5, H, e5⟩ := zay e5
  unfold formula_From.b0 at H
  try dsimp only at H
  have hb5 := (S.len 0)
  refine zb ?_
  refine zF (zb (za (wd (zh q5_i) (wd (zZ z9 rfl q5_i (S.rd 0) (And.intro (show 0 ≤ i5 by omega) (show i5 < (a0.length : Int) from hlt5)).1 (And.intro (show 0 ≤ i5 by omega) (show i5 < (a0.length : Int) from hlt5)).2) (wd (zj ya rfl ((S.rd 0).at (yg Nd.z (And.intro (show 0 ≤ i5 by omega) (show i5 < (a0.length : Int) from hlt5)))) (Nd.len _)) ?_)))))
  refine zP uW (by decide) fun b9 w8 hw8 => ?_
  replace S := S.new hw8
  refine wd (zf rfl) ?_
  refine zx ya rfl rfl (S.blk 0) (Nd.len _) (by rw [Nd.len]; decide) (Nd.one _) (zG (Nd.len _)) fun w10 B hw10 zw10 => ?_
  replace S := S.store 0 B hw10
  clear B
  refine zd (zb (za (wd (zr rfl) (wd (zj ya rfl ((S.blk 0).all _ (Nd.len _)) (Nd.len _)) ?_))))
  obtain ⟨r11, er11, H⟩ := zp H
  replace S := S.front 1
  obtain ⟨B13, MB13, SB13, back⟩ := S.calln 1 ((.nil))
  refine zu (zo kc) (by decide) (formula_Table_Put_st SB13 er11) ?_
  rintro _ w12 ⟨rfl, S2⟩
  replace S := back _ _ _ _ S2 rfl
  clear back S2 SB13
  refine wd (zK rfl) (wd (zk rfl rfl) (wd (zk rfl rfl) (wd (zf rfl) (wd (zf rfl) (zd (zb (zb (za ?_))))))))
  refine wd (zh rfl) (wd (zN rfl rfl) (wd (zB rfl) ?_))
  refine wg (fun hg => zh rfl) ?_
  refine wg (fun hg => zh rfl) ?_
  refine wg (fun hg => xc (zq hg) (zq hg)) (wd (xe rfl (fun hp => (zq (xF hp)))) (zd ?_))
  refine zC rfl (fun hc14 => ?_) (fun hc14 => ?_)
  ·replace H := if_t hc14 H
   refine za (wd (zf rfl) (zd (zb (za (wd (zh rfl) (wd (xc rfl rfl) (zd ?_)))))))
   refine zC rfl (fun hc15 => ?_) (fun hc15 => ?_)
   ·replace H := if_t hc15 H
    refine zb (za (wd (zh rfl) ?_))
    replace S := S.add (Ext.refl _) (oT.nil _) (fun _ x => x.elim)
    refine wd (xj rfl) (wd (zf rfl) (zd (zn ?_)))
    refine ⟨_, (zU (ze rfl) (ze rfl)), ?_⟩
    replace S := S.arr [0] []
    obtain rfl := Option.some.inj H
    obtain rfl := e5
    obtain rfl := uV Ho5
    exact ⟨none, rfl, S⟩
   replace H := if_f hc15 H
   refine zt (za (wd (xg q5_i rfl (c := i5 + 1) rfl (by omega) (by omega)) (wd (zh rfl) (zd ?_))))
   replace S := S.arr [0, 2] [0]
   obtain rfl := Option.some.inj H
   exact ⟨rfl, (((((((((((((((((((((((((((Dif.self _ _ _).upd rfl _).upd rfl _).upd rfl _).upd rfl _).upd rfl _).upd rfl _).upd rfl _).upd rfl _).upd rfl _).upd rfl _).upd rfl _).upd rfl _).upd rfl _).upd rfl _).upd rfl _).upd rfl _).upd rfl _).upd rfl _).upd rfl _).upd rfl _).upd rfl _).upd rfl _).upd rfl _).upd rfl _).upd rfl _).upd rfl _), (m5, i5 + 1, r11.1), ⟨(by dsimp only; omega), (by dsimp only; omega), e5, rfl, S⟩, by dsimp only; omega⟩
  ·replace H := if_f hc14 H
   refine zt (zb (za (wd (zh rfl) (wd (xc rfl rfl) (zd ?_)))))
   refine zC rfl (fun hc16 => ?_) (fun hc16 => ?_)
   ·replace H := if_t hc16 H
    refine zb (za (wd (zh rfl) ?_))
    replace S := S.add (Ext.refl _) (oT.nil _) (fun _ x => x.elim)
    refine wd (xj rfl) (wd (zf rfl) (zd (zn ?_)))
    refine ⟨_, (zU (ze rfl) (ze rfl)), ?_⟩
    replace S := S.arr [0] []
    obtain rfl := Option.some.inj H
    obtain rfl := e5
    obtain rfl := uV Ho5
    exact ⟨none, rfl, S⟩
   replace H := if_f hc16 H
   refine zt (za (wd (xg q5_i rfl (c := i5 + 1) rfl (by omega) (by omega)) (wd (zh rfl) (zd ?_))))
   replace S := S.arr [0, 2] [0]
   obtain rfl := Option.some.inj H
   exact ⟨rfl, ((((((((((((((((((((((((((Dif.self _ _ _).upd rfl _).upd rfl _).upd rfl _).upd rfl _).upd rfl _).upd rfl _).upd rfl _).upd rfl _).upd rfl _).upd rfl _).upd rfl _).upd rfl _).upd rfl _).upd rfl _).upd rfl _).upd rfl _).upd rfl _).upd rfl _).upd rfl _).upd rfl _).upd rfl _).upd rfl _).upd rfl _).upd rfl _).upd rfl _), (m5, i5 + 1, r11.1), ⟨(by dsimp only; omega), (by dsimp only; omega), e5, rfl, S⟩, by dsimp only; omega⟩
 rintro g17 u18 ⟨s5, rfl, S⟩
 have H := Ho5
 dsimp only [aft] at H
 refine zb (za (wd (zr rfl) (wd (xj rfl) (wd (zf rfl) (zd (zn ?_))))))
 refine ⟨_, (zU (ze rfl) (ze rfl)), ?_⟩
 replace S := S.arr [0] []
 obtain rfl := Option.some.inj H
 exact ⟨a4, rfl, S⟩
end Go.Proofs.YtjebgcoknpcadaaGreatDoor
end
section
namespace Go.Proofs.YtjebgcoknpcadaaGreatDoor
open Gw Go.RowKit
theorem ref03_Ints_st {A : Nat → Prop} {N : Oth} {w : World} {a0 : List Int} {s_0 : SlV} {a1 : List Int} {s_1 : SlV} (S : St A N w w [] [fS 1 IC s_0 a0, fS 1 IC s_1 a1]) {r : Bool} (H : ref03_Ints.f a0 a1 = some r) :
  Calls PP F_ref03_Ints #[s_0.v, s_1.v] w fun e w' => ∃ v, e = .returned v ∧ (v = .bool r ∧ St A N w w' [] []) := by
 unfold ref03_Ints.f at H
 refine zw (n := 26) fn_ref03_Ints rfl rfl (by simp) (zb (za (wd (zl rfl) (zd (zb (zb (za (wd (zR rfl) (wd (xG zY rfl (S.rd 0)) (wd (zR rfl) (wd (xG zY rfl (S.rd 1)) (wd (xc rfl rfl) (zd ?_)))))))))))))
 refine zC rfl (fun hc1 => ?_) (fun hc1 => ?_)
 ·replace H := if_t hc1 H
  refine zb (za (wd (zl rfl) (zd (zn ?_))))
  refine ⟨_, (zS (ze rfl)), ?_⟩
  replace S := S.arr [] []
  obtain rfl := Option.some.inj H
  exact ⟨rfl, S⟩
 replace H := if_f hc1 H
 refine zt (zb (zb (za (wd (zf rfl) (zd ?_)))))
 obtain ⟨o2, e2, Ho2⟩ := zp H
 clear H
 refine yT [4, 5, 11, 12, 13, 14, 15, 16, 17, 18, 19, 20, 21, 22, 23, 24, 25] (fun fr W => ∃ s2 : Unit, o2 = .inl s2 ∧ St A N w W [] [fS 1 IC s_0 a0, fS 1 IC s_1 a1]) ?_ ?_
 ·refine zF ?_
  refine yp (α := Nat × Int × Unit) [4, 5, 11, 12, 13, 14, 15, 16, 17, 18, 19, 20, 21, 22, 23, 24, 25] (fun x fr W => (x.1 : Int) = (a0.length : Int) - x.2.1 ∧ 0 ≤ x.2.1 ∧ forN (fun i s => ref03_Ints.b0 a1 a0 i) x.1 x.2.1 x.2.2 = some o2 ∧ fr 5 = .int .i64 x.2.1 ∧ St A N w W [] [fS 1 IC s_0 a0, fS 1 IC s_1 a1]) (fun x => x.1) (((a0.length : Int) - 0).toNat, 0, ()) ⟨(by dsimp only; have hle := Int.natCast_nonneg (a0.length); omega), (Int.le_refl _), (by dsimp only; exact e2), rfl, S⟩ ?_
  rintro ⟨m2, i2, _⟩ g2 u2 ⟨hm2, hl2, e2, q2_i, S⟩
  try dsimp only at hm2
  try dsimp only at hl2
  try dsimp only at e2
  try dsimp only at S
  try dsimp only at q2_i
  refine zb (zb (za (wd (zh q2_i) (wd (zR rfl) (wd (xG zY rfl (S.rd 0)) (wd (xm rfl rfl) (zd ?_)))))))
  refine zC rfl (fun hc3 => ?_) (fun hc3 => ?_)
  rotate_left
  ·refine yf ?_
   have hge : (a0.length : Int) ≤ i2 := Int.not_lt.1 (of_decide_eq_false hc3)
   obtain rfl : m2 = 0 := by omega
   replace e2 := zaG e2
   exact ⟨rfl, (((((Dif.self _ _ _).upd rfl _).upd rfl _).upd rfl _).upd rfl _), (), e2, S⟩
  refine zt ?_
  have hlt2 : i2 < (a0.length : Int) := of_decide_eq_true hc3
  obtain ⟨m2, rfl⟩ : ∃ m, m2 = m + 1 := ⟨m2 - 1, by omega⟩
  obtain ⟨q2, H, e2⟩ := zay e2
  unfold ref03_Ints.b0 at H
  try dsimp only at H
  have hb2 := (S.len 0)
  refine zb ?_
  refine zF (zb ?_)
  refine yn 8 (Ext u2) hmix (by kernel_rfl) (by kernel_rfl) (Ext.drawn _) (zy (fun v K => zR rfl) (zy (fun v K => zh q2_i) (zy (fun v K => zZ zY rfl rfl ((S.ext K).rd 0) (And.intro (show 0 ≤ i2 by omega) (show i2 < (a0.length : Int) from hlt2)).1 (And.intro (show 0 ≤ i2 by omega) (show i2 < (a0.length : Int) from hlt2)).2) (zy (fun v K => zm zQ rfl (((S.ext K).rd 0).one (yg (0 : Int) (And.intro (show 0 ≤ i2 by omega) (show i2 < (a0.length : Int) from hlt2))) rfl)) (zy (fun v K => zR rfl) (zy (fun v K => zh q2_i) ?_))))))
  obtain ⟨hi5, H⟩ := xK H
  refine zy (fun v K => zZ zY rfl rfl ((S.ext K).rd 1) (xv hi5).1 (xv hi5).2) (zy (fun v K => zm zQ rfl (((S.ext K).rd 1).one (yg (0 : Int) (xv hi5)) rfl)) ?_)
  refine vt fun w6 K => ?_
  replace S := S.ext K
  clear K
  refine wd (xc rfl rfl) (zd ?_)
  refine zC rfl (fun hc7 => ?_) (fun hc7 => ?_)
  ·replace H := if_t hc7 H
   refine zb (za (wd (zl rfl) (zd (zn ?_))))
   refine ⟨_, (zS (ze rfl)), ?_⟩
   replace S := S.arr [] []
   obtain rfl := Option.some.inj H
   obtain rfl := e2
   obtain rfl := uV Ho2
   exact ⟨rfl, S⟩
  replace H := if_f hc7 H
  refine zt (za (wd (zh q2_i) (wd (xg rfl rfl (c := i2 + 1) rfl (by omega) (by omega)) (wd (zf rfl) (zd ?_)))))
  obtain rfl := Option.some.inj H
  exact ⟨rfl, (((((((((((((((((Dif.self _ _ _).upd rfl _).upd rfl _).upd rfl _).upd rfl _).upd rfl _).upd rfl _).upd rfl _).upd rfl _).upd rfl _).upd rfl _).upd rfl _).upd rfl _).upd rfl _).upd rfl _).upd rfl _).upd rfl _), (m2, i2 + 1, ()), ⟨(by dsimp only; omega), (by dsimp only; omega), e2, rfl, S⟩, by dsimp only; omega⟩
 rintro g8 u9 ⟨s2, rfl, S⟩
 have H := Ho2
 dsimp only [aft] at H
 refine zb (za (wd (zl rfl) (zd (zn ?_))))
 refine ⟨_, (zS (ze rfl)), ?_⟩
 replace S := S.arr [] []
 obtain rfl := Option.some.inj H
 exact ⟨rfl, S⟩
theorem ref03_T_Has_st {A : Nat → Prop} {N : Oth} {w : World} {a0 : Tb} {a_0 : Option Addr} {a1 : Int} (S : St A N w w [] [oR a_0 a0]) {r : Bool} (H : ref03_T_Has.f a0 a1 = some r) :
  Calls PP F_ref03_T_Has #[.pointer a_0, .int .i64 a1] w fun e w' => ∃ v, e = .returned v ∧ (v = .bool r ∧ St A N w w' [] []) := by
 unfold ref03_T_Has.f at H
 refine zw (n := 16) fn_ref03_T_Has rfl rfl (by simp) (zb (za (wd (zl rfl) (zd (zb (za (wd (zh rfl) (wd (vz rfl rfl) (wd (zB rfl) (wg (fun hg => zh rfl) (wg (fun hg => zr rfl) ?_)))))))))))
 obtain ⟨ht1, H⟩ := xK H
 obtain ⟨p2, s3, hp4, S⟩ := S.seeR 0 ht1
 replace S := S
 refine wg (fun hg => zH (((zq hg) : _ = Value.pointer a_0).trans (congrArg Value.pointer hp4))) (wg (fun hg => zi jZ (zq hg) (o' := 0) rfl) (wg (fun hg => zm xH (zq hg) ((S.blkZ 0).cell (RTab.get_n _))) (wg (fun hg => xG z9 (zq hg) (S.rd 1)) (wg (fun hg => xm (zq hg) (zq hg)) (wd (xe rfl (fun hp => (zq (xF hp)))) (wd (zl rfl) ?_))))))
 replace S := S.zs [2]
 refine zd (zn ?_)
 refine ⟨_, (zS (ze rfl)), ?_⟩
 replace S := S.arr [] []
 obtain rfl := Option.some.inj H
 exact ⟨rfl, S⟩
theorem ref03_T_Find_st {A : Nat → Prop} {N : Oth} {w : World} {a0 : Tb} {a_0 : Option Addr} {a1 : Nd} (S : St A N w w [] [oR a_0 a0]) {r : Int × Bool} (H : ref03_T_Find.f a0 a1 = some r) :
  Calls PP F_ref03_T_Find #[.pointer a_0, .agg (Nd.C a1).toArray] w fun e w' => ∃ v, e = .returned v ∧ (v = .tuple #[.int .i64 r.1, .bool r.2] ∧ St A N w w' [] []) := by
 unfold ref03_T_Find.f at H
 refine zw (n := 26) fn_ref03_T_Find rfl rfl (by simp) (zb (za ?_))
 refine zJ rfl (by decide) fun b2 w1 hw1 => ?_
 replace S := S.new hw1
 refine wd (zf rfl) (wd (zl rfl) (zd (zb (zb (za (wd (zf rfl) (zd ?_)))))))
 obtain ⟨ht3, H⟩ := xK H
 obtain ⟨o4, e4, Ho4⟩ := zp H
 clear H
 refine yT [4, 5, 6, 7, 8, 9, 10, 11, 12, 13, 14, 15, 16, 17, 18, 19, 20, 21, 22, 23, 24, 25] (fun fr W => ∃ s4 : Unit, o4 = .inl s4 ∧ St A N w W [oB b2 T_Nd (Nd.C a1)] [oR a_0 a0]) ?_ ?_
 ·refine zF ?_
  refine yp (α := Nat × Int × Unit) [4, 5, 6, 7, 8, 9, 10, 11, 12, 13, 14, 15, 16, 17, 18, 19, 20, 21, 22, 23, 24, 25] (fun x fr W => (x.1 : Int) = ((a0.getD []).length : Int) - x.2.1 ∧ 0 ≤ x.2.1 ∧ forN (fun i s => ref03_T_Find.b0 a0 a1 i) x.1 x.2.1 x.2.2 = some o4 ∧ fr 6 = .int .i64 x.2.1 ∧ St A N w W [oB b2 T_Nd (Nd.C a1)] [oR a_0 a0]) (fun x => x.1) ((((a0.getD []).length : Int) - 0).toNat, 0, ()) ⟨(by dsimp only; have hle := Int.natCast_nonneg ((a0.getD []).length); omega), (Int.le_refl _), (by dsimp only; exact e4), rfl, S⟩ ?_
  rintro ⟨m4, i4, _⟩ g4 u4 ⟨hm4, hl4, e4, q4_i, S⟩
  try dsimp only at hm4
  try dsimp only at hl4
  try dsimp only at e4
  try dsimp only at S
  try dsimp only at q4_i
  refine zb (zb (za (wd (zh q4_i) (wd (zr rfl) ?_))))
  obtain ⟨p5, s6, hp7, S⟩ := S.seeR 0 ht3
  replace S := S
  refine wd (zH (congrArg Value.pointer hp7)) (wd (zi jZ rfl (o' := 0) rfl) (wd (zm xH rfl ((S.blkZ 0).cell (RTab.get_n _))) (wd (xG z9 rfl (S.rd 1)) (wd (xm rfl rfl) ?_))))
  replace S := S.zs [2]
  refine zd ?_
  refine zC rfl (fun hc8 => ?_) (fun hc8 => ?_)
  rotate_left
  ·refine yf ?_
   have hge : ((a0.getD []).length : Int) ≤ i4 := Int.not_lt.1 (of_decide_eq_false hc8)
   obtain rfl : m4 = 0 := by omega
   replace e4 := zaG e4
   exact ⟨rfl, ((((((((Dif.self _ _ _).upd rfl _).upd rfl _).upd rfl _).upd rfl _).upd rfl _).upd rfl _).upd rfl _), (), e4, S⟩
  refine zt ?_
  have hlt4 : i4 < ((a0.getD []).length : Int) := of_decide_eq_true hc8
  obtain ⟨m4, rfl⟩ : ∃ m, m4 = m + 1 := ⟨m4 - 1, by omega⟩
  obtain ⟨q4, H, e4⟩ := zay e4
  unfold ref03_T_Find.b0 at H
  try dsimp only at H
  have hb4 := (S.lenRZ 0)
  refine zb ?_
  refine zF (zb ?_)
  refine yn 8 (Ext u4) hmix (by kernel_rfl) (by kernel_rfl) (Ext.drawn _) (zy (fun v K => zr rfl) ?_)
  obtain ⟨p9, s10, hp11, S⟩ := S.seeR 0 ht3
  replace S := S
  refine zy (fun v K => zH (congrArg Value.pointer hp11)) (zy (fun v K => zi jZ rfl (o' := 0) rfl) (zy (fun v K => zm xH rfl (((S.ext K).blkZ 0).cell (RTab.get_n _))) (zy (fun v K => zh q4_i) (zy (fun v K => zZ z9 rfl rfl ((S.ext K).rd 1) (And.intro (show 0 ≤ i4 by omega) (show i4 < ((a0.getD []).length : Int) from hlt4)).1 (And.intro (show 0 ≤ i4 by omega) (show i4 < ((a0.getD []).length : Int) from hlt4)).2) (zy (fun v K => zj ya rfl (((S.ext K).rd 1).at (yg Nd.z (And.intro (show 0 ≤ i4 by omega) (show i4 < ((a0.getD []).length : Int) from hlt4)))) (Nd.len _)) (zy (fun v K => zj ya rfl (((S.ext K).blk 0).all _ (Nd.len _)) (Nd.len _)) ?_))))))
  refine vt fun w13 K => ?_
  replace S := S.ext K
  clear K
  refine wd (does_eqv eg_Nd (eq_Nd _ _) (by decide) rfl rfl) ?_
  replace S := S.zs [2]
  refine zd ?_
  refine zC rfl (fun hc14 => ?_) (fun hc14 => ?_)
  ·replace H := if_t hc14 H
   refine zb (za (wd (zh q4_i) (wd (zf rfl) (wd (zl rfl) (zd (zn ?_))))))
   refine ⟨_, (zU (ze rfl) (ze rfl)), ?_⟩
   replace S := S.arr [] []
   obtain rfl := Option.some.inj H
   obtain rfl := e4
   obtain rfl := uV Ho4
   exact ⟨rfl, S⟩
  replace H := if_f hc14 H
  refine zt (za (wd (zh q4_i) (wd (xg rfl rfl (c := i4 + 1) rfl (by omega) (by omega)) (wd (zf rfl) (zd ?_)))))
  obtain rfl := Option.some.inj H
  exact ⟨rfl, ((((((((((((((((((((Dif.self _ _ _).upd rfl _).upd rfl _).upd rfl _).upd rfl _).upd rfl _).upd rfl _).upd rfl _).upd rfl _).upd rfl _).upd rfl _).upd rfl _).upd rfl _).upd rfl _).upd rfl _).upd rfl _).upd rfl _).upd rfl _).upd rfl _).upd rfl _), (m4, i4 + 1, ()), ⟨(by dsimp only; omega), (by dsimp only; omega), e4, rfl, S⟩, by dsimp only; omega⟩
 rintro g15 u16 ⟨s4, rfl, S⟩
 have H := Ho4
 dsimp only [aft] at H
 refine zb (za (wd (zf rfl) (wd (zl rfl) (zd (zn ?_)))))
 refine ⟨_, (zU (ze rfl) (ze rfl)), ?_⟩
 replace S := S.arr [] []
 obtain rfl := Option.some.inj H
 exact ⟨rfl, S⟩
theorem ref03_T_Put_st {A : Nat → Prop} {N : Oth} {w : World} {a0 : Tb} {a_0 : Option Addr} {a1 : Nd} (S : St A N w w [oR a_0 a0] []) {r : Tb × Int × Int} (H : ref03_T_Put.f a0 a1 = some r) :
  Calls PP F_ref03_T_Put #[.pointer a_0, .agg (Nd.C a1).toArray] w fun e w' => ∃ v, e = .returned v ∧ (v = .tuple #[.int .i64 r.2.1, .int .i64 r.2.2] ∧ St A N w w' [oR a_0 r.1] []) := by
 unfold ref03_T_Put.f at H
 refine zw (n := 90) fn_ref03_T_Put rfl rfl (by simp) (zb (za ?_))
 refine zJ rfl (by decide) fun b2 w1 hw1 => ?_
 replace S := S.new hw1
 refine wd (zf rfl) (wd (zf rfl) (zd (zb (zb (za (wd (zi fl_Nd_kind rfl (o' := 0) rfl) (wd (zm y4 rfl ((S.blk 0).cell (Nd.get_kind _))) (zd ?_))))))))
 obtain ⟨o3, e3, Ho3⟩ := zp H
 replace H := e3; clear e3
 refine yT [4, 5, 10, 11, 12, 13, 14, 15, 16, 17, 18, 19, 20, 21, 22, 23, 24, 25, 26, 27, 28, 29, 30, 31, 32, 33, 34, 35, 36, 37, 38, 39, 40, 41, 42, 43, 44, 45, 46, 47, 48, 49, 50, 51, 52, 53, 54, 55, 56, 57, 58, 59] (fun fr W => ∃ s3 : Tb, o3 = .inl s3 ∧ St A N w W [oB b2 T_Nd (Nd.C a1), oR a_0 s3] []) ?_ ?_
 ·refine zF (zb (za (wd (zN rfl rfl) (wd (zl rfl) (zd ?_)))))
  refine zC rfl (fun hc4 => ?_) (fun hc4 => ?_)
  ·replace H := if_t hc4 H
   refine zb (zb (za (wd (zi yB rfl (o' := 2) rfl) (wd (zm zQ rfl ((S.blk 0).cell (Nd.get_l _))) (wd (xc rfl rfl) (wd (zB rfl) (wg (fun hg => zi yk rfl (o' := 3) rfl) (wg (fun hg => zm zQ (zq hg) ((S.blk 0).cell (Nd.get_r _))) (wg (fun hg => xc (zq hg) rfl) (wd (xU rfl (fun hp => (zq (xF hp)))) (zd ?_)))))))))))
   refine zC rfl (fun hc5 => ?_) (fun hc5 => ?_)
   ·replace H := if_t hc5 H
    refine zb (za (wd (zf rfl) (wd (zf rfl) (zd (zn ?_)))))
    refine ⟨_, (zU (ze rfl) (ze rfl)), ?_⟩
    replace S := S.arr [1] []
    obtain rfl := Option.some.inj H
    obtain rfl := uV Ho3
    exact ⟨rfl, S⟩
   replace H := if_f hc5 H
   refine zt (zb (za (wd (zi jo rfl (o' := 1) rfl) (wd (zm xY rfl ((S.blk 0).cell (Nd.get_name _))) ?_))))
   obtain ⟨r6, er6, H⟩ := zp H
   obtain ⟨B8, MB8, SB8, back⟩ := S.calln 0 ((.nil))
   refine zu (zo ca_ref03_Word) (by decide) (ref03_Word_st SB8 er6) ?_
   rintro _ w7 ⟨rfl, S2⟩
   replace S := back _ _ _ _ S2 rfl
   clear back S2 SB8
   refine wd (xk rfl) (zd ?_)
   refine zC rfl (fun hc9 => ?_) (fun hc9 => ?_)
   ·replace H := if_t hc9 H
    refine zb (za (wd (zf rfl) (wd (zf rfl) (zd (zn ?_)))))
    refine ⟨_, (zU (ze rfl) (ze rfl)), ?_⟩
    replace S := S.arr [1] []
    obtain rfl := Option.some.inj H
    obtain rfl := uV Ho3
    exact ⟨rfl, S⟩
   replace H := if_f hc9 H
   refine zt ?_
   obtain rfl := Option.some.inj H
   exact ⟨rfl, (((((((((((((((Dif.refl _ _).upd rfl _).upd rfl _).upd rfl _).upd rfl _).upd rfl _).upd rfl _).upd rfl _).upd rfl _).upd rfl _).upd rfl _).upd rfl _).upd rfl _).upd rfl _).upd rfl _), a0, rfl, S⟩
  ·replace H := if_f hc4 H
   refine zb (za (wd (zN rfl rfl) (wd (zl rfl) (zd ?_))))
   refine zC rfl (fun hc10 => ?_) (fun hc10 => ?_)
   ·replace H := if_t hc10 H
    refine zb (za (wd (zi jo rfl (o' := 1) rfl) (wd (zm xY rfl ((S.blk 0).cell (Nd.get_name _))) (wd (zbb rfl rfl) (wd (zB rfl) (wg (fun hg => zi yB rfl (o' := 2) rfl) (wg (fun hg => zm zQ (zq hg) ((S.blk 0).cell (Nd.get_l _))) (wg (fun hg => xc (zq hg) rfl) (wd (xU rfl (fun hp => (zq (xF hp)))) (wd (zB rfl) (wg (fun hg => zi yk rfl (o' := 3) rfl) (wg (fun hg => zm zQ (zq hg) ((S.blk 0).cell (Nd.get_r _))) (wg (fun hg => xc (zq hg) rfl) (wd (xU rfl (fun hp => (zq (xF hp)))) (zd ?_)))))))))))))))
    refine zC rfl (fun hc11 => ?_) (fun hc11 => ?_)
    ·replace H := if_t hc11 H
     refine zb (za (wd (zf rfl) (wd (zf rfl) (zd (zn ?_)))))
     refine ⟨_, (zU (ze rfl) (ze rfl)), ?_⟩
     replace S := S.arr [1] []
     obtain rfl := Option.some.inj H
     obtain rfl := uV Ho3
     exact ⟨rfl, S⟩
    replace H := if_f hc11 H
    refine zt ?_
    obtain rfl := Option.some.inj H
    exact ⟨rfl, ((((((((((((((((((Dif.refl _ _).upd rfl _).upd rfl _).upd rfl _).upd rfl _).upd rfl _).upd rfl _).upd rfl _).upd rfl _).upd rfl _).upd rfl _).upd rfl _).upd rfl _).upd rfl _).upd rfl _).upd rfl _).upd rfl _).upd rfl _), a0, rfl, S⟩
   ·replace H := if_f hc10 H
    refine zb (zb (za (wd (zN rfl rfl) (wd (zl rfl) (zd ?_)))))
    obtain ⟨o12, e12, Ho12⟩ := zp H
    replace H := e12; clear e12
    refine yT [39, 41, 42] (fun fr W => fr 39 = .bool o12 ∧ St A N w W [oB b2 T_Nd (Nd.C a1), oR a_0 a0] []) ?_ ?_
    ·refine zC rfl (fun hc13 => ?_) (fun hc13 => ?_)
     ·replace H := if_t hc13 H
      refine zt ?_
      obtain rfl := Option.some.inj H
      exact ⟨rfl, (Dif.refl _ _), rfl, S⟩
     ·replace H := if_f hc13 H
      refine zb (za (wd (zN rfl rfl) (wd (zl rfl) (zd ?_))))
      refine zC rfl (fun hc14 => ?_) (fun hc14 => ?_)
      ·replace H := if_t hc14 H
       refine zt ?_
       obtain rfl := Option.some.inj H
       exact ⟨rfl, (((Dif.refl _ _).upd rfl _).upd rfl _), rfl, S⟩
      ·replace H := if_f hc14 H
       refine za (wd (zN rfl rfl) (wd (zl rfl) (zd ?_)))
       obtain rfl := Option.some.inj H
       exact ⟨rfl, (((((Dif.refl _ _).upd rfl _).upd rfl _).upd rfl _).upd rfl _), rfl, S⟩
    rintro g15 u16 ⟨p12_39, S⟩
    have H := Ho12
    refine zC p12_39 (fun hc17 => ?_) (fun hc17 => ?_)
    rotate_left
    ·replace H := if_f hc17 H
     refine zb (za (wd (zf rfl) (wd (zf rfl) (zd (zn ?_)))))
     refine ⟨_, (zU (ze rfl) (ze rfl)), ?_⟩
     replace S := S.arr [1] []
     obtain rfl := Option.some.inj H
     obtain rfl := uV Ho3
     exact ⟨rfl, S⟩
    replace H := if_t hc17 H
    refine zb (za (wd (zi jo rfl (o' := 1) rfl) (wd (zm xY rfl ((S.blk 0).cell (Nd.get_name _))) (wd (zbb rfl rfl) (wd (zB rfl) (wg (fun hg => zr rfl) (wg (fun hg => zi yB rfl (o' := 2) rfl) (wg (fun hg => zm zQ (zq hg) ((S.blk 0).cell (Nd.get_l _))) ?_))))))))
    obtain ⟨r18, er18, H⟩ := zp H
    refine yI (j := 3) (pol := false) rfl rfl rfl (by decide) (fun hg => zM ca_ref03_T_Has (zO (zq hg) (zO (zq hg) rfl))) (by decide) (fun hg => (have ⟨M, SS⟩ := S.lend ((.o 1 rfl .nil)); quiet (ref03_T_Has_st SS (if_t (by simpa using hg) er18)) (fun v w' h => ⟨h.1, _, _, h.2⟩))) fun w19 hw19 => ?_
    replace S := S.ext hw19
    refine wg (fun hg => xk (zq hg)) (wd (xU rfl (fun hp => (zq (xF hp)))) (wd (zB rfl) (wg (fun hg => zr rfl) (wg (fun hg => zi yk rfl (o' := 3) rfl) (wg (fun hg => zm zQ (zq hg) ((S.blk 0).cell (Nd.get_r _))) ?_)))))
    obtain ⟨r20, er20, H⟩ := zp H
    refine yI (j := 10) (pol := false) rfl rfl rfl (by decide) (fun hg => zM ca_ref03_T_Has (zO (zq hg) (zO (zq hg) rfl))) (by decide) (fun hg => (have ⟨M, SS⟩ := S.lend ((.o 1 rfl .nil)); quiet (ref03_T_Has_st SS (if_t (by simpa using hg) er20)) (fun v w' h => ⟨h.1, _, _, h.2⟩))) fun w21 hw21 => ?_
    replace S := S.ext hw21
    refine wg (fun hg => xk (zq hg)) (wd (xU rfl (fun hp => (zq (xF hp)))) (zd ?_))
    refine zC rfl (fun hc22 => ?_) (fun hc22 => ?_)
    ·replace H := if_t hc22 H
     refine zb (za (wd (zf rfl) (wd (zf rfl) (zd (zn ?_)))))
     refine ⟨_, (zU (ze rfl) (ze rfl)), ?_⟩
     replace S := S.arr [1] []
     obtain rfl := Option.some.inj H
     obtain rfl := uV Ho3
     exact ⟨rfl, S⟩
    replace H := if_f hc22 H
    refine zt ?_
    obtain rfl := Option.some.inj H
    exact ⟨rfl, (((((((((((((((((((((((((Dif.refl _ _).upd rfl _).upd rfl _).upd rfl _).upd rfl _).upd rfl _).upd rfl _).mask rfl _).upd rfl _).upd rfl _).upd rfl _).upd rfl _).upd rfl _).upd rfl _).upd rfl _).upd rfl _).upd rfl _).upd rfl _).upd rfl _).upd rfl _).upd rfl _).upd rfl _).upd rfl _).upd rfl _).upd rfl _), a0, rfl, S⟩
 rintro g23 u24 ⟨s3, rfl, S⟩
 have H := Ho3
 dsimp only [aft] at H
 refine zb (za (wd (zr rfl) (wd (zj ya rfl ((S.blk 0).all _ (Nd.len _)) (Nd.len _)) ?_)))
 obtain ⟨r25, er25, H⟩ := zp H
 obtain ⟨B27, MB27, SB27, back⟩ := S.calln 0 ((.o 1 rfl .nil))
 refine zu (zo ca_ref03_T_Find) (by decide) (ref03_T_Find_st SB27 er25) ?_
 rintro _ w26 ⟨rfl, S2⟩
 replace S := back _ _ _ _ S2 rfl
 clear back S2 SB27
 refine wd (zK rfl) (wd (zk rfl rfl) (wd (zk rfl rfl) (wd (zf rfl) (wd (zl rfl) (zd (zb (zb (za (wd (zB rfl) (zd ?_))))))))))
 refine zC rfl (fun hc28 => ?_) (fun hc28 => ?_)
 ·replace H := if_t hc28 H
  refine zb (za (wd (zh rfl) (wd (zf rfl) (wd (zf rfl) (zd (zn ?_))))))
  refine ⟨_, (zU (ze rfl) (ze rfl)), ?_⟩
  replace S := S.arr [1] []
  obtain rfl := Option.some.inj H
  exact ⟨rfl, S⟩
 replace H := if_f hc28 H
 refine zt (zb (zb (za (wd (zr rfl) ?_))))
 obtain ⟨ht29, H⟩ := xK H
 obtain ⟨p30, s31, hp32, S⟩ := S.openR 1 ht29
 replace S := S
 refine wd (zH (congrArg Value.pointer hp32)) (wd (zi jZ rfl (o' := 0) rfl) (wd (zm xH rfl ((S.blk 0).cell (RTab.get_n _))) (wd (xG z9 rfl (S.rdO 1)) (wd (vz rfl rfl) ?_))))
 replace S := ((S.front 1).front 1).shutR hp32
 refine zd ?_
 refine zC rfl (fun hc33 => ?_) (fun hc33 => ?_)
 ·replace H := if_t hc33 H
  refine zb (za (wd (zf rfl) (wd (zf rfl) (zd (zn ?_)))))
  refine ⟨_, (zU (ze rfl) (ze rfl)), ?_⟩
  replace S : St A N w w26 [oR a_0 (some (s3.getD []))] [] := S.arr [0] []
  obtain rfl := Option.some.inj H
  exact ⟨rfl, S⟩
 replace H := if_f hc33 H
 refine zt (zb ?_)
 obtain ⟨p34, s35, hp36, S⟩ := S.openR 0 rfl
 replace S : St A N w w26 [oB p34 T_RTab (RTab.C ⟨s35⟩), oS T_Nd 4 Nd.C s35 (s3.getD []), oB b2 T_Nd (Nd.C a1)] [] := S
 obtain ⟨ha37, H⟩ := xK H
 have ha37 := of_decide_eq_true ha37
 have hSO := S.sl 1
 have hSlt := hSO.lt
 have SH : ∀ v, Chg s35.fp w26 v → St A (N.or s35.fp) w v [oB p34 T_RTab (RTab.C ⟨s35⟩), oB b2 T_Nd (Nd.C a1)] [] := fun v hc => S.away 1 (hc := hc)
 refine wc_draw 8 ⟨fun L v => Chg s35.fp w26 v ∧ (L 7 = false → Ext w26 v), fun L a b => Chg s35.fp a b ∧ (L 7 = true → Ext a b), fun i v u => match i with
  | 0 => v = Value.pointer a_0
  | 1 => v = Value.pointer a_0
  | 2 => v = Value.pointer (some ⟨p34, 0, none⟩)
  | 3 => v = Value.pointer (some ⟨p34, 0, none⟩)
  | 4 => v = s35.v
  | 5 => v = Value.agg (Nd.C a1).toArray
  | 6 => ∃ b sl, v = SlV.v sl ∧ sl = ⟨some ⟨b, 0, none⟩, 1, 1⟩ ∧ Blk u b T_Nd (Nd.C a1) ∧ ¬ s35.fp b
  | 7 => ∃ s', v = SlV.v s' ∧ Own u 0 T_Nd 4 s' (((s3.getD []) ++ [a1]).map Nd.C) ∧ ∀ i, s'.fp i → s35.fp i ∨ w26.heap.size ≤ i
  | _ => True⟩ hmix (by kernel_rfl) ?_ ⟨(Ext.drawn _).mono (fun _ _ x => x.elim), fun _ => Ext.drawn _⟩ ⟨?_, ?_, ?_, ?_, ?_, ?_, ?_, ?_, trivial⟩ ?_
 ·intro L i v a b hLi hle hv
  match i, hLi, hv with
  | 0, _, hv => exact hv
  | 1, _, hv => exact hv
  | 2, _, hv => exact hv
  | 3, _, hv => exact hv
  | 4, _, hv => exact hv
  | 5, _, hv => exact hv
  | 6, _, ⟨b, sl, e1, e2, hb, hn⟩ => exact ⟨b, sl, e1, e2, hb.chg hle.1 hn, hn⟩
  | 7, hLi, ⟨s', e1, ho, hg⟩ => exact ⟨s', e1, ho.ext (hle.2 hLi), hg⟩
  | _ + 8, _, _ => exact trivial
 ·rintro L g v hL hT 
  refine wd (zr rfl) (zd (ob ⟨hT.1, fun h => hT.2 h⟩ ⟨Chg.refl _ _, fun _ => Ext.refl _⟩ rfl))
 ·rintro L g v hL hT 
  refine wd (zr rfl) (zd (ob ⟨hT.1, fun h => hT.2 h⟩ ⟨Chg.refl _ _, fun _ => Ext.refl _⟩ rfl))
 ·rintro L g v hL hT hv1
  refine wd (zH ((hv1 : _ = Value.pointer a_0).trans (congrArg Value.pointer hp36))) (zd (ob ⟨hT.1, fun h => hT.2 h⟩ ⟨Chg.refl _ _, fun _ => Ext.refl _⟩ rfl))
 ·rintro L g v hL hT hv2
  refine wd (zi jZ hv2 (o' := 0) rfl) (zd (ob ⟨hT.1, fun h => hT.2 h⟩ ⟨Chg.refl _ _, fun _ => Ext.refl _⟩ rfl))
 ·rintro L g v hL hT hv3
  refine wd (zm xH hv3 (((SH v hT.1).blk 0).cell (RTab.get_n _))) (zd (ob ⟨hT.1, fun h => hT.2 h⟩ ⟨Chg.refl _ _, fun _ => Ext.refl _⟩ rfl))
 ·rintro L g v hL hT 
  refine wd (zj ya rfl (((SH v hT.1).blk 1).all _ (Nd.len _)) (Nd.len _)) (zd (ob ⟨hT.1, fun h => hT.2 h⟩ ⟨Chg.refl _ _, fun _ => Ext.refl _⟩ rfl))
 ·rintro L g v hL hT hv5
  refine wl_lit1 z9 el_Nd.zero hv5 rfl (Nd.len _) (by decide) (by decide) fun b v' sl hn hq => zd (ob ⟨hT.1.thenExt hn.ext, fun h => (hT.2 h).trans hn.ext⟩ ⟨hn.ext.mono (fun _ _ x => x.elim), fun _ => hn.ext⟩ ⟨b, sl, rfl, hq, hn.blk, fun e => by have := hSlt _ e; have := hn.at_; have := hT.1.size; omega⟩)
 ·rintro L g v hL hT hv4 ⟨b, sl, hv6, hq, hb, hnb⟩
  refine wl_push (C := Nd.C) z9 el_Nd hv4 hv6 (hSO.ext (hT.2 hL)) hb hq (Nd.len _) (Nd.one _) ha37 (by omega) (by decide) fun s' v' ho hc hg => zd (ob ⟨hT.1.trans hc, fun h => (by cases h)⟩ ⟨hc, fun h => (by rw [hL] at h; cases h)⟩ ⟨s', rfl, ho, fun i e => (hg i e).imp id (fun h => Nat.le_trans hT.1.size h)⟩)
 rintro L g w38 hLm hT hv40_0 hv40_1 hv40_2 hv40_3 hv40_4 hv40_5 ⟨b, sl, hv40_6, hq, hb, hnb⟩ ⟨s39, hv40_7, O, gO⟩
 replace S := S.push 1 O (by rw [List.length_append, List.length_singleton]; omega) hT.1 gO
 clear O gO SH hSO hSlt
 refine wd (zH ((hv40_0 : _ = Value.pointer a_0).trans (congrArg Value.pointer hp36))) (wd (zi jZ rfl (o' := 0) rfl) ?_)
 refine xi xH rfl hv40_7 (S.blk 1) (by rw [RTab.len]; decide) (SlV.one _ _ rfl) (RTab.set_n _ _) fun w41 B hw41 zw41 => ?_
 replace S := S.store 1 B hw41
 clear B
 replace S := ((S.front 1).front 1).shutR hp36
 refine zd (zb (za (wd (zr rfl) ?_)))
 obtain ⟨p42, s43, hp44, S⟩ := S.openR 0 rfl
 replace S := S
 refine wd (zH (congrArg Value.pointer hp44)) (wd (zi jZ rfl (o' := 0) rfl) (wd (zm xH rfl ((S.blk 0).cell (RTab.get_n _))) (wd (xG z9 rfl (S.rdO 1)) (wd (zbg rfl rfl) (wd (zf rfl) (wd (zf rfl) ?_))))))
 replace S := ((S.front 1).front 1).shutR hp44
 refine zd (zn ?_)
 refine ⟨_, (zU (ze rfl) (ze rfl)), ?_⟩
 replace S := S.arr [0] []
 obtain rfl := Option.some.inj H
 exact ⟨rfl, S⟩
theorem ref03_From_st {A : Nat → Prop} {N : Oth} {w : World} {a0 : List Nd} {s_0 : SlV} (S : St A N w w [] [fS 4 Nd.C s_0 a0]) {r : Tb × Int} (H : ref03_From.f a0 = some r) :
  Calls PP F_ref03_From #[s_0.v] w fun e w' => ∃ v, e = .returned v ∧ (∃ ao0 : Option Addr, v = .tuple #[.pointer ao0, .int .i64 r.2] ∧ St A N w w' [oR ao0 r.1] []) := by
 unfold ref03_From.f at H
 refine zw (n := 32) fn_ref03_From rfl rfl (by simp) (zb (za ?_))
 replace S := S.add (Ext.refl _) (oR.nil _) (fun _ x => x.elim)
 refine wd (xj rfl) (wd (zf rfl) (zd (zb (za (wd (xB bu_RTab Bld.nil) ?_)))))
 refine zJ rfl (by decide) fun b2 w1 hw1 => ?_
 replace S : St A N w w1 [oR (some ⟨b2, 0, none⟩) (some []), oR none none] [fS 4 Nd.C s_0 a0] := ((S.nil T_Nd 4 Nd.C).new hw1).shutR rfl
 refine wd (xj rfl) (zd (zb (zb (za (wd (zf rfl) (zd ?_))))))
 obtain ⟨o3, e3, Ho3⟩ := zp H
 clear H
 refine yT [2, 3, 5, 6, 7, 10, 11, 12, 13, 14, 15, 16, 17, 18, 19, 20, 21, 22, 23, 24, 25, 26, 27, 28, 29, 30] (fun fr W => ∃ s3 : Tb, o3 = .inl s3 ∧ St A N w W [oR (some ⟨b2, 0, none⟩) s3, oR none none] [fS 4 Nd.C s_0 a0]) ?_ ?_
 ·refine zF ?_
  refine yp (α := Nat × Int × Tb) [2, 3, 5, 6, 7, 10, 11, 12, 13, 14, 15, 16, 17, 18, 19, 20, 21, 22, 23, 24, 25, 26, 27, 28, 29, 30] (fun x fr W => (x.1 : Int) = (a0.length : Int) - x.2.1 ∧ 0 ≤ x.2.1 ∧ forN (fun i s => ref03_From.b0 a0 i s) x.1 x.2.1 x.2.2 = some o3 ∧ fr 5 = .int .i64 x.2.1 ∧ St A N w W [oR (some ⟨b2, 0, none⟩) (x.2.2), oR none none] [fS 4 Nd.C s_0 a0]) (fun x => x.1) (((a0.length : Int) - 0).toNat, 0, (some [])) ⟨(by dsimp only; have hle := Int.natCast_nonneg (a0.length); omega), (Int.le_refl _), (by dsimp only; exact e3), rfl, S⟩ ?_
  rintro ⟨m3, i3, x3_0⟩ g3 u3 ⟨hm3, hl3, e3, q3_i, S⟩
  try dsimp only at hm3
  try dsimp only at hl3
  try dsimp only at e3
  try dsimp only at S
  try dsimp only at q3_i
  refine zb (zb (za (wd (zh q3_i) (wd (zR rfl) (wd (xG z9 rfl (S.rd 0)) (wd (xm rfl rfl) (zd ?_)))))))
  refine zC rfl (fun hc4 => ?_) (fun hc4 => ?_)
  rotate_left
  ·refine yf ?_
   have hge : (a0.length : Int) ≤ i3 := Int.not_lt.1 (of_decide_eq_false hc4)
   obtain rfl : m3 = 0 := by omega
   replace e3 := zaG e3
   exact ⟨rfl, (((((Dif.self _ _ _).upd rfl _).upd rfl _).upd rfl _).upd rfl _), x3_0, e3, S⟩
  refine zt ?_
  have hlt3 : i3 < (a0.length : Int) := of_decide_eq_true hc4
  obtain ⟨m3, rfl⟩ : ∃ m, m3 = m + 1 := ⟨m3 - 1, by omega⟩
  obtain ⟨q3, H, e3⟩ := zay e3
  unfold ref03_From.b0 at H
  try dsimp only at H
  have hb3 := (S.len 0)
  refine zb ?_
  refine zF (zb (za (wd (zr rfl) (wd (zR rfl) (wd (zh q3_i) (wd (zZ z9 rfl rfl (S.rd 0) (And.intro (show 0 ≤ i3 by omega) (show i3 < (a0.length : Int) from hlt3)).1 (And.intro (show 0 ≤ i3 by omega) (show i3 < (a0.length : Int) from hlt3)).2) (wd (zj ya rfl ((S.rd 0).at (yg Nd.z (And.intro (show 0 ≤ i3 by omega) (show i3 < (a0.length : Int) from hlt3)))) (Nd.len _)) ?_)))))))
  obtain ⟨r6, er6, H⟩ := zp H
  obtain ⟨B8, MB8, SB8, back⟩ := S.calln 1 ((.nil))
  refine zu (zo ca_ref03_T_Put) (by decide) (ref03_T_Put_st SB8 er6) ?_
  rintro _ w7 ⟨rfl, S2⟩
  replace S := back _ _ _ _ S2 rfl
  clear back S2 SB8
  refine wd (zK rfl) (wd (zk rfl rfl) (wd (zk rfl rfl) (wd (zf rfl) (wd (zf rfl) (zd (zb (zb (za (wd (zh rfl) (wd (xc rfl rfl) (zd ?_)))))))))))
  refine zC rfl (fun hc9 => ?_) (fun hc9 => ?_)
  ·replace H := if_t hc9 H
   refine zb (za (wd (zh rfl) ?_))
   replace S := S.add (Ext.refl _) (oR.nil _) (fun _ x => x.elim)
   refine wd (xj rfl) (wd (zf rfl) (zd (zn ?_)))
   refine ⟨_, (zU (ze rfl) (ze rfl)), ?_⟩
   replace S := S.arr [0] []
   obtain rfl := Option.some.inj H
   obtain rfl := e3
   obtain rfl := uV Ho3
   exact ⟨none, rfl, S⟩
  replace H := if_f hc9 H
  refine zt (zb (za (wd (zh rfl) (wd (zh q3_i) (wd (xc rfl rfl) (zd ?_))))))
  refine zC rfl (fun hc10 => ?_) (fun hc10 => ?_)
  ·replace H := if_t hc10 H
   refine zb (za ?_)
   replace S := S.add (Ext.refl _) (oR.nil _) (fun _ x => x.elim)
   refine wd (xj rfl) (wd (zf rfl) (zd (zn ?_)))
   refine ⟨_, (zU (ze rfl) (ze rfl)), ?_⟩
   replace S := S.arr [0] []
   obtain rfl := Option.some.inj H
   obtain rfl := e3
   obtain rfl := uV Ho3
   exact ⟨none, rfl, S⟩
  replace H := if_f hc10 H
  refine zt (za (wd (zh q3_i) (wd (xg rfl rfl (c := i3 + 1) rfl (by omega) (by omega)) (wd (zf rfl) (zd ?_)))))
  obtain rfl := Option.some.inj H
  exact ⟨rfl, ((((((((((((((((((((((((Dif.self _ _ _).upd rfl _).upd rfl _).upd rfl _).upd rfl _).upd rfl _).upd rfl _).upd rfl _).upd rfl _).upd rfl _).upd rfl _).upd rfl _).upd rfl _).upd rfl _).upd rfl _).upd rfl _).upd rfl _).upd rfl _).upd rfl _).upd rfl _).upd rfl _).upd rfl _).upd rfl _).upd rfl _), (m3, i3 + 1, r6.1), ⟨(by dsimp only; omega), (by dsimp only; omega), e3, rfl, S⟩, by dsimp only; omega⟩
 rintro g11 u12 ⟨s3, rfl, S⟩
 have H := Ho3
 dsimp only [aft] at H
 refine zb (za (wd (zr rfl) (wd (xj rfl) (wd (zf rfl) (zd (zn ?_))))))
 refine ⟨_, (zU (ze rfl) (ze rfl)), ?_⟩
 replace S := S.arr [0] []
 obtain rfl := Option.some.inj H
 exact ⟨(some ⟨b2, 0, none⟩), rfl, S⟩
theorem law03_Both_st {A : Nat → Prop} {N : Oth} {w : World} {a0 : List Nd} {s_0 : SlV} (S : St A N w w [] [fS 4 Nd.C s_0 a0]) {r : Tb × Tb × Bool} (H : law03_Both.f a0 = some r) :
  Calls PP F_law03_Both #[s_0.v] w fun e w' => ∃ v, e = .returned v ∧ (∃ ao0 : Option Addr, ∃ ao1 : Option Addr, v = .tuple #[.pointer ao0, .pointer ao1, .bool r.2.2] ∧ St A N w w' [oT ao0 r.1, oR ao1 r.2.1] []) := by
 unfold law03_Both.f at H
 refine zw (n := 27) fn_law03_Both rfl rfl (by simp) (zb (za ?_))
 replace S := S.add (Ext.refl _) (oT.nil _) (fun _ x => x.elim)
 refine wd (xj rfl) ?_
 replace S := S.add (Ext.refl _) (oR.nil _) (fun _ x => x.elim)
 refine wd (xj rfl) (wd (zl rfl) (zd (zb (za ?_))))
 refine xx (C := Nd.C) (l := ([] : List Nd)) (vs := []) z9 el_Nd.zero rfl rfl (fun a _ => Nd.len a) (by decide) rfl (by decide) fun b2 w1 s3 hBw1 hw1 => ?_
 replace S := S.lit hBw1 hw1 (by simp)
 refine wd (zR rfl) ?_
 obtain ⟨ha6, H⟩ := xK H
 have ha6 := of_decide_eq_true ha6
 refine wl_appendm (C := Nd.C) z9 el_Nd rfl rfl (S.sl 0) (S.rd 0) Nd.one ha6 (by omega) (by decide) fun s5 w4 O hw4 gw4 => ?_
 replace S := S.push 0 O (by first | (simp; done) | (simp; omega)) hw4 gw4
 clear O
 refine wd (xa rfl) (zd (zb (za (wd (zR rfl) ?_))))
 obtain ⟨r7, er7, H⟩ := zp H
 obtain ⟨B9, MB9, SB9, back⟩ := S.calln 0 ((.z 0 rfl .nil))
 refine zu (zo ca_ref03_From) (by decide) (ref03_From_st SB9 er7) ?_
 rintro _ w8 ⟨a10, rfl, S2⟩
 replace S := back _ _ _ _ S2 rfl
 clear back S2 SB9
 refine wd (zK rfl) (wd (zk rfl rfl) (wd (zk rfl rfl) (wd (xj rfl) (wd (zf rfl) (zd (zb (zb (za (wd (zh rfl) (wd (xc rfl rfl) (zd ?_)))))))))))
 refine zC rfl (fun hc11 => ?_) (fun hc11 => ?_)
 ·replace H := if_t hc11 H
  refine zb (za ?_)
  replace S := S.add (Ext.refl _) (oT.nil _) (fun _ x => x.elim)
  refine wd (xj rfl) ?_
  replace S := S.add (Ext.refl _) (oR.nil _) (fun _ x => x.elim)
  refine wd (xj rfl) (wd (zl rfl) (zd (zn ?_)))
  refine ⟨_, (rets3 (ze rfl) (ze rfl) (ze rfl)), ?_⟩
  replace S := S.arr [1, 0] []
  obtain rfl := Option.some.inj H
  exact ⟨none, none, rfl, S⟩
 replace H := if_f hc11 H
 refine zt (zb (za (wd (zR rfl) ?_)))
 obtain ⟨r12, er12, H⟩ := zp H
 obtain ⟨B14, MB14, SB14, back⟩ := S.calln 0 ((.s 1 rfl .nil))
 refine zu (zo ca_formula_From) (by decide) (formula_From_st SB14 er12) ?_
 rintro _ w13 ⟨a15, rfl, S2⟩
 replace S := back _ _ _ _ S2 rfl
 clear back S2 SB14
 refine wd (zK rfl) (wd (zk rfl rfl) (wd (zk rfl rfl) (wd (xj rfl) (wd (zf rfl) (zd (zb (za (wd (zr rfl) (wd (zr rfl) (wd (xj rfl) (wd (xj rfl) (wd (zl rfl) (zd (zn ?_))))))))))))))
 refine ⟨_, (rets3 (ze rfl) (ze rfl) (ze rfl)), ?_⟩
 replace S := S.arr [0, 1] []
 obtain rfl := Option.some.inj H
 exact ⟨a15, a10, rfl, S⟩
end Go.Proofs.YtjebgcoknpcadaaGreatDoor
end
section
namespace Go.Proofs.YtjebgcoknpcadaaGreatDoor
open Gw Go.RowKit
set_option maxHeartbeats 4000000
set_option maxRecDepth 20000
theorem zab {A : Nat → Prop} {N : Oth} {w : World} {a0 : ByteArray} (S : St A N w w [] []) {r : PTerm} (H : law13_v.f a0 = some r) :
  Calls PP F_law13_v #[.string a0] w fun e w' => ∃ v, e = .returned v ∧ (∃ so0 : SlV, v = .agg (Term.C (⟨r.kind, r.name, r.other, r.form, so0⟩ : Term)).toArray ∧ St A N w w' [] [xb so0 r.sub]) := by
 unfold law13_v.f at H
 refine zw (n := 5) fn_law13_v rfl rfl (by simp) (zb (za ?_))
 refine zP ze_Term (by decide) fun b2 w1 hw1 => ?_
 replace S := S.new hw1
 refine zd (zb (za (wd (x9 rfl) (wd (Does.to (v' := .agg (Term.C (⟨1, a0, ByteArray.empty, 0, SlV.nil⟩ : Term)).toArray) (xh (vs := [(0, .int .i64 1), (1, .string a0)]) bu_Term (x6 rfl (x6 rfl rfl)) (Bld.one rfl rfl (by rw [Term.len]; decide) (Term.set_kind _ _) (Bld.one rfl rfl (by rw [Term.len]; decide) (Term.set_name _ _) Bld.nil))) rfl) ?_))))
 refine zx xn rfl rfl (S.blk 0) (Term.len _) (by rw [Term.len]; decide) (Term.one _) (zG (Term.len _)) fun w3 B hw3 zw3 => ?_
 replace S := S.store 0 B hw3
 clear B
 refine zd (zn ?_)
 replace S := S.nilTm
 refine ⟨_, (zS (zV xn rfl ((S.blk 0).all _ (Term.len _)) (Term.len _))), ?_⟩
 replace S := S.arr [] [0]
 obtain rfl := Option.some.inj H
 exact ⟨SlV.nil, rfl, S⟩
theorem kV {A : Nat → Prop} {N : Oth} {w : World}  (S : St A N w w [] [oEt]) {k : Nat} {r : Bool} (H : law13_heads.f k  = some r) :
  Calls PP F_law13_heads #[] w fun e w' => ∃ v, e = .returned v ∧ (v = .bool r ∧ St A N w w' [] []) := by
 unfold law13_heads.f at H
 refine zw (n := 108) fn_law13_heads rfl rfl (by simp) (zb (za (wd (zl rfl) (zd (zb (za (wd (xB bu_Nd (Bld.one rfl rfl (by rw [Nd.len]; decide) (Nd.set_kind _ _) (Bld.one rfl rfl (by rw [Nd.len]; decide) (Nd.set_name _ _) Bld.nil))) ?_)))))))
 refine wd (xB bu_Nd (Bld.one rfl rfl (by rw [Nd.len]; decide) (Nd.set_kind _ _) (Bld.one rfl rfl (by rw [Nd.len]; decide) (Nd.set_name _ _) Bld.nil))) (wd (xB bu_Nd (Bld.one rfl rfl (by rw [Nd.len]; decide) (Nd.set_kind _ _) (Bld.one rfl rfl (by rw [Nd.len]; decide) (Nd.set_l _ _) (Bld.one rfl rfl (by rw [Nd.len]; decide) (Nd.set_r _ _) Bld.nil)))) (wd (xB bu_Nd (Bld.one rfl rfl (by rw [Nd.len]; decide) (Nd.set_kind _ _) (Bld.one rfl rfl (by rw [Nd.len]; decide) (Nd.set_l _ _) (Bld.one rfl rfl (by rw [Nd.len]; decide) (Nd.set_r _ _) Bld.nil)))) (wd (xB bu_Nd (Bld.one rfl rfl (by rw [Nd.len]; decide) (Nd.set_kind _ _) Bld.nil)) ?_)))
 refine xx (C := Nd.C) (l := [{ Nd.z with kind := 1, name := (⟨#[112]⟩ : ByteArray) }, { Nd.z with kind := 1, name := (⟨#[113]⟩ : ByteArray) }, { Nd.z with kind := 3, l := 0, r := 1 }, { Nd.z with kind := 5, l := 2, r := 0 }, { Nd.z with kind := 2 }]) (vs := [.agg (Nd.C ({ Nd.z with kind := 1, name := (⟨#[112]⟩ : ByteArray) })).toArray, .agg (Nd.C ({ Nd.z with kind := 1, name := (⟨#[113]⟩ : ByteArray) })).toArray, .agg (Nd.C ({ Nd.z with kind := 3, l := 0, r := 1 })).toArray, .agg (Nd.C ({ Nd.z with kind := 5, l := 2, r := 0 })).toArray, .agg (Nd.C ({ Nd.z with kind := 2 })).toArray]) z9 el_Nd.zero rfl rfl (fun a _ => Nd.len a) (by decide) rfl (by decide) fun b2 w1 s3 hBw1 hw1 => ?_
 replace S := S.lit hBw1 hw1 (by simp)
 obtain ⟨r4, er4, H⟩ := zp H
 obtain ⟨B6, MB6, SB6, back⟩ := S.calln 0 ((.s 0 rfl .nil))
 refine zu (zo ca_formula_From) (by decide) (formula_From_st SB6 er4) ?_
 rintro _ w5 ⟨a7, rfl, S2⟩
 replace S := back _ _ _ _ S2 rfl
 clear back S2 SB6
 refine wd (zK rfl) (wd (zk rfl rfl) (wd (zk rfl rfl) (wd (xj rfl) (wd (zf rfl) (zd (zb (za ?_)))))))
 obtain ⟨r8, er8, H⟩ := zp H
 obtain ⟨B10, MB10, SB10, back⟩ := S.sub [] [] [oT a7 r4.1, oS T_Nd 4 Nd.C s3 ([{ Nd.z with kind := 1, name := (⟨#[112]⟩ : ByteArray) }, { Nd.z with kind := 1, name := (⟨#[113]⟩ : ByteArray) }, { Nd.z with kind := 3, l := 0, r := 1 }, { Nd.z with kind := 5, l := 2, r := 0 }, { Nd.z with kind := 2 }])]
 refine zu (zo kQ) (by decide) (zab SB10 er8) ?_
 rintro _ w9 ⟨s11, rfl, S2⟩
 replace S := back _ _ _ _ _ S2 rfl rfl
 clear back S2 SB10
 refine xx (C := Term.C) (l := [(⟨r8.kind, r8.name, r8.other, r8.form, s11⟩ : Term)]) (vs := [.agg (Term.C (⟨r8.kind, r8.name, r8.other, r8.form, s11⟩ : Term)).toArray]) xL el_Term.zero rfl rfl (fun a _ => Term.len a) (by decide) rfl (by decide) fun b13 w12 s14 hBw12 hw12 => ?_
 replace S := ((S.lit hBw12 hw12 (by simp)).bigTm).consTm (x := r8) 0
 replace S := (S.frzTm 0 0).zs [0, 2, 3]
 refine wd (Does.to (v' := .agg (Term.C (⟨5, ByteArray.empty, ByteArray.empty, 0, s14⟩ : Term)).toArray) (xh (vs := [(0, .int .i64 5), (4, s14.v)]) bu_Term (x6 rfl (x6 rfl rfl)) (Bld.one rfl rfl (by rw [Term.len]; decide) (Term.set_kind _ _) (Bld.one rfl (SlV.one _ _ rfl) (by rw [Term.len]; decide) (Term.set_sub _ _) Bld.nil))) rfl) ?_
 refine zP ze_Term (by decide) fun b16 w15 hw15 => ?_
 replace S := S.new hw15
 refine zx xn rfl rfl (S.blk 0) (Term.len _) (by rw [Term.len]; decide) (Term.one _) (zG (Term.len _)) fun w17 B hw17 zw17 => ?_
 replace S := S.store 0 B hw17
 clear B
 refine zd (zb (za ?_))
 obtain ⟨r18, er18, H⟩ := zp H
 obtain ⟨B20, MB20, SB20, back⟩ := S.sub [] [] [oB b16 xP (Term.C (⟨5, ByteArray.empty, ByteArray.empty, 0, s14⟩ : Term)), oT a7 r4.1, oS T_Nd 4 Nd.C s3 ([{ Nd.z with kind := 1, name := (⟨#[112]⟩ : ByteArray) }, { Nd.z with kind := 1, name := (⟨#[113]⟩ : ByteArray) }, { Nd.z with kind := 3, l := 0, r := 1 }, { Nd.z with kind := 5, l := 2, r := 0 }, { Nd.z with kind := 2 }])]
 refine zu (zo kQ) (by decide) (zab SB20 er18) ?_
 rintro _ w19 ⟨s21, rfl, S2⟩
 replace S := back _ _ _ _ _ S2 rfl rfl
 clear back S2 SB20
 refine xx (C := Term.C) (l := [(⟨r18.kind, r18.name, r18.other, r18.form, s21⟩ : Term)]) (vs := [.agg (Term.C (⟨r18.kind, r18.name, r18.other, r18.form, s21⟩ : Term)).toArray]) xL el_Term.zero rfl rfl (fun a _ => Term.len a) (by decide) rfl (by decide) fun b23 w22 s24 hBw22 hw22 => ?_
 replace S := ((S.lit hBw22 hw22 (by simp)).bigTm).consTm (x := r18) 0
 replace S := (S.frzTm 0 0).zs [0, 2, 3, 4, 5]
 refine wd (Does.to (v' := .agg (Term.C (⟨6, ByteArray.empty, ByteArray.empty, 0, s24⟩ : Term)).toArray) (xh (vs := [(0, .int .i64 6), (4, s24.v)]) bu_Term (x6 rfl (x6 rfl rfl)) (Bld.one rfl rfl (by rw [Term.len]; decide) (Term.set_kind _ _) (Bld.one rfl (SlV.one _ _ rfl) (by rw [Term.len]; decide) (Term.set_sub _ _) Bld.nil))) rfl) ?_
 refine zP ze_Term (by decide) fun b26 w25 hw25 => ?_
 replace S := S.new hw25
 refine zx xn rfl rfl (S.blk 0) (Term.len _) (by rw [Term.len]; decide) (Term.one _) (zG (Term.len _)) fun w27 B hw27 zw27 => ?_
 replace S := S.store 0 B hw27
 clear B
 refine zd (zb (za (wd (zr rfl) (wd (zj xn rfl ((S.blk 1).all _ (Term.len _)) (Term.len _)) ?_))))
 refine xx (C := Term.C) (l := [(⟨5, ByteArray.empty, ByteArray.empty, 0, s14⟩ : Term)]) (vs := [.agg (Term.C (⟨5, ByteArray.empty, ByteArray.empty, 0, s14⟩ : Term)).toArray]) xL el_Term.zero rfl rfl (fun a _ => Term.len a) (by decide) rfl (by decide) fun b29 w28 s30 hBw28 hw28 => ?_
 replace S := ((S.lit hBw28 hw28 (by simp)).bigTm).consTm (x := (⟨5, ByteArray.empty, ByteArray.empty, 0, [r8]⟩ : PTerm)) 2
 replace S := (S.frzTm 0 0).zs [0, 2, 3, 4, 5, 6]
 refine wd (Does.to (v' := .agg (Term.C (⟨2, (⟨#[120]⟩ : ByteArray), ByteArray.empty, 0, s30⟩ : Term)).toArray) (xh (vs := [(0, .int .i64 2), (1, .string (⟨#[120]⟩ : ByteArray)), (4, s30.v)]) bu_Term (x6 rfl (x6 rfl (x6 rfl rfl))) (Bld.one rfl rfl (by rw [Term.len]; decide) (Term.set_kind _ _) (Bld.one rfl rfl (by rw [Term.len]; decide) (Term.set_name _ _) (Bld.one rfl (SlV.one _ _ rfl) (by rw [Term.len]; decide) (Term.set_sub _ _) Bld.nil)))) rfl) ?_
 replace S := S.nilZ 2 Hyp.C
 obtain ⟨r31, er31, H⟩ := zp H
 obtain ⟨B33, MB33, SB33, back⟩ := S.calln 0 ((.o 2 rfl (.z 0 rfl (.z 1 rfl (.z 6 rfl .nil)))))
 refine zu (zM zae (zO rfl (zO SlV.nil_eq (zO rfl (zO rfl rfl))))) (by decide) (kP (a2 := (⟨2, (⟨#[120]⟩ : ByteArray), ByteArray.empty, 0, [(⟨5, ByteArray.empty, ByteArray.empty, 0, [r8]⟩ : PTerm)]⟩ : PTerm)) SB33 er31) ?_
 rintro _ w32 ⟨rfl, S2⟩
 replace S := back _ _ _ _ S2 rfl
 clear back S2 SB33
 refine wd (zf rfl) (zd (zb (za (wd (zr rfl) (wd (zj xn rfl ((S.blk 0).all _ (Term.len _)) (Term.len _)) ?_)))))
 refine xx (C := Term.C) (l := [(⟨6, ByteArray.empty, ByteArray.empty, 0, s24⟩ : Term)]) (vs := [.agg (Term.C (⟨6, ByteArray.empty, ByteArray.empty, 0, s24⟩ : Term)).toArray]) xL el_Term.zero rfl rfl (fun a _ => Term.len a) (by decide) rfl (by decide) fun b35 w34 s36 hBw34 hw34 => ?_
 replace S := ((S.lit hBw34 hw34 (by simp)).bigTm).consTm (x := (⟨6, ByteArray.empty, ByteArray.empty, 0, [r18]⟩ : PTerm)) 2
 replace S := (S.frzTm 0 0).zs [0, 2, 3, 4, 5, 6, 7, 8]
 refine wd (Does.to (v' := .agg (Term.C (⟨2, (⟨#[120]⟩ : ByteArray), ByteArray.empty, 0, s36⟩ : Term)).toArray) (xh (vs := [(0, .int .i64 2), (1, .string (⟨#[120]⟩ : ByteArray)), (4, s36.v)]) bu_Term (x6 rfl (x6 rfl (x6 rfl rfl))) (Bld.one rfl rfl (by rw [Term.len]; decide) (Term.set_kind _ _) (Bld.one rfl rfl (by rw [Term.len]; decide) (Term.set_name _ _) (Bld.one rfl (SlV.one _ _ rfl) (by rw [Term.len]; decide) (Term.set_sub _ _) Bld.nil)))) rfl) ?_
 replace S := S.nilZ 2 Hyp.C
 obtain ⟨r37, er37, H⟩ := zp H
 obtain ⟨B39, MB39, SB39, back⟩ := S.calln 0 ((.o 2 rfl (.z 0 rfl (.z 1 rfl (.z 8 rfl .nil)))))
 refine zu (zM ca_types_Where (zO rfl (zO SlV.nil_eq (zO rfl (zO rfl rfl))))) (by decide) (types_Where_st (a2 := (⟨2, (⟨#[120]⟩ : ByteArray), ByteArray.empty, 0, [(⟨6, ByteArray.empty, ByteArray.empty, 0, [r18]⟩ : PTerm)]⟩ : PTerm)) SB39 er37) ?_
 rintro _ w38 ⟨s40, rfl, S2⟩
 replace S := back _ _ _ _ S2 rfl
 clear back S2 SB39
 refine wd (zK rfl) (wd (zk rfl rfl) (wd (zk rfl rfl) (wd (xa rfl) (wd (zf rfl) (zd (zb (za ?_)))))))
 refine wd (zr rfl) (wd (xB bu_Hyp (Bld.one rfl rfl (by rw [Hyp.len]; decide) (Hyp.set_name _ _) (Bld.one rfl rfl (by rw [Hyp.len]; decide) (Hyp.set_form _ _) Bld.nil))) ?_)
 refine xx (C := Hyp.C) (l := [(⟨(⟨#[120]⟩ : ByteArray), 2⟩ : Hyp)]) (vs := [.agg (Hyp.C (⟨(⟨#[120]⟩ : ByteArray), 2⟩ : Hyp)).toArray]) ui el_Hyp.zero rfl rfl (fun a _ => Hyp.len a) (by decide) rfl (by decide) fun b42 w41 s43 hBw41 hw41 => ?_
 replace S := S.lit hBw41 hw41 (by simp)
 refine wd (zj xn rfl ((S.blk 2).all _ (Term.len _)) (Term.len _)) ?_
 obtain ⟨r44, er44, H⟩ := zp H
 obtain ⟨B46, MB46, SB46, back⟩ := S.calln 0 ((.o 4 rfl (.s 0 rfl (.z 4 rfl (.z 8 rfl .nil)))))
 refine zu (zo k0) (by decide) (kW (a2 := (⟨6, ByteArray.empty, ByteArray.empty, 0, [r18]⟩ : PTerm)) SB46 er44) ?_
 rintro _ w45 ⟨rfl, S2⟩
 replace S := back _ _ _ _ S2 rfl
 clear back S2 SB46
 refine wd (zK rfl) (wd (zk rfl rfl) (wd (zk rfl rfl) (wd (zf rfl) (wd (zf rfl) (zd (zb (za ?_)))))))
 refine wd (zr rfl) ?_
 obtain ⟨r47, er47, H⟩ := zp H
 obtain ⟨B49, MB49, SB49, back⟩ := S.sub [] [] [oS T_Hyp 2 Hyp.C s43 ([(⟨(⟨#[120]⟩ : ByteArray), 2⟩ : Hyp)]), oS zX 1 IC s40 r37.1, oB b26 xP (Term.C (⟨6, ByteArray.empty, ByteArray.empty, 0, s24⟩ : Term)), oB b16 xP (Term.C (⟨5, ByteArray.empty, ByteArray.empty, 0, s14⟩ : Term)), oT a7 r4.1, oS T_Nd 4 Nd.C s3 ([{ Nd.z with kind := 1, name := (⟨#[112]⟩ : ByteArray) }, { Nd.z with kind := 1, name := (⟨#[113]⟩ : ByteArray) }, { Nd.z with kind := 3, l := 0, r := 1 }, { Nd.z with kind := 5, l := 2, r := 0 }, { Nd.z with kind := 2 }])]
 refine zu (zo kQ) (by decide) (zab SB49 er47) ?_
 rintro _ w48 ⟨s50, rfl, S2⟩
 replace S := back _ _ _ _ _ S2 rfl rfl
 clear back S2 SB49
 replace S := S.nilZ 2 Hyp.C
 obtain ⟨r51, er51, H⟩ := zp H
 obtain ⟨B53, MB53, SB53, back⟩ := S.calln 0 ((.o 4 rfl (.z 0 rfl (.z 1 rfl (.z 10 rfl .nil)))))
 refine zu (zM k0 (zO rfl (zO SlV.nil_eq (zO rfl rfl)))) (by decide) (kW (a2 := r47) SB53 er51) ?_
 rintro _ w52 ⟨rfl, S2⟩
 replace S := back _ _ _ _ S2 rfl
 clear back S2 SB53
 refine wd (zK rfl) (wd (zk rfl rfl) (wd (zk rfl rfl) (wd (zf rfl) (wd (zf rfl) (zd (zb (za ?_)))))))
 refine wd (zr rfl) ?_
 obtain ⟨r54, er54, H⟩ := zp H
 obtain ⟨B56, MB56, SB56, back⟩ := S.sub [] [] [oS T_Hyp 2 Hyp.C s43 ([(⟨(⟨#[120]⟩ : ByteArray), 2⟩ : Hyp)]), oS zX 1 IC s40 r37.1, oB b26 xP (Term.C (⟨6, ByteArray.empty, ByteArray.empty, 0, s24⟩ : Term)), oB b16 xP (Term.C (⟨5, ByteArray.empty, ByteArray.empty, 0, s14⟩ : Term)), oT a7 r4.1, oS T_Nd 4 Nd.C s3 ([{ Nd.z with kind := 1, name := (⟨#[112]⟩ : ByteArray) }, { Nd.z with kind := 1, name := (⟨#[113]⟩ : ByteArray) }, { Nd.z with kind := 3, l := 0, r := 1 }, { Nd.z with kind := 5, l := 2, r := 0 }, { Nd.z with kind := 2 }])]
 refine zu (zo kQ) (by decide) (zab SB56 er54) ?_
 rintro _ w55 ⟨s57, rfl, S2⟩
 replace S := back _ _ _ _ _ S2 rfl rfl
 clear back S2 SB56
 refine xx (C := Term.C) (l := [(⟨r54.kind, r54.name, r54.other, r54.form, s57⟩ : Term)]) (vs := [.agg (Term.C (⟨r54.kind, r54.name, r54.other, r54.form, s57⟩ : Term)).toArray]) xL el_Term.zero rfl rfl (fun a _ => Term.len a) (by decide) rfl (by decide) fun b59 w58 s60 hBw58 hw58 => ?_
 replace S := ((S.lit hBw58 hw58 (by simp)).bigTm).consTm (x := r54) 0
 replace S := (S.frzTm 0 0).zs [0, 2, 3, 4, 5, 6, 7, 8, 9, 10, 11, 12, 13]
 refine wd (Does.to (v' := .agg (Term.C (⟨2, (⟨#[120]⟩ : ByteArray), ByteArray.empty, 0, s60⟩ : Term)).toArray) (xh (vs := [(0, .int .i64 2), (1, .string (⟨#[120]⟩ : ByteArray)), (4, s60.v)]) bu_Term (x6 rfl (x6 rfl (x6 rfl rfl))) (Bld.one rfl rfl (by rw [Term.len]; decide) (Term.set_kind _ _) (Bld.one rfl rfl (by rw [Term.len]; decide) (Term.set_name _ _) (Bld.one rfl (SlV.one _ _ rfl) (by rw [Term.len]; decide) (Term.set_sub _ _) Bld.nil)))) rfl) ?_
 replace S := S.nilZ 2 Hyp.C
 obtain ⟨r61, er61, H⟩ := zp H
 obtain ⟨B63, MB63, SB63, back⟩ := S.calln 0 ((.o 4 rfl (.z 0 rfl (.z 1 rfl (.z 13 rfl .nil)))))
 refine zu (zM k0 (zO rfl (zO SlV.nil_eq (zO rfl rfl)))) (by decide) (kW (a2 := (⟨2, (⟨#[120]⟩ : ByteArray), ByteArray.empty, 0, [r54]⟩ : PTerm)) SB63 er61) ?_
 rintro _ w62 ⟨rfl, S2⟩
 replace S := back _ _ _ _ S2 rfl
 clear back S2 SB63
 refine wd (zK rfl) (wd (zk rfl rfl) (wd (zk rfl rfl) (wd (zf rfl) (wd (zf rfl) (zd (zb (za ?_)))))))
 refine wd (zr rfl) (wd (xB bu_Hyp (Bld.one rfl rfl (by rw [Hyp.len]; decide) (Hyp.set_name _ _) (Bld.one rfl rfl (by rw [Hyp.len]; decide) (Hyp.set_form _ _) Bld.nil))) ?_)
 refine xx (C := Hyp.C) (l := [(⟨(⟨#[120]⟩ : ByteArray), 4⟩ : Hyp)]) (vs := [.agg (Hyp.C (⟨(⟨#[120]⟩ : ByteArray), 4⟩ : Hyp)).toArray]) ui el_Hyp.zero rfl rfl (fun a _ => Hyp.len a) (by decide) rfl (by decide) fun b65 w64 s66 hBw64 hw64 => ?_
 replace S := S.lit hBw64 hw64 (by simp)
 obtain ⟨r67, er67, H⟩ := zp H
 obtain ⟨B69, MB69, SB69, back⟩ := S.sub [] [] [oS T_Hyp 2 Hyp.C s66 ([(⟨(⟨#[120]⟩ : ByteArray), 4⟩ : Hyp)]), oS T_Hyp 2 Hyp.C s43 ([(⟨(⟨#[120]⟩ : ByteArray), 2⟩ : Hyp)]), oS zX 1 IC s40 r37.1, oB b26 xP (Term.C (⟨6, ByteArray.empty, ByteArray.empty, 0, s24⟩ : Term)), oB b16 xP (Term.C (⟨5, ByteArray.empty, ByteArray.empty, 0, s14⟩ : Term)), oT a7 r4.1, oS T_Nd 4 Nd.C s3 ([{ Nd.z with kind := 1, name := (⟨#[112]⟩ : ByteArray) }, { Nd.z with kind := 1, name := (⟨#[113]⟩ : ByteArray) }, { Nd.z with kind := 3, l := 0, r := 1 }, { Nd.z with kind := 5, l := 2, r := 0 }, { Nd.z with kind := 2 }])]
 refine zu (zo kQ) (by decide) (zab SB69 er67) ?_
 rintro _ w68 ⟨s70, rfl, S2⟩
 replace S := back _ _ _ _ _ S2 rfl rfl
 clear back S2 SB69
 refine xx (C := Term.C) (l := [(⟨r67.kind, r67.name, r67.other, r67.form, s70⟩ : Term)]) (vs := [.agg (Term.C (⟨r67.kind, r67.name, r67.other, r67.form, s70⟩ : Term)).toArray]) xL el_Term.zero rfl rfl (fun a _ => Term.len a) (by decide) rfl (by decide) fun b72 w71 s73 hBw71 hw71 => ?_
 replace S := ((S.lit hBw71 hw71 (by simp)).bigTm).consTm (x := r67) 0
 replace S := (S.frzTm 0 0).zs [0, 2, 3, 4, 5, 6, 7, 8, 9, 10, 11, 12, 13, 14, 15, 16]
 refine wd (Does.to (v' := .agg (Term.C (⟨10, ByteArray.empty, ByteArray.empty, 0, s73⟩ : Term)).toArray) (xh (vs := [(0, .int .i64 10), (4, s73.v)]) bu_Term (x6 rfl (x6 rfl rfl)) (Bld.one rfl rfl (by rw [Term.len]; decide) (Term.set_kind _ _) (Bld.one rfl (SlV.one _ _ rfl) (by rw [Term.len]; decide) (Term.set_sub _ _) Bld.nil))) rfl) ?_
 obtain ⟨r74, er74, H⟩ := zp H
 obtain ⟨B76, MB76, SB76, back⟩ := S.calln 0 ((.o 5 rfl (.s 0 rfl (.z 0 rfl (.z 15 rfl .nil)))))
 refine zu (zo zae) (by decide) (kP (a2 := (⟨10, ByteArray.empty, ByteArray.empty, 0, [r67]⟩ : PTerm)) SB76 er74) ?_
 rintro _ w75 ⟨rfl, S2⟩
 replace S := back _ _ _ _ S2 rfl
 clear back S2 SB76
 refine wd (zf rfl) (zd (zb (za (wd (zh rfl) (wd (zN rfl rfl) (wd (zB rfl) ?_))))))
 refine wg (fun hg => zh rfl) ?_
 refine wg (fun hg => zN (zq hg) rfl) (wd (xe rfl (fun hp => (zq (xF hp)))) (wd (zB rfl) ?_))
 refine wg (fun hg => zh rfl) ?_
 refine wg (fun hg => zN (zq hg) rfl) (wd (xe rfl (fun hp => (zq (xF hp)))) (wd (zB rfl) ?_))
 refine wg (fun hg => zR rfl) ?_
 obtain ⟨hg77, H⟩ := xK H
 refine wl_gon (j := 10) (pol := true) rfl rfl rfl (by decide) (by simpa using hg77) ?_
 refine xx (C := IC) (l := [0]) (vs := [.int .i64 0]) zY yh.zero rfl rfl (fun _ _ => rfl) (by decide) rfl (by decide) fun b79 w78 s80 hBw78 hw78 => ?_
 replace S := S.lit hBw78 hw78 (by simp)
 obtain ⟨r81, er81, H⟩ := zp H
 refine yI (j := 10) (pol := true) rfl rfl rfl (by decide) (fun hg => zM ca_ref03_Ints (zO (zq hg) (zO rfl rfl))) (by decide) (fun hg => (have ⟨M, SS⟩ := S.lend ((.s 3 rfl (.s 0 rfl .nil))); quiet (ref03_Ints_st SS (if_t (by simpa using hg) er81)) (fun v w' h => ⟨h.1, _, _, h.2⟩))) fun w82 hw82 => ?_
 replace S := S.ext hw82
 refine wd (xe rfl (fun hp => (zq (xF hp)))) (wd (zB rfl) ?_)
 refine wg (fun hg => zh rfl) ?_
 refine wg (fun hg => zN (zq hg) rfl) (wd (xe rfl (fun hp => (zq (xF hp)))) (wd (zB rfl) ?_))
 refine wg (fun hg => zh rfl) ?_
 refine wg (fun hg => zN (zq hg) rfl) (wd (xe rfl (fun hp => (zq (xF hp)))) (wd (zB rfl) ?_))
 refine wg (fun hg => zh rfl) ?_
 refine wg (fun hg => zN (zq hg) rfl) (wd (xe rfl (fun hp => (zq (xF hp)))) (wd (zB rfl) ?_))
 refine wg (fun hg => zh rfl) ?_
 refine wg (fun hg => zN (zq hg) rfl) (wd (xe rfl (fun hp => (zq (xF hp)))) (wd (zB rfl) ?_))
 refine wg (fun hg => zh rfl) ?_
 refine wg (fun hg => zN (zq hg) rfl) (wd (xe rfl (fun hp => (zq (xF hp)))) (wd (zl rfl) (zd (zn ?_))))
 refine ⟨_, (zS (ze rfl)), ?_⟩
 replace S := S.arr [] []
 obtain rfl := Option.some.inj H
 exact ⟨rfl, S⟩
end Go.Proofs.YtjebgcoknpcadaaGreatDoor
end
section
namespace Go.Proofs.YtjebgcoknpcadaaGreatDoor
open Gw Go.RowKit
set_option maxHeartbeats 4000000
theorem y1 {A : Nat → Prop} {N : Oth} {w : World} {a0 : PFinder} {a_0 : Option Addr} {g_0_1 : Option Addr} {a1 : PStep} {s_1 : SlV} (S : St A N w w [oF a_0 g_0_1 a0, oS zX 1 IC s_1 a1.kids] []) {r : PFinder × Int × Int} (H : search_finder_end.f a0 a1 = some r) :
  Calls PP kz #[.pointer a_0, .agg (Step.C (⟨a1.seq, a1.proved, a1.rule, a1.main, s_1⟩ : Step)).toArray] w fun e w' => ∃ v, e = .returned v ∧ (v = .tuple #[.int .i64 r.2.1, .int .i64 r.2.2] ∧ St A N w w' [oF a_0 g_0_1 r.1] []) := by
 unfold search_finder_end.f at H
 refine zw (n := 33) fn_search_finder_end rfl rfl (by simp) (zb (za ?_))
 refine zJ rfl (by decide) fun b2 w1 hw1 => ?_
 replace S := S.new hw1
 refine wd (zf rfl) (wd (zf rfl) (zd (zb ?_)))
 obtain ⟨p3, s5, m6, hp4, S⟩ := S.open_oF 1
 replace S := S
 refine yn 11 (Ext w1) hmix (by kernel_rfl) (by kernel_rfl) (Ext.drawn _) (zy (fun v K => zr rfl) (zy (fun v K => zH (congrArg Value.pointer hp4)) (zy (fun v K => zi fl_Finder_at_ rfl (o' := 2) rfl) (zy (fun v K => zm zaO rfl (((S.ext K).blk 0).cell (Finder.get_at_ _))) (zy (fun v K => zi fl_Step_seq rfl (o' := 0) rfl) (zy (fun v K => zj xQ rfl (((S.ext K).blk 4).cells (Step.sub_seq _)) (Sq.len _)) (zy (fun v K => zr rfl) (zy (fun v K => zH (congrArg Value.pointer hp4)) (zy (fun v K => zi yO rfl (o' := 1) rfl) (zy (fun v K => zm vh rfl (((S.ext K).blk 0).cell (Finder.get_steps _))) (zy (fun v K => does_lenD vS rfl ((S.ext K).onO 2)) ?_)))))))))))
 refine vt fun w7 K => ?_
 replace S := S.ext K
 clear K
 refine wl_mapUpdate (C := mSqC) (D := (Value.int .i64)) (key := a1.seq) (v := (a0.steps.length : Int)) zaV key_Sq rfl rfl rfl (S.map 3) fun w8 hmw8 hcw8 hsw8 => ?_
 replace S := ((S.mapSet 3 ⟨hmw8, hcw8, hsw8⟩).front 3).front 3
 replace S := (S.front 3).shut_oF hp4
 refine zd (zb ?_)
 obtain ⟨p9, s11, m12, hp10, S⟩ := S.open_oF 0
 replace S := S
 obtain ⟨ms13, S⟩ := S.openD 2
 replace S := S
 have hlms13 : ms13.length = a0.steps.length := (S.own 1 rfl).elim fun _ hb => big_len hb
 obtain ⟨ha14, H⟩ := xK H
 have ha14 := of_decide_eq_true ha14
 rw [← hlms13] at ha14
 have hSO := S.sl 0
 have hSlt := hSO.lt
 have SH : ∀ v, Chg s11.fp w8 v → St A (N.or s11.fp) w v [big jH ms13 a0.steps, oB p9 jy (Finder.C (⟨g_0_1, s11, (some m12), a0.left, a0.visits⟩ : Finder)), oT g_0_1 a0.t, oMSq m12 (Gw.ins a1.seq (a0.steps.length : Int) a0.at_), oB b2 vE (Step.C (⟨a1.seq, a1.proved, a1.rule, a1.main, s_1⟩ : Step)), oS zX 1 IC s_1 a1.kids] [] := fun v hc => S.away 0 (hc := hc)
 refine wc_draw 8 ⟨fun L v => Chg s11.fp w8 v ∧ (L 7 = false → Ext w8 v), fun L a b => Chg s11.fp a b ∧ (L 7 = true → Ext a b), fun i v u => match i with
  | 0 => v = Value.pointer a_0
  | 1 => v = Value.pointer a_0
  | 2 => v = Value.pointer (some ⟨p9, 0, none⟩)
  | 3 => v = Value.pointer (some ⟨p9, 1, none⟩)
  | 4 => v = s11.v
  | 5 => v = Value.agg (Step.C (⟨a1.seq, a1.proved, a1.rule, a1.main, s_1⟩ : Step)).toArray
  | 6 => ∃ b sl, v = SlV.v sl ∧ sl = ⟨some ⟨b, 0, none⟩, 1, 1⟩ ∧ Blk u b vE (Step.C (⟨a1.seq, a1.proved, a1.rule, a1.main, s_1⟩ : Step)) ∧ ¬ s11.fp b
  | 7 => ∃ s', v = SlV.v s' ∧ Own u 0 vE 21 s' ((ms13 ++ [(⟨a1.seq, a1.proved, a1.rule, a1.main, s_1⟩ : Step)]).map Step.C) ∧ ∀ i, s'.fp i → s11.fp i ∨ w8.heap.size ≤ i
  | _ => True⟩ hmix (by kernel_rfl) ?_ ⟨(Ext.drawn _).mono (fun _ _ x => x.elim), fun _ => Ext.drawn _⟩ ⟨?_, ?_, ?_, ?_, ?_, ?_, ?_, ?_, trivial⟩ ?_
 ·intro L i v a b hLi hle hv
  match i, hLi, hv with
  | 0, _, hv => exact hv
  | 1, _, hv => exact hv
  | 2, _, hv => exact hv
  | 3, _, hv => exact hv
  | 4, _, hv => exact hv
  | 5, _, hv => exact hv
  | 6, _, ⟨b, sl, e1, e2, hb, hn⟩ => exact ⟨b, sl, e1, e2, hb.chg hle.1 hn, hn⟩
  | 7, hLi, ⟨s', e1, ho, hg⟩ => exact ⟨s', e1, ho.ext (hle.2 hLi), hg⟩
  | _ + 8, _, _ => exact trivial
 ·rintro L g v hL hT 
  refine wd (zr rfl) (zd (ob ⟨hT.1, fun h => hT.2 h⟩ ⟨Chg.refl _ _, fun _ => Ext.refl _⟩ rfl))
 ·rintro L g v hL hT 
  refine wd (zr rfl) (zd (ob ⟨hT.1, fun h => hT.2 h⟩ ⟨Chg.refl _ _, fun _ => Ext.refl _⟩ rfl))
 ·rintro L g v hL hT hv1
  refine wd (zH ((hv1 : _ = Value.pointer a_0).trans (congrArg Value.pointer hp10))) (zd (ob ⟨hT.1, fun h => hT.2 h⟩ ⟨Chg.refl _ _, fun _ => Ext.refl _⟩ rfl))
 ·rintro L g v hL hT hv2
  refine wd (zi yO hv2 (o' := 1) rfl) (zd (ob ⟨hT.1, fun h => hT.2 h⟩ ⟨Chg.refl _ _, fun _ => Ext.refl _⟩ rfl))
 ·rintro L g v hL hT hv3
  refine wd (zm vh hv3 (((SH v hT.1).blk 1).cell (Finder.get_steps _))) (zd (ob ⟨hT.1, fun h => hT.2 h⟩ ⟨Chg.refl _ _, fun _ => Ext.refl _⟩ rfl))
 ·rintro L g v hL hT 
  refine wd (zj zar rfl (((SH v hT.1).blk 4).all _ (Step.len _)) (Step.len _)) (zd (ob ⟨hT.1, fun h => hT.2 h⟩ ⟨Chg.refl _ _, fun _ => Ext.refl _⟩ rfl))
 ·rintro L g v hL hT hv5
  refine wl_lit1 vS el_Step.zero hv5 rfl (Step.len _) (by decide) (by decide) fun b v' sl hn hq => zd (ob ⟨hT.1.thenExt hn.ext, fun h => (hT.2 h).trans hn.ext⟩ ⟨hn.ext.mono (fun _ _ x => x.elim), fun _ => hn.ext⟩ ⟨b, sl, rfl, hq, hn.blk, fun e => by have := hSlt _ e; have := hn.at_; have := hT.1.size; omega⟩)
 ·rintro L g v hL hT hv4 ⟨b, sl, hv6, hq, hb, hnb⟩
  refine wl_push (C := Step.C) vS el_Step hv4 hv6 (hSO.ext (hT.2 hL)) hb hq (Step.len _) (Step.one _) ha14 (by omega) (by decide) fun s' v' ho hc hg => zd (ob ⟨hT.1.trans hc, fun h => (by cases h)⟩ ⟨hc, fun h => (by rw [hL] at h; cases h)⟩ ⟨s', rfl, ho, fun i e => (hg i e).imp id (fun h => Nat.le_trans hT.1.size h)⟩)
 rintro L g w15 hLm hT hv17_0 hv17_1 hv17_2 hv17_3 hv17_4 hv17_5 ⟨b, sl, hv17_6, hq, hb, hnb⟩ ⟨s16, hv17_7, O, gO⟩
 replace S := S.push 0 O (by rw [List.length_append, List.length_singleton]; omega) hT.1 gO
 clear O gO SH hSO hSlt
 replace S := S.front 6
 replace S : St A N w w15 [jH (⟨a1.seq, a1.proved, a1.rule, a1.main, s_1⟩ : Step) a1, oS vE 21 Step.C s16 (ms13 ++ [(⟨a1.seq, a1.proved, a1.rule, a1.main, s_1⟩ : Step)]), big jH ms13 a0.steps, oB p9 jy (Finder.C (⟨g_0_1, s11, (some m12), a0.left, a0.visits⟩ : Finder)), oT g_0_1 a0.t, oMSq m12 (Gw.ins a1.seq (a0.steps.length : Int) a0.at_), oB b2 vE (Step.C (⟨a1.seq, a1.proved, a1.rule, a1.main, s_1⟩ : Step))] [] := (S.putp ⟨rfl, rfl, rfl, rfl⟩).star
 replace S := ((S.front 2).front 2).pushD
 refine wd (zH ((hv17_0 : _ = Value.pointer a_0).trans (congrArg Value.pointer hp10))) (wd (zi yO rfl (o' := 1) rfl) ?_)
 refine xi vh rfl hv17_7 (S.blk 1) (by rw [Finder.len]; decide) (SlV.one _ _ rfl) (Finder.set_steps _ _) fun w18 B hw18 zw18 => ?_
 replace S := S.store 1 B hw18
 clear B
 replace S := ((S.front 3).front 2).front 3
 replace S := (S.front 3).shut_oF hp10
 refine zd (zb (za (wd (zr rfl) ?_)))
 obtain ⟨p19, s21, m22, hp20, S⟩ := S.open_oF 0
 replace S := S
 refine wd (zH (congrArg Value.pointer hp20)) (wd (zi yO rfl (o' := 1) rfl) (wd (zm vh rfl ((S.blk 0).cell (Finder.get_steps _))) (wd (does_lenD vS rfl (S.onO 2)) (wd (zbg rfl rfl) (wd (zf rfl) (wd (zf rfl) ?_))))))
 replace S := ((S.front 3).front 3).front 3
 replace S := (S.front 3).shut_oF hp20
 refine zd (zn ?_)
 refine ⟨_, (zU (ze rfl) (ze rfl)), ?_⟩
 replace S := S.arr [0] []
 obtain rfl := Option.some.inj H
 exact ⟨rfl, S⟩
theorem zaA {rec_search_finder_decide : PFinder → Sq → Option (PFinder × Int × Int)} (hrec_search_finder_decide : ∀ {A : Nat → Prop} {N : Oth} {w : World} {a0 : PFinder} {a_0 : Option Addr} {g_0_1 : Option Addr} {a1 : Sq} (S : St A N w w [oF a_0 g_0_1 a0] [oTz]) {r : PFinder × Int × Int} (H : rec_search_finder_decide a0 a1 = some r), Calls PP yr #[.pointer a_0, .agg (Sq.C a1).toArray] w fun e w' => ∃ v, e = .returned v ∧ (v = .tuple #[.int .i64 r.2.1, .int .i64 r.2.2] ∧ St A N w w' [oF a_0 g_0_1 r.1] [])) {A : Nat → Prop} {N : Oth} {w : World} {a0 : PFinder} {a_0 : Option Addr} {g_0_1 : Option Addr} {a1 : Sq} (S : St A N w w [oF a_0 g_0_1 a0] [oTz]) {r : PFinder × Int × Int} (H : search_finder_choose.g rec_search_finder_decide a0 a1 = some r) :
  Calls PP jO #[.pointer a_0, .agg (Sq.C a1).toArray] w fun e w' => ∃ v, e = .returned v ∧ (v = .tuple #[.int .i64 r.2.1, .int .i64 r.2.2] ∧ St A N w w' [oF a_0 g_0_1 r.1] []) := by
 unfold search_finder_choose.g at H
 refine zw (n := 126) zba rfl rfl (by simp) (zb (za ?_))
 refine zJ rfl (by decide) fun b2 w1 hw1 => ?_
 replace S := S.new hw1
 refine wd (zf rfl) (wd (zf rfl) (zd (zb ?_)))
 obtain ⟨p3, s5, m6, hp4, S⟩ := S.open_oF 1
 replace S := S
 refine wc_ws hmix fun w8 K => ?_
 replace S := S.ext K
 clear K
 refine vW 0 5 [] (by kernel_rfl) (by decide) (by kernel_rfl)
  (V := fun i v u => match i with
  | _ => True) ?_ ?_
 ·intro i v u u' hi hx hv
  match i, hv with
  | _, _ => exact trivial
 refine zz (fun v K => zr rfl) rfl (zz (fun v K => zH (congrArg Value.pointer hp4)) rfl (zz (fun v K => zi zav rfl (o' := 0) rfl) rfl (zz (fun v K => zm zL rfl (((S.ext K).blk 0).cell (Finder.get_t _))) rfl (zz (fun v K => zj xQ rfl (((S.ext K).blk 4).all _ (Sq.len _)) (Sq.len _)) rfl ?_))))
 refine yQ fun g w9 K hV => ?_
 replace S := S.ext K
 clear K hV
 refine kk 5 7 (by kernel_rfl) (by decide) ?_
 obtain ⟨r11, er11, H⟩ := zp H
 obtain ⟨B13, MB13, SB13, back⟩ := S.calln 0 ((.o 1 rfl (.z 0 rfl .nil)))
 refine zu (zo ca_rule_Choices) (by decide) (rule_Choices_st SB13 er11) ?_
 rintro _ w12 ⟨s14, s15, rfl, S2⟩
 replace S := back _ _ _ _ S2 rfl
 clear back S2 SB13
 refine wd (zK rfl) (zd ⟨rfl, ?_⟩)
 refine vW 7 12 [] (by kernel_rfl) (by decide) (by kernel_rfl)
  (V := fun i v u => match i with
  | _ => True) ?_ ?_
 ·intro i v u u' hi hx hv
  match i, hv with
  | _, _ => exact trivial
 refine zz (fun v K => zk rfl rfl) rfl (zz (fun v K => zk rfl rfl) rfl (zz (fun v K => zk rfl rfl) rfl (zz (fun v K => xa rfl) rfl (zz (fun v K => xa rfl) rfl ?_))))
 refine yQ fun g w16 K hV => ?_
 replace S := S.ext K
 clear K hV
 refine zap 12 (by kernel_rfl) (by decide) (wd (zf rfl) ?_)
 replace S := ((S.front 5).front 5).front 5
 replace S := (S.front 5).shut_oF hp4
 refine zd (zb (zb (za (wd (zh rfl) (wd (xc rfl rfl) (zd ?_))))))
 refine zC rfl (fun hc18 => ?_) (fun hc18 => ?_)
 ·replace H := if_t hc18 H
  refine zb (za (wd (zh rfl) (wd (zf rfl) (wd (zf rfl) (zd (zn ?_))))))
  refine ⟨_, (zU (ze rfl) (ze rfl)), ?_⟩
  replace S := S.arr [0] []
  obtain rfl := Option.some.inj H
  exact ⟨rfl, S⟩
 replace H := if_f hc18 H
 refine zt (zb (za (wd (zj xQ rfl ((S.blk 3).all _ (Sq.len _)) (Sq.len _)) (wd (Does.to (v' := .agg (Step.C (⟨a1, false, 14, 0, SlV.nil⟩ : Step)).toArray) (xh (vs := [(0, .agg (Sq.C a1).toArray), (2, .int .i64 14)]) bu_Step (x6 rfl (x6 rfl rfl)) (Bld.step rfl rfl (Sq.len _) (by rw [Step.len]; decide) (Step.put_seq _ _) (Bld.one rfl rfl (by rw [Step.len]; decide) (Step.set_rule _ _) Bld.nil))) rfl) ?_))))
 refine zP ze_Step (by decide) fun b20 w19 hw19 => ?_
 replace S := S.new hw19
 refine zx zar rfl rfl (S.blk 0) (Step.len _) (by rw [Step.len]; decide) (Step.one _) (zG (Step.len _)) fun w21 B hw21 zw21 => ?_
 replace S := S.store 0 B hw21
 clear B
 refine zd (zb (zb (za (wd (zR rfl) (wd (xG ut rfl (S.rdO 2)) (wd (zh rfl) (zd ?_)))))))
 replace S := S.nil zX 1 IC
 obtain ⟨o22, e22, Ho22⟩ := zp H
 clear H
 refine yT [4, 5, 10, 11, 12, 13, 14, 15, 16, 17, 18, 36, 37, 38, 39, 40, 41, 42, 43, 44, 45, 46, 47, 48, 49, 50, 51, 52, 53, 54, 55, 56, 57, 58, 59, 60, 61, 62, 63, 64, 65, 66, 67, 68, 69, 70, 71, 72, 73, 74, 75, 76, 77, 78, 79, 80, 81, 82, 83, 84, 85, 86, 87, 88, 89, 90, 91, 92, 93, 94, 95, 96, 97, 98, 99, 100, 101, 102, 103, 104, 105, 106, 107, 108, 109, 110, 111, 112, 113, 114, 115, 116, 117, 118, 119, 120] (fun fr W => ∃ s22 : PStep × PFinder, o22 = .inl s22 ∧ ∃ s23 : SlV, St A N w W [oS zX 1 IC s23 s22.1.kids, oB b20 vE (Step.C (⟨s22.1.seq, s22.1.proved, s22.1.rule, s22.1.main, s23⟩ : Step)), oF a_0 g_0_1 s22.2, oS yZ 1 IC s14 r11.1, oS zX 1 IC s15 r11.2.1, oB b2 T_Sq (Sq.C a1)] [oTz]) ?_ ?_
 ·refine zF ?_
  refine yp (α := Nat × Int × (PStep × PFinder)) [4, 5, 10, 11, 12, 13, 14, 15, 16, 17, 18, 36, 37, 38, 39, 40, 41, 42, 43, 44, 45, 46, 47, 48, 49, 50, 51, 52, 53, 54, 55, 56, 57, 58, 59, 60, 61, 62, 63, 64, 65, 66, 67, 68, 69, 70, 71, 72, 73, 74, 75, 76, 77, 78, 79, 80, 81, 82, 83, 84, 85, 86, 87, 88, 89, 90, 91, 92, 93, 94, 95, 96, 97, 98, 99, 100, 101, 102, 103, 104, 105, 106, 107, 108, 109, 110, 111, 112, 113, 114, 115, 116, 117, 118, 119, 120] (fun x fr W => (x.1 : Int) = (r11.1.length : Int) - x.2.1 ∧ 0 ≤ x.2.1 ∧ forN (fun i s => search_finder_choose.b0 r11 a1 rec_search_finder_decide i s.1 s.2) x.1 x.2.1 x.2.2 = some o22 ∧ ∃ s24 : SlV, fr 36 = .int .i64 x.2.1 ∧ St A N w W [oS zX 1 IC s24 ((x.2.2.1).kids), oB b20 vE (Step.C (⟨(x.2.2.1).seq, (x.2.2.1).proved, (x.2.2.1).rule, (x.2.2.1).main, s24⟩ : Step)), oF a_0 g_0_1 (x.2.2.2), oS yZ 1 IC s14 r11.1, oS zX 1 IC s15 r11.2.1, oB b2 T_Sq (Sq.C a1)] [oTz]) (fun x => x.1) (((r11.1.length : Int) - 0).toNat, 0, ((⟨a1, false, 14, 0, ([] : List Int)⟩ : PStep), a0)) ⟨(by dsimp only; have hle := Int.natCast_nonneg (r11.1.length); omega), (Int.le_refl _), (by dsimp only; exact e22), SlV.nil, rfl, S⟩ ?_
  rintro ⟨m22, i22, ⟨x22_0, x22_1⟩⟩ g22 u22 ⟨hm22, hl22, e22, s25, q22_i, S⟩
  try dsimp only at hm22
  try dsimp only at hl22
  try dsimp only at e22
  try dsimp only at S
  try dsimp only at q22_i
  refine zb (za (wd (xm q22_i rfl) (zd (zb ?_))))
  refine zC rfl (fun hc26 => ?_) (fun hc26 => ?_)
  rotate_left
  ·refine yf ?_
   have hge : (r11.1.length : Int) ≤ i22 := Int.not_lt.1 (of_decide_eq_false hc26)
   obtain rfl : m22 = 0 := by omega
   replace e22 := zaG e22
   exact ⟨rfl, ((Dif.self _ _ _).upd rfl _), (x22_0, x22_1), e22, s25, S⟩
  refine zt ?_
  have hlt22 : i22 < (r11.1.length : Int) := of_decide_eq_true hc26
  obtain ⟨m22, rfl⟩ : ∃ m, m22 = m + 1 := ⟨m22 - 1, by omega⟩
  obtain ⟨q22, H, e22⟩ := zay e22
  unfold search_finder_choose.b0 at H
  try dsimp only at H
  have hb22 := (S.lenO 3)
  refine zb ?_
  refine zF (zb (za (wd (zh q22_i) (wd (zZ ut rfl q22_i (S.rdO 3) (And.intro (show 0 ≤ i22 by omega) (show i22 < (r11.1.length : Int) from hlt22)).1 (And.intro (show 0 ≤ i22 by omega) (show i22 < (r11.1.length : Int) from hlt22)).2) (wd (zm on_api_Rule rfl ((S.rdO 3).one (yg (0 : Int) (And.intro (show 0 ≤ i22 by omega) (show i22 < (r11.1.length : Int) from hlt22))) rfl)) (wd (zf rfl) (wd (zf rfl) (zd (zb ?_)))))))))
  obtain ⟨p28, s30, m31, hp29, S⟩ := S.open_oF 2
  replace S := S
  refine wc_ws hmix fun w34 K => ?_
  replace S := S.ext K
  clear K
  obtain ⟨hi35, H⟩ := xK H
  refine vW 0 10 [] (by kernel_rfl) (by decide) (by kernel_rfl)
   (V := fun i v u => match i with
   | _ => True) ?_ ?_
  ·intro i v u u' hi hx hv
   match i, hv with
   | _, _ => exact trivial
  refine zz (fun v K => zr rfl) rfl (zz (fun v K => zH (congrArg Value.pointer hp29)) rfl (zz (fun v K => zi zav rfl (o' := 0) rfl) rfl (zz (fun v K => zm zL rfl (((S.ext K).blk 0).cell (Finder.get_t _))) rfl (zz (fun v K => zj xQ rfl (((S.ext K).blk 8).all _ (Sq.len _)) (Sq.len _)) rfl (zz (fun v K => zh rfl) rfl (zz (fun v K => zR rfl) rfl (zz (fun v K => zh rfl) rfl (zz (fun v K => zZ zY rfl rfl ((S.ext K).rdO 7) (xv hi35).1 (xv hi35).2) rfl (zz (fun v K => zm zQ rfl (((S.ext K).rdO 7).one (yg (0 : Int) (xv hi35)) rfl)) rfl ?_)))))))))
  refine yQ fun g w36 K hV => ?_
  replace S := S.ext K
  clear K hV
  refine kk 10 12 (by kernel_rfl) (by decide) ?_
  obtain ⟨r38, er38, H⟩ := zp H
  replace S := S.front 1
  obtain ⟨B40, MB40, SB40, back⟩ := S.calln 1 ((.z 0 rfl .nil))
  refine zu (zo zbh) (by decide) (zbd SB40 er38) ?_
  rintro _ w39 ⟨s41, rfl, S2⟩
  replace S := back _ _ _ _ S2 rfl
  clear back S2 SB40
  refine wd (zK rfl) (zd ⟨rfl, ?_⟩)
  refine vW 12 15 [] (by kernel_rfl) (by decide) (by kernel_rfl)
   (V := fun i v u => match i with
   | _ => True) ?_ ?_
  ·intro i v u u' hi hx hv
   match i, hv with
   | _, _ => exact trivial
  refine zz (fun v K => zk rfl rfl) rfl (zz (fun v K => zk rfl rfl) rfl (zz (fun v K => xa rfl) rfl ?_))
  refine yQ fun g w42 K hV => ?_
  replace S := S.ext K
  clear K hV
  refine zap 15 (by kernel_rfl) (by decide) (wd (zf rfl) ?_)
  replace S := ((S.front 4).front 4).front 2
  replace S := (S.front 4).shut_oF hp29
  refine zd (zb (zb (za (wd (zh rfl) (wd (xc rfl rfl) (zd ?_))))))
  refine zC rfl (fun hc44 => ?_) (fun hc44 => ?_)
  ·replace H := if_t hc44 H
   refine zb (za (wd (zh rfl) (wd (zf rfl) (wd (zf rfl) (zd (zn ?_))))))
   refine ⟨_, (zU (ze rfl) (ze rfl)), ?_⟩
   replace S := S.arr [0] []
   obtain rfl := Option.some.inj H
   obtain rfl := e22
   obtain rfl := uV Ho22
   exact ⟨rfl, S⟩
  replace H := if_f hc44 H
  refine zt (zb ?_)
  obtain ⟨hi45, H⟩ := xK H
  refine jk 8 [7]
   (fun i v u => match i with
   | 7 => ∃ b, v = Value.pointer (some ⟨b, 0, none⟩) ∧ Blk u b vE (Step.C (⟨Sq.z, false, 0, 0, SlV.nil⟩ : Step)) ∧ w42.heap.size ≤ b
   | _ => True) hmix (by kernel_rfl) (by kernel_rfl) ?_ ?_
  ·intro i v u u' hi hx hv
   match i, hv with
   | 7, ⟨b, e1, hb, hl⟩ => exact ⟨b, e1, hb.ext hx, hl⟩
   | 0, _ => exact trivial
   | 1, _ => exact trivial
   | 2, _ => exact trivial
   | 3, _ => exact trivial
   | 4, _ => exact trivial
   | 5, _ => exact trivial
   | 6, _ => exact trivial
   | _ + 8, _ => exact trivial
  refine zz (fun v K => zj xQ rfl (((S.ext K).blk 6).all _ (Sq.len _)) (Sq.len _)) rfl (zz (fun v K => zh rfl) rfl (zz (fun v K => zR rfl) rfl (zz (fun v K => zh rfl) rfl (zz (fun v K => zZ zY rfl rfl ((S.ext K).rdO 5) (xv hi45).1 (xv hi45).2) rfl (zz (fun v K => zm zQ rfl (((S.ext K).rdO 5).one (yg (0 : Int) (xv hi45)) rfl)) rfl (zz (fun v K => Does.to (v' := .agg (Step.C (⟨a1, true, at_ (0 : Int) r11.1 i22, at_ (0 : Int) r11.2.1 i22, SlV.nil⟩ : Step)).toArray) (xh (vs := [(0, .agg (Sq.C a1).toArray), (1, .bool true), (2, .int .i64 (at_ (0 : Int) r11.1 i22)), (3, .int .i64 (at_ (0 : Int) r11.2.1 i22))]) bu_Step (x6 rfl (x6 rfl (x6 rfl (x6 rfl rfl)))) (Bld.step rfl rfl (Sq.len _) (by rw [Step.len]; decide) (Step.put_seq _ _) (Bld.one rfl rfl (by rw [Step.len]; decide) (Step.set_proved _ _) (Bld.one rfl rfl (by rw [Step.len]; decide) (Step.set_rule _ _) (Bld.one rfl rfl (by rw [Step.len]; decide) (Step.set_main _ _) Bld.nil))))) rfl) rfl ?_))))))
  refine wm_new (fun g v K G => (have ⟨v', hd, hn⟩ := does_allocN ze_Step; ⟨_, v', hd, hn.ext, _, rfl, hn.blk, K.size⟩)) rfl ?_
  refine yQ fun g w47 K hV => ?_
  obtain ⟨b46, hv487, hb7, hf7⟩ := hV 7 rfl (by decide)
  replace S := S.newAt K hb7 hf7
  clear K hV
  refine zx zar hv487 rfl (S.blk 0) (Step.len _) (by rw [Step.len]; decide) (Step.one _) (zG (Step.len _)) fun w49 B hw49 zw49 => ?_
  replace S := S.store 0 B hw49
  clear B
  refine zd (zb (zb (za (wd (zR rfl) (wd (xG x5 rfl (S.rdO 2)) (wd (zh rfl) (zd ?_)))))))
  replace S := S.nil zX 1 IC
  obtain ⟨o50, e50, Ho50⟩ := zp H
  clear H
  refine yT [4, 5, 15, 16, 17, 18, 67, 68, 69, 70, 71, 72, 73, 74, 75, 76, 77, 78, 79, 80, 81, 82, 83, 84, 85, 86, 87, 88, 89, 90, 91, 92, 93, 94, 95, 96, 97, 98, 99, 100, 101, 102, 103, 104, 105, 106, 107, 108, 109, 110, 111, 112] (fun fr W => ∃ s50 : PStep × PFinder × PStep, o50 = .inl s50 ∧ ∃ s51 : SlV, ∃ s52 : SlV, St A N w W [oS zX 1 IC s51 s50.1.kids, oB b46 vE (Step.C (⟨s50.1.seq, s50.1.proved, s50.1.rule, s50.1.main, s51⟩ : Step)), oF a_0 g_0_1 s50.2.1, oS T_Sq 17 Sq.C s41 r38.2.1, oS zX 1 IC s52 s50.2.2.kids, oB b20 vE (Step.C (⟨s50.2.2.seq, s50.2.2.proved, s50.2.2.rule, s50.2.2.main, s52⟩ : Step)), oS yZ 1 IC s14 r11.1, oS zX 1 IC s15 r11.2.1, oB b2 T_Sq (Sq.C a1)] [oTz]) ?_ ?_
  ·refine zF ?_
   refine yp (α := Nat × Int × (PStep × PFinder × PStep)) [4, 5, 15, 16, 17, 18, 67, 68, 69, 70, 71, 72, 73, 74, 75, 76, 77, 78, 79, 80, 81, 82, 83, 84, 85, 86, 87, 88, 89, 90, 91, 92, 93, 94, 95, 96, 97, 98, 99, 100, 101, 102, 103, 104, 105, 106, 107, 108, 109, 110, 111, 112] (fun x fr W => (x.1 : Int) = (r38.2.1.length : Int) - x.2.1 ∧ 0 ≤ x.2.1 ∧ forN (fun i s => search_finder_choose.b1 rec_search_finder_decide r38 i s.1 s.2.1 s.2.2) x.1 x.2.1 x.2.2 = some o50 ∧ ∃ s53 : SlV, ∃ s54 : SlV, fr 67 = .int .i64 x.2.1 ∧ St A N w W [oS zX 1 IC s53 ((x.2.2.1).kids), oB b46 vE (Step.C (⟨(x.2.2.1).seq, (x.2.2.1).proved, (x.2.2.1).rule, (x.2.2.1).main, s53⟩ : Step)), oF a_0 g_0_1 (x.2.2.2.1), oS T_Sq 17 Sq.C s41 r38.2.1, oS zX 1 IC s54 ((x.2.2.2.2).kids), oB b20 vE (Step.C (⟨(x.2.2.2.2).seq, (x.2.2.2.2).proved, (x.2.2.2.2).rule, (x.2.2.2.2).main, s54⟩ : Step)), oS yZ 1 IC s14 r11.1, oS zX 1 IC s15 r11.2.1, oB b2 T_Sq (Sq.C a1)] [oTz]) (fun x => x.1) (((r38.2.1.length : Int) - 0).toNat, 0, ((⟨a1, true, at_ (0 : Int) r11.1 i22, at_ (0 : Int) r11.2.1 i22, ([] : List Int)⟩ : PStep), (⟨r38.1, x22_1.steps, x22_1.at_, x22_1.left, x22_1.visits⟩ : PFinder), x22_0)) ⟨(by dsimp only; have hle := Int.natCast_nonneg (r38.2.1.length); omega), (Int.le_refl _), (by dsimp only; exact e50), SlV.nil, s25, rfl, S⟩ ?_
   rintro ⟨m50, i50, ⟨x50_0, x50_1, x50_2⟩⟩ g50 u50 ⟨hm50, hl50, e50, s55, s56, q50_i, S⟩
   try dsimp only at hm50
   try dsimp only at hl50
   try dsimp only at e50
   try dsimp only at S
   try dsimp only at q50_i
   refine zb (za (wd (xm q50_i rfl) (zd (zb ?_))))
   refine zC rfl (fun hc57 => ?_) (fun hc57 => ?_)
   rotate_left
   ·refine yf ?_
    have hge : (r38.2.1.length : Int) ≤ i50 := Int.not_lt.1 (of_decide_eq_false hc57)
    obtain rfl : m50 = 0 := by omega
    replace e50 := zaG e50
    exact ⟨rfl, ((Dif.self _ _ _).upd rfl _), (x50_0, x50_1, x50_2), e50, s55, s56, S⟩
   refine zt ?_
   have hlt50 : i50 < (r38.2.1.length : Int) := of_decide_eq_true hc57
   obtain ⟨m50, rfl⟩ : ∃ m, m50 = m + 1 := ⟨m50 - 1, by omega⟩
   obtain ⟨q50, H, e50⟩ := zay e50
   unfold search_finder_choose.b1 at H
   try dsimp only at H
   have hb50 := (S.lenO 3)
   refine zb ?_
   refine zF (zb (za (wd (zh q50_i) (wd (zZ x5 rfl q50_i (S.rdO 3) (And.intro (show 0 ≤ i50 by omega) (show i50 < (r38.2.1.length : Int) from hlt50)).1 (And.intro (show 0 ≤ i50 by omega) (show i50 < (r38.2.1.length : Int) from hlt50)).2) (wd (zj xQ rfl ((S.rdO 3).at (yg Sq.z (And.intro (show 0 ≤ i50 by omega) (show i50 < (r38.2.1.length : Int) from hlt50)))) (Sq.len _)) ?_)))))
   refine zP ze_Sq (by decide) fun b60 w59 hw59 => ?_
   replace S := S.new hw59
   refine wd (zf rfl) ?_
   refine zx xQ rfl rfl (S.blk 0) (Sq.len _) (by rw [Sq.len]; decide) (Sq.one _) (zG (Sq.len _)) fun w61 B hw61 zw61 => ?_
   replace S := S.store 0 B hw61
   clear B
   refine zd (zb (za (wd (zr rfl) (wd (zj xQ rfl ((S.blk 0).all _ (Sq.len _)) (Sq.len _)) ?_))))
   obtain ⟨r62, er62, H⟩ := zp H
   replace S := S.front 3
   obtain ⟨B64, MB64, SB64, back⟩ := S.calln 1 ((.z 0 rfl .nil))
   refine zu (zo v8) (by decide) (hrec_search_finder_decide SB64 er62) ?_
   rintro _ w63 ⟨rfl, S2⟩
   replace S := back _ _ _ _ S2 rfl
   clear back S2 SB64
   refine wd (zK rfl) (wd (zk rfl rfl) (wd (zk rfl rfl) (wd (zf rfl) (wd (zf rfl) (zd (zb (zb (za (wd (zh rfl) (wd (xc rfl rfl) (zd ?_)))))))))))
   refine zC rfl (fun hc65 => ?_) (fun hc65 => ?_)
   ·replace H := if_t hc65 H
    refine zb (za (wd (zh rfl) (wd (zf rfl) (wd (zf rfl) (zd (zn ?_))))))
    refine ⟨_, (zU (ze rfl) (ze rfl)), ?_⟩
    replace S := S.arr [0] []
    obtain rfl := Option.some.inj H
    obtain rfl := e50
    obtain rfl := uV Ho50
    obtain rfl := e22
    obtain rfl := uV Ho22
    exact ⟨rfl, S⟩
   replace H := if_f hc65 H
   refine zt (zb (za (wd (zi um hv487 (o' := 20) rfl) (wd (zm va rfl ((S.blk 3).cell (Step.get_kids _))) (wd (zh rfl) ?_)))))
   refine xx (C := IC) (l := [r62.2.1]) (vs := [.int .i64 r62.2.1]) zY yh.zero rfl rfl (fun _ _ => rfl) (by decide) rfl (by decide) fun b67 w66 s68 hBw66 hw66 => ?_
   replace S := S.lit hBw66 hw66 (by simp)
   obtain ⟨ha71, H⟩ := xK H
   have ha71 := of_decide_eq_true ha71
   refine yK (C := IC) zY yh rfl rfl (S.sl 3) (S.rdO 0) (by simp) (fun a _ v hv => by rw [List.mem_singleton.1 hv]; rfl) ha71 (by omega) (by decide) fun s70 w69 O hw69 gw69 => ?_
   replace S := S.push 3 O (by first | (simp; done) | (simp; omega)) hw69 gw69
   clear O
   refine wd (zi um hv487 (o' := 20) rfl) ?_
   refine xi va rfl rfl (S.blk 4) (by rw [Step.len]; decide) (SlV.one _ _ rfl) (Step.set_kids _ _) fun w72 B hw72 zw72 => ?_
   replace S := S.store 4 B hw72
   clear B
   refine zd (zb (zb (za (wd (zr rfl) ?_))))
   obtain ⟨p73, s75, m76, hp74, S⟩ := S.open_oF 3
   replace S := S
   refine wd (zH (congrArg Value.pointer hp74)) (wd (zi yO rfl (o' := 1) rfl) (wd (zm vh rfl ((S.blk 0).cell (Finder.get_steps _))) (wd (zh rfl) ?_)))
   obtain ⟨hi77, H⟩ := xK H
   refine wd (does_indexD vS rfl rfl (S.onO 2) (xv hi77).1 (xv hi77).2) (wd (zi uI rfl (o' := _) rfl) (wd (zm vx rfl (oD.cell (z := PStep.z) (S.onO 2) (xv hi77) (fun _ => jH.get_proved))) ?_))
   replace S := ((S.front 3).front 3).front 3
   replace S := (S.front 3).shut_oF hp74
   refine zd ?_
   refine zC rfl (fun hc78 => ?_) (fun hc78 => ?_)
   ·replace H := if_t hc78 H
    refine yf (za (wd (xg q50_i rfl (c := i50 + 1) rfl (by omega) (by omega)) (wd (zh rfl) (zd ?_))))
    replace S := S.arr [2, 1, 0, 5, 6, 7, 8, 9, 10] [0]
    obtain rfl := Option.some.inj H
    exact ⟨rfl, (((((((((((((((((((((((((((((((((Dif.self _ _ _).upd rfl _).upd rfl _).upd rfl _).upd rfl _).upd rfl _).upd rfl _).upd rfl _).upd rfl _).upd rfl _).upd rfl _).upd rfl _).upd rfl _).upd rfl _).upd rfl _).upd rfl _).upd rfl _).upd rfl _).upd rfl _).upd rfl _).upd rfl _).upd rfl _).upd rfl _).upd rfl _).upd rfl _).upd rfl _).upd rfl _).upd rfl _).upd rfl _).upd rfl _).upd rfl _).upd rfl _).upd rfl _), (m50, i50 + 1, ((⟨x50_0.seq, x50_0.proved, x50_0.rule, x50_0.main, x50_0.kids ++ [r62.2.1]⟩ : PStep), r62.1, x50_2)), ⟨(by dsimp only; omega), (by dsimp only; omega), e50, s70, s56, rfl, S⟩, by dsimp only; omega⟩
   replace H := if_f hc78 H
   refine zt (zb (za (wd (zi uI hv487 (o' := 17) rfl) ?_)))
   refine xi vx rfl rfl (S.blk 1) (by rw [Step.len]; decide) rfl (Step.set_proved _ _) fun w79 B hw79 zw79 => ?_
   replace S := S.store 1 B hw79
   clear B
   refine zd (zb (zb (za (wd (zh rfl) (wd (zN rfl rfl) (zd ?_))))))
   refine zC rfl (fun hc80 => ?_) (fun hc80 => ?_)
   ·replace H := if_t hc80 H
    refine zb (za (wd (zi um rfl (o' := 20) rfl) (wd (zm va rfl ((S.blk 7).cell (Step.get_kids _))) (wd (zh rfl) ?_))))
    refine xx (C := IC) (l := [r62.2.1]) (vs := [.int .i64 r62.2.1]) zY yh.zero rfl rfl (fun _ _ => rfl) (by decide) rfl (by decide) fun b82 w81 s83 hBw81 hw81 => ?_
    replace S := S.lit hBw81 hw81 (by simp)
    obtain ⟨ha86, H⟩ := xK H
    have ha86 := of_decide_eq_true ha86
    refine yK (C := IC) zY yh rfl rfl (S.sl 7) (S.rdO 0) (by simp) (fun a _ v hv => by rw [List.mem_singleton.1 hv]; rfl) ha86 (by omega) (by decide) fun s85 w84 O hw84 gw84 => ?_
    replace S := S.push 7 O (by first | (simp; done) | (simp; omega)) hw84 gw84
    clear O
    refine wd (zi um rfl (o' := 20) rfl) ?_
    refine xi va rfl rfl (S.blk 8) (by rw [Step.len]; decide) (SlV.one _ _ rfl) (Step.set_kids _ _) fun w87 B hw87 zw87 => ?_
    replace S := S.store 8 B hw87
    clear B
    refine zd ?_
    refine yf ?_
    replace S := S.arr [5, 3, 4, 8, 1, 0, 9, 10, 11] [0]
    obtain rfl := Option.some.inj H
    exact ⟨rfl, ((((((((((((((((((((((((((((((((((((((((Dif.self _ _ _).upd rfl _).upd rfl _).upd rfl _).upd rfl _).upd rfl _).upd rfl _).upd rfl _).upd rfl _).upd rfl _).upd rfl _).upd rfl _).upd rfl _).upd rfl _).upd rfl _).upd rfl _).upd rfl _).upd rfl _).upd rfl _).upd rfl _).upd rfl _).upd rfl _).upd rfl _).upd rfl _).upd rfl _).upd rfl _).upd rfl _).upd rfl _).upd rfl _).upd rfl _).upd rfl _).upd rfl _).upd rfl _).upd rfl _).upd rfl _).upd rfl _).upd rfl _).upd rfl _).upd rfl _).upd rfl _), ((⟨x50_0.seq, false, x50_0.rule, x50_0.main, x50_0.kids ++ [r62.2.1]⟩ : PStep), r62.1, (⟨x50_2.seq, x50_2.proved, x50_2.rule, x50_2.main, x50_2.kids ++ [r62.2.1]⟩ : PStep)), e50, s70, s85, S⟩
   replace H := if_f hc80 H
   refine zt (zb (za (wd (zh rfl) ?_)))
   refine xx (C := IC) (l := [r62.2.1]) (vs := [.int .i64 r62.2.1]) zY yh.zero rfl rfl (fun _ _ => rfl) (by decide) rfl (by decide) fun b89 w88 s90 hBw88 hw88 => ?_
   replace S := S.lit hBw88 hw88 (by simp)
   refine wd (zi um hv487 (o' := 20) rfl) ?_
   refine xi va rfl rfl (S.blk 1) (by rw [Step.len]; decide) (SlV.one _ _ rfl) (Step.set_kids _ _) fun w91 B hw91 zw91 => ?_
   replace S := S.store 1 B hw91
   clear B
   refine zd (zb (za (wd (zr rfl) (wd (zj zar hv487 ((S.blk 0).all _ (Step.len _)) (Step.len _)) ?_))))
   obtain ⟨r92, er92, H⟩ := zp H
   replace S := (S.front 1).front 2
   obtain ⟨B94, MB94, SB94, back⟩ := S.calln 2 ((.nil))
   refine zu (zo y2) (by decide) (y1 (a1 := (⟨x50_0.seq, false, x50_0.rule, x50_0.main, [r62.2.1]⟩ : PStep)) SB94 er92) ?_
   rintro _ w93 ⟨rfl, S2⟩
   replace S := back _ _ _ _ S2 rfl
   clear back S2 SB94
   refine wd (zk rfl rfl) (wd (zk rfl rfl) (wd (zf rfl) (wd (zf rfl) (zd (zn ?_)))))
   refine ⟨_, (zU (ze rfl) (ze rfl)), ?_⟩
   replace S := S.arr [0] []
   obtain rfl := Option.some.inj H
   obtain rfl := e50
   obtain rfl := uV Ho50
   obtain rfl := e22
   obtain rfl := uV Ho22
   exact ⟨rfl, S⟩
  rintro g95 u96 ⟨s50, rfl, s51, s52, S⟩
  have H := Ho50
  dsimp only [aft] at H
  refine zb (za (wd (zi uI hv487 (o' := 17) rfl) (wd (zm vx rfl ((S.blk 1).cell (Step.get_proved _))) (zd ?_))))
  refine zC rfl (fun hc97 => ?_) (fun hc97 => ?_)
  ·replace H := if_t hc97 H
   refine zb (za (wd (zr rfl) (wd (zj zar hv487 ((S.blk 1).all _ (Step.len _)) (Step.len _)) ?_)))
   obtain ⟨r98, er98, H⟩ := zp H
   replace S := S.front 2
   obtain ⟨B100, MB100, SB100, back⟩ := S.calln 2 ((.nil))
   refine zu (zo y2) (by decide) (y1 (a1 := s50.1) SB100 er98) ?_
   rintro _ w99 ⟨rfl, S2⟩
   replace S := back _ _ _ _ S2 rfl
   clear back S2 SB100
   refine wd (zk rfl rfl) (wd (zk rfl rfl) (wd (zf rfl) (wd (zf rfl) (zd (zn ?_)))))
   refine ⟨_, (zU (ze rfl) (ze rfl)), ?_⟩
   replace S := S.arr [0] []
   obtain rfl := Option.some.inj H
   obtain rfl := e22
   obtain rfl := uV Ho22
   exact ⟨rfl, S⟩
  replace H := if_f hc97 H
  refine zt (za (wd (xg q22_i rfl (c := i22 + 1) rfl (by omega) (by omega)) (wd (zh rfl) (zd ?_))))
  replace S := S.arr [4, 5, 2, 6, 7, 8] [0]
  obtain rfl := Option.some.inj H
  exact ⟨rfl, (((((((((((((((((((((((((((((((((((((((((((Dif.self _ _ _).upd rfl _).upd rfl _).upd rfl _).upd rfl _).upd rfl _).upd rfl _).upd rfl _).upd rfl _).upd rfl _).upd rfl _).upd rfl _).upd rfl _).upd rfl _).upd rfl _).upd rfl _).upd rfl _).mask rfl _).upd rfl _).upd rfl _).upd rfl _).upd rfl _).upd rfl _).mask rfl _).upd rfl _).upd rfl _).upd rfl _).upd rfl _).upd rfl _).upd rfl _).upd rfl _).upd rfl _).upd rfl _).upd rfl _).mask rfl _).upd rfl _).upd rfl _).upd rfl _).mask rfl _).upd rfl _).upd rfl _).upd rfl _).upd rfl _), (m22, i22 + 1, (s50.2.2, s50.2.1)), ⟨(by dsimp only; omega), (by dsimp only; omega), e22, s52, rfl, S⟩, by dsimp only; omega⟩
 rintro g101 u102 ⟨s22, rfl, s23, S⟩
 have H := Ho22
 dsimp only [aft] at H
 refine zb (za (wd (zr rfl) (wd (zj zar rfl ((S.blk 1).all _ (Step.len _)) (Step.len _)) ?_)))
 obtain ⟨r103, er103, H⟩ := zp H
 replace S := S.front 2
 obtain ⟨B105, MB105, SB105, back⟩ := S.calln 2 ((.nil))
 refine zu (zo y2) (by decide) (y1 (a1 := s22.1) SB105 er103) ?_
 rintro _ w104 ⟨rfl, S2⟩
 replace S := back _ _ _ _ S2 rfl
 clear back S2 SB105
 refine wd (zk rfl rfl) (wd (zk rfl rfl) (wd (zf rfl) (wd (zf rfl) (zd (zn ?_)))))
 refine ⟨_, (zU (ze rfl) (ze rfl)), ?_⟩
 replace S := S.arr [0] []
 obtain rfl := Option.some.inj H
 exact ⟨rfl, S⟩
theorem zaE {rec_search_finder_decide : PFinder → Sq → Option (PFinder × Int × Int)} (hrec_search_finder_decide : ∀ {A : Nat → Prop} {N : Oth} {w : World} {a0 : PFinder} {a_0 : Option Addr} {g_0_1 : Option Addr} {a1 : Sq} (S : St A N w w [oF a_0 g_0_1 a0] [oTz]) {r : PFinder × Int × Int} (H : rec_search_finder_decide a0 a1 = some r), Calls PP yr #[.pointer a_0, .agg (Sq.C a1).toArray] w fun e w' => ∃ v, e = .returned v ∧ (v = .tuple #[.int .i64 r.2.1, .int .i64 r.2.2] ∧ St A N w w' [oF a_0 g_0_1 r.1] [])) {A : Nat → Prop} {N : Oth} {w : World} {a0 : PFinder} {a_0 : Option Addr} {g_0_1 : Option Addr} {a1 : Sq} (S : St A N w w [oF a_0 g_0_1 a0] [oTz]) {r : PFinder × Int × Int} (H : search_finder_decide.g rec_search_finder_decide a0 a1 = some r) :
  Calls PP yr #[.pointer a_0, .agg (Sq.C a1).toArray] w fun e w' => ∃ v, e = .returned v ∧ (v = .tuple #[.int .i64 r.2.1, .int .i64 r.2.2] ∧ St A N w w' [oF a_0 g_0_1 r.1] []) := by
 unfold search_finder_decide.g at H
 refine zw (n := 131) zaZ rfl rfl (by simp) (zb (za ?_))
 refine zJ rfl (by decide) fun b2 w1 hw1 => ?_
 replace S := S.new hw1
 refine wd (zf rfl) (wd (zf rfl) (zd (zb (zb ?_))))
 obtain ⟨p3, s5, m6, hp4, S⟩ := S.open_oF 1
 replace S := S
 refine yn 10 (Ext w1) hmix (by kernel_rfl) (by kernel_rfl) (Ext.drawn _) (zy (fun v K => zr rfl) (zy (fun v K => zH (congrArg Value.pointer hp4)) (zy (fun v K => zi fl_Finder_at_ rfl (o' := 2) rfl) (zy (fun v K => zm zaO rfl (((S.ext K).blk 0).cell (Finder.get_at_ _))) (zy (fun v K => zj xQ rfl (((S.ext K).blk 4).all _ (Sq.len _)) (Sq.len _)) (zy (fun v K => does_lookup_ok (C := mSqC) (D := (Value.int .i64)) (key := a1) (zv := 0) zaV key_Sq zv_int rfl rfl ((S.ext K).map 3)) (zy (fun v K => zK rfl) (zy (fun v K => zk rfl rfl) (zy (fun v K => zk rfl rfl) (zy (fun v K => zf rfl) ?_))))))))))
 refine vt fun w7 K => ?_
 replace S := S.ext K
 clear K
 refine wd (zl rfl) ?_
 replace S := ((S.front 3).front 3).front 3
 replace S := (S.front 3).shut_oF hp4
 refine zd (zb (za (wd (zB rfl) (zd ?_))))
 refine zC rfl (fun hc8 => ?_) (fun hc8 => ?_)
 ·replace H := if_t hc8 H
  refine zb (za (wd (zh rfl) (wd (zf rfl) (wd (zf rfl) (zd (zn ?_))))))
  refine ⟨_, (zU (ze rfl) (ze rfl)), ?_⟩
  replace S := S.arr [0] []
  obtain rfl := Option.some.inj H
  exact ⟨rfl, S⟩
 replace H := if_f hc8 H
 refine zt (zb (zb (za (wd (zr rfl) ?_))))
 obtain ⟨p9, s11, m12, hp10, S⟩ := S.open_oF 0
 replace S := S
 refine wd (zH (congrArg Value.pointer hp10)) (wd (zi kY rfl (o' := 3) rfl) (wd (zm zQ rfl ((S.blk 0).cell (Finder.get_left _))) (wd (zN rfl rfl) ?_)))
 replace S := ((S.front 3).front 3).front 3
 replace S := (S.front 3).shut_oF hp10
 refine zd ?_
 refine zC rfl (fun hc13 => ?_) (fun hc13 => ?_)
 ·replace H := if_t hc13 H
  refine zb (za (wd (zf rfl) (wd (zf rfl) (zd (zn ?_)))))
  refine ⟨_, (zU (ze rfl) (ze rfl)), ?_⟩
  replace S := S.arr [0] []
  obtain rfl := Option.some.inj H
  exact ⟨rfl, S⟩
 replace H := if_f hc13 H
 refine zt (zb (za (wd (zr rfl) ?_)))
 obtain ⟨p14, s16, m17, hp15, S⟩ := S.open_oF 0
 replace S := S
 refine wd (zH (congrArg Value.pointer hp15)) (wd (zi kY rfl (o' := 3) rfl) (wd (zm zQ rfl ((S.blk 0).cell (Finder.get_left _))) (wd (zbg rfl rfl) (wd (zH (congrArg Value.pointer hp15)) (wd (zi kY rfl (o' := 3) rfl) ?_)))))
 refine xi zQ rfl rfl (S.blk 0) (by rw [Finder.len]; decide) rfl (Finder.set_left _ _) fun w18 B hw18 zw18 => ?_
 replace S := S.store 0 B hw18
 clear B
 replace S := ((S.front 3).front 3).front 3
 replace S := (S.front 3).shut_oF hp15
 refine zd (zb (za (wd (zr rfl) ?_)))
 obtain ⟨p19, s21, m22, hp20, S⟩ := S.open_oF 0
 replace S := S
 refine wd (zH (congrArg Value.pointer hp20)) (wd (zi jT rfl (o' := 4) rfl) (wd (zm zQ rfl ((S.blk 0).cell (Finder.get_visits _))) (wd (does_add rfl rfl) (wd (zH (congrArg Value.pointer hp20)) (wd (zi jT rfl (o' := 4) rfl) ?_)))))
 refine xi zQ rfl rfl (S.blk 0) (by rw [Finder.len]; decide) rfl (Finder.set_visits _ _) fun w23 B hw23 zw23 => ?_
 replace S := S.store 0 B hw23
 clear B
 replace S := ((S.front 3).front 3).front 3
 replace S := (S.front 3).shut_oF hp20
 refine zd (zb ?_)
 obtain ⟨p24, s26, m27, hp25, S⟩ := S.open_oF 0
 replace S := S
 refine yn 12 (Ext w23) hmix (by kernel_rfl) (by kernel_rfl) (Ext.drawn _) (zy (fun v K => zr rfl) (zy (fun v K => zH (congrArg Value.pointer hp25)) (zy (fun v K => zi zav rfl (o' := 0) rfl) (zy (fun v K => zm zL rfl (((S.ext K).blk 0).cell (Finder.get_t _))) (zy (fun v K => zj xQ rfl (((S.ext K).blk 4).all _ (Sq.len _)) (Sq.len _)) ?_)))))
 obtain ⟨r28, er28, H⟩ := zp H
 refine wq_call (fun v => zo ca_rule_Apply) (fun v K => (have ⟨M, SS⟩ := (S.ext K).lend ((.o 1 rfl (.z 0 rfl .nil))); quiet (rule_Apply_st SS er28) (fun v w' h => ⟨h.1, _, _, h.2⟩))) (fun v v' K h => K.thenExt h) (zy (fun v K => zK rfl) (zy (fun v K => zk rfl rfl) (zy (fun v K => zk rfl rfl) (zy (fun v K => zk rfl rfl) (zy (fun v K => zf rfl) (zy (fun v K => zf rfl) ?_))))))
 refine vt fun w29 K => ?_
 replace S := S.ext K
 clear K
 refine wd (zf rfl) ?_
 replace S := ((S.front 3).front 3).front 3
 replace S := (S.front 3).shut_oF hp25
 refine zd (zb (zb (za (wd (zh rfl) (wd (xc rfl rfl) (zd ?_))))))
 refine zC rfl (fun hc30 => ?_) (fun hc30 => ?_)
 ·replace H := if_t hc30 H
  refine zb (za (wd (zh rfl) (wd (zf rfl) (wd (zf rfl) (zd (zn ?_))))))
  refine ⟨_, (zU (ze rfl) (ze rfl)), ?_⟩
  replace S := S.arr [0] []
  obtain rfl := Option.some.inj H
  exact ⟨rfl, S⟩
 replace H := if_f hc30 H
 refine zt (zb (zb (za (wd (zh rfl) (wd (zN rfl rfl) (zd ?_))))))
 refine zC rfl (fun hc31 => ?_) (fun hc31 => ?_)
 ·replace H := if_t hc31 H
  refine zb (za (wd (zr rfl) (wd (zj xQ rfl ((S.blk 1).all _ (Sq.len _)) (Sq.len _)) ?_)))
  obtain ⟨r32, er32, H⟩ := zp H
  obtain ⟨B34, MB34, SB34, back⟩ := S.calln 1 ((.z 0 rfl .nil))
  refine zu (zo zaN) (by decide) (zaA hrec_search_finder_decide SB34 er32) ?_
  rintro _ w33 ⟨rfl, S2⟩
  replace S := back _ _ _ _ S2 rfl
  clear back S2 SB34
  refine wd (zk rfl rfl) (wd (zk rfl rfl) (wd (zf rfl) (wd (zf rfl) (zd (zn ?_)))))
  refine ⟨_, (zU (ze rfl) (ze rfl)), ?_⟩
  replace S := S.arr [0] []
  obtain rfl := Option.some.inj H
  exact ⟨rfl, S⟩
 replace H := if_f hc31 H
 refine zt (zb ?_)
 obtain ⟨p35, s37, m38, hp36, S⟩ := S.open_oF 0
 replace S := S
 refine wc_ws hmix fun w40 K => ?_
 replace S := S.ext K
 clear K
 refine vW 0 7 [] (by kernel_rfl) (by decide) (by kernel_rfl)
  (V := fun i v u => match i with
  | _ => True) ?_ ?_
 ·intro i v u u' hi hx hv
  match i, hv with
  | _, _ => exact trivial
 refine zz (fun v K => zr rfl) rfl (zz (fun v K => zH (congrArg Value.pointer hp36)) rfl (zz (fun v K => zi zav rfl (o' := 0) rfl) rfl (zz (fun v K => zm zL rfl (((S.ext K).blk 0).cell (Finder.get_t _))) rfl (zz (fun v K => zj xQ rfl (((S.ext K).blk 4).all _ (Sq.len _)) (Sq.len _)) rfl (zz (fun v K => zh rfl) rfl (zz (fun v K => zh rfl) rfl ?_))))))
 refine yQ fun g w41 K hV => ?_
 replace S := S.ext K
 clear K hV
 refine kk 7 9 (by kernel_rfl) (by decide) ?_
 obtain ⟨r43, er43, H⟩ := zp H
 replace S := S.front 1
 obtain ⟨B45, MB45, SB45, back⟩ := S.calln 1 ((.z 0 rfl .nil))
 refine zu (zo zbh) (by decide) (zbd SB45 er43) ?_
 rintro _ w44 ⟨s46, rfl, S2⟩
 replace S := back _ _ _ _ S2 rfl
 clear back S2 SB45
 refine wd (zK rfl) (zd ⟨rfl, ?_⟩)
 refine vW 9 12 [] (by kernel_rfl) (by decide) (by kernel_rfl)
  (V := fun i v u => match i with
  | _ => True) ?_ ?_
 ·intro i v u u' hi hx hv
  match i, hv with
  | _, _ => exact trivial
 refine zz (fun v K => zk rfl rfl) rfl (zz (fun v K => zk rfl rfl) rfl (zz (fun v K => xa rfl) rfl ?_))
 refine yQ fun g w47 K hV => ?_
 replace S := S.ext K
 clear K hV
 refine zap 12 (by kernel_rfl) (by decide) (wd (zf rfl) ?_)
 replace S := ((S.front 4).front 4).front 2
 replace S := (S.front 4).shut_oF hp36
 refine zd (zb (zb (za (wd (zh rfl) (wd (xc rfl rfl) (zd ?_))))))
 refine zC rfl (fun hc49 => ?_) (fun hc49 => ?_)
 ·replace H := if_t hc49 H
  refine zb (za (wd (zh rfl) (wd (zf rfl) (wd (zf rfl) (zd (zn ?_))))))
  refine ⟨_, (zU (ze rfl) (ze rfl)), ?_⟩
  replace S := S.arr [0] []
  obtain rfl := Option.some.inj H
  exact ⟨rfl, S⟩
 replace H := if_f hc49 H
 refine zt (zb (za (wd (zj xQ rfl ((S.blk 2).all _ (Sq.len _)) (Sq.len _)) (wd (zh rfl) (wd (zh rfl) (wd (Does.to (v' := .agg (Step.C (⟨a1, true, r28.1, r28.2.1, SlV.nil⟩ : Step)).toArray) (xh (vs := [(0, .agg (Sq.C a1).toArray), (1, .bool true), (2, .int .i64 r28.1), (3, .int .i64 r28.2.1)]) bu_Step (x6 rfl (x6 rfl (x6 rfl (x6 rfl rfl)))) (Bld.step rfl rfl (Sq.len _) (by rw [Step.len]; decide) (Step.put_seq _ _) (Bld.one rfl rfl (by rw [Step.len]; decide) (Step.set_proved _ _) (Bld.one rfl rfl (by rw [Step.len]; decide) (Step.set_rule _ _) (Bld.one rfl rfl (by rw [Step.len]; decide) (Step.set_main _ _) Bld.nil))))) rfl) ?_))))))
 refine zP ze_Step (by decide) fun b51 w50 hw50 => ?_
 replace S := S.new hw50
 refine zx zar rfl rfl (S.blk 0) (Step.len _) (by rw [Step.len]; decide) (Step.one _) (zG (Step.len _)) fun w52 B hw52 zw52 => ?_
 replace S := S.store 0 B hw52
 clear B
 refine zd (zb (zb (za (wd (zR rfl) (wd (xG x5 rfl (S.rdO 2)) (wd (zh rfl) (zd ?_)))))))
 replace S := S.nil zX 1 IC
 obtain ⟨o53, e53, Ho53⟩ := zp H
 clear H
 refine yT [4, 5, 14, 15, 16, 87, 88, 89, 90, 91, 92, 93, 94, 95, 96, 97, 98, 99, 100, 101, 102, 103, 104, 105, 106, 107, 108, 109, 110, 111, 112, 113, 114, 115, 116, 117, 118, 119, 120, 121, 122, 123, 124, 125] (fun fr W => ∃ s53 : PStep × PFinder, o53 = .inl s53 ∧ ∃ s54 : SlV, St A N w W [oS zX 1 IC s54 s53.1.kids, oB b51 vE (Step.C (⟨s53.1.seq, s53.1.proved, s53.1.rule, s53.1.main, s54⟩ : Step)), oF a_0 g_0_1 s53.2, oS T_Sq 17 Sq.C s46 r43.2.1, oB b2 T_Sq (Sq.C a1)] [oTz]) ?_ ?_
 ·refine zF ?_
  refine yp (α := Nat × Int × (PStep × PFinder)) [4, 5, 14, 15, 16, 87, 88, 89, 90, 91, 92, 93, 94, 95, 96, 97, 98, 99, 100, 101, 102, 103, 104, 105, 106, 107, 108, 109, 110, 111, 112, 113, 114, 115, 116, 117, 118, 119, 120, 121, 122, 123, 124, 125] (fun x fr W => (x.1 : Int) = (r43.2.1.length : Int) - x.2.1 ∧ 0 ≤ x.2.1 ∧ forN (fun i s => search_finder_decide.b0 rec_search_finder_decide r43 a1 r28 i s.1 s.2) x.1 x.2.1 x.2.2 = some o53 ∧ ∃ s55 : SlV, fr 87 = .int .i64 x.2.1 ∧ St A N w W [oS zX 1 IC s55 ((x.2.2.1).kids), oB b51 vE (Step.C (⟨(x.2.2.1).seq, (x.2.2.1).proved, (x.2.2.1).rule, (x.2.2.1).main, s55⟩ : Step)), oF a_0 g_0_1 (x.2.2.2), oS T_Sq 17 Sq.C s46 r43.2.1, oB b2 T_Sq (Sq.C a1)] [oTz]) (fun x => x.1) (((r43.2.1.length : Int) - 0).toNat, 0, ((⟨a1, true, r28.1, r28.2.1, ([] : List Int)⟩ : PStep), (⟨r43.1, a0.steps, a0.at_, IntKind.i64.wrap (a0.left - 1), IntKind.i64.wrap (a0.visits + 1)⟩ : PFinder))) ⟨(by dsimp only; have hle := Int.natCast_nonneg (r43.2.1.length); omega), (Int.le_refl _), (by dsimp only; exact e53), SlV.nil, rfl, S⟩ ?_
  rintro ⟨m53, i53, ⟨x53_0, x53_1⟩⟩ g53 u53 ⟨hm53, hl53, e53, s56, q53_i, S⟩
  try dsimp only at hm53
  try dsimp only at hl53
  try dsimp only at e53
  try dsimp only at S
  try dsimp only at q53_i
  refine zb (za (wd (xm q53_i rfl) (zd (zb ?_))))
  refine zC rfl (fun hc57 => ?_) (fun hc57 => ?_)
  rotate_left
  ·refine yf ?_
   have hge : (r43.2.1.length : Int) ≤ i53 := Int.not_lt.1 (of_decide_eq_false hc57)
   obtain rfl : m53 = 0 := by omega
   replace e53 := zaG e53
   exact ⟨rfl, ((Dif.self _ _ _).upd rfl _), (x53_0, x53_1), e53, s56, S⟩
  refine zt ?_
  have hlt53 : i53 < (r43.2.1.length : Int) := of_decide_eq_true hc57
  obtain ⟨m53, rfl⟩ : ∃ m, m53 = m + 1 := ⟨m53 - 1, by omega⟩
  obtain ⟨q53, H, e53⟩ := zay e53
  unfold search_finder_decide.b0 at H
  try dsimp only at H
  have hb53 := (S.lenO 3)
  refine zb ?_
  refine zF (zb (za (wd (zZ x5 rfl q53_i (S.rdO 3) (And.intro (show 0 ≤ i53 by omega) (show i53 < (r43.2.1.length : Int) from hlt53)).1 (And.intro (show 0 ≤ i53 by omega) (show i53 < (r43.2.1.length : Int) from hlt53)).2) (wd (zj xQ rfl ((S.rdO 3).at (yg Sq.z (And.intro (show 0 ≤ i53 by omega) (show i53 < (r43.2.1.length : Int) from hlt53)))) (Sq.len _)) ?_))))
  refine zP ze_Sq (by decide) fun b60 w59 hw59 => ?_
  replace S := S.new hw59
  refine zx xQ rfl rfl (S.blk 0) (Sq.len _) (by rw [Sq.len]; decide) (Sq.one _) (zG (Sq.len _)) fun w61 B hw61 zw61 => ?_
  replace S := S.store 0 B hw61
  clear B
  refine zd (zb (za (wd (zr rfl) (wd (zj xQ rfl ((S.blk 0).all _ (Sq.len _)) (Sq.len _)) ?_))))
  obtain ⟨r62, er62, H⟩ := zp H
  replace S := S.front 3
  obtain ⟨B64, MB64, SB64, back⟩ := S.calln 1 ((.z 0 rfl .nil))
  refine zu (zo v8) (by decide) (hrec_search_finder_decide SB64 er62) ?_
  rintro _ w63 ⟨rfl, S2⟩
  replace S := back _ _ _ _ S2 rfl
  clear back S2 SB64
  refine wd (zK rfl) (wd (zk rfl rfl) (wd (zk rfl rfl) (wd (zf rfl) (wd (zf rfl) (zd (zb (zb (za (wd (zh rfl) (wd (xc rfl rfl) (zd ?_)))))))))))
  refine zC rfl (fun hc65 => ?_) (fun hc65 => ?_)
  ·replace H := if_t hc65 H
   refine zb (za (wd (zh rfl) (wd (zf rfl) (wd (zf rfl) (zd (zn ?_))))))
   refine ⟨_, (zU (ze rfl) (ze rfl)), ?_⟩
   replace S := S.arr [0] []
   obtain rfl := Option.some.inj H
   obtain rfl := e53
   obtain rfl := uV Ho53
   exact ⟨rfl, S⟩
  replace H := if_f hc65 H
  refine zt (zb (zb (za (wd (zr rfl) ?_))))
  obtain ⟨p66, s68, m69, hp67, S⟩ := S.open_oF 0
  replace S := S
  refine wd (zH (congrArg Value.pointer hp67)) (wd (zi yO rfl (o' := 1) rfl) (wd (zm vh rfl ((S.blk 0).cell (Finder.get_steps _))) (wd (zh rfl) ?_)))
  obtain ⟨hi70, H⟩ := xK H
  refine wd (does_indexD vS rfl rfl (S.onO 2) (xv hi70).1 (xv hi70).2) (wd (zi uI rfl (o' := _) rfl) (wd (zm vx rfl (oD.cell (z := PStep.z) (S.onO 2) (xv hi70) (fun _ => jH.get_proved))) (wd (xk rfl) ?_)))
  replace S := ((S.front 3).front 3).front 3
  replace S := (S.front 3).shut_oF hp67
  refine zd ?_
  refine zC rfl (fun hc71 => ?_) (fun hc71 => ?_)
  ·replace H := if_t hc71 H
   refine zb (za (wd (zr rfl) (wd (zj xQ rfl ((S.blk 5).all _ (Sq.len _)) (Sq.len _)) (wd (zh rfl) (wd (zh rfl) (wd (zh rfl) ?_))))))
   refine xx (C := IC) (l := [r62.2.1]) (vs := [.int .i64 r62.2.1]) zY yh.zero rfl rfl (fun _ _ => rfl) (by decide) rfl (by decide) fun b73 w72 s74 hBw72 hw72 => ?_
   replace S := S.lit hBw72 hw72 (by simp)
   refine wd (Does.to (v' := .agg (Step.C (⟨a1, false, r28.1, r28.2.1, s74⟩ : Step)).toArray) (xh (vs := [(0, .agg (Sq.C a1).toArray), (2, .int .i64 r28.1), (3, .int .i64 r28.2.1), (4, s74.v)]) bu_Step (x6 rfl (x6 rfl (x6 rfl (x6 rfl rfl)))) (Bld.step rfl rfl (Sq.len _) (by rw [Step.len]; decide) (Step.put_seq _ _) (Bld.one rfl rfl (by rw [Step.len]; decide) (Step.set_rule _ _) (Bld.one rfl rfl (by rw [Step.len]; decide) (Step.set_main _ _) (Bld.one rfl (SlV.one _ _ rfl) (by rw [Step.len]; decide) (Step.set_kids _ _) Bld.nil))))) rfl) ?_
   obtain ⟨r75, er75, H⟩ := zp H
   replace S := S.front 1
   obtain ⟨B77, MB77, SB77, back⟩ := S.calln 2 ((.nil))
   refine zu (zo y2) (by decide) (y1 (a1 := (⟨a1, false, r28.1, r28.2.1, [r62.2.1]⟩ : PStep)) SB77 er75) ?_
   rintro _ w76 ⟨rfl, S2⟩
   replace S := back _ _ _ _ S2 rfl
   clear back S2 SB77
   refine wd (zk rfl rfl) (wd (zk rfl rfl) (wd (zf rfl) (wd (zf rfl) (zd (zn ?_)))))
   refine ⟨_, (zU (ze rfl) (ze rfl)), ?_⟩
   replace S := S.arr [0] []
   obtain rfl := Option.some.inj H
   obtain rfl := e53
   obtain rfl := uV Ho53
   exact ⟨rfl, S⟩
  replace H := if_f hc71 H
  refine zt (za (wd (zi um rfl (o' := 20) rfl) (wd (zm va rfl ((S.blk 3).cell (Step.get_kids _))) (wd (zh rfl) ?_))))
  refine xx (C := IC) (l := [r62.2.1]) (vs := [.int .i64 r62.2.1]) zY yh.zero rfl rfl (fun _ _ => rfl) (by decide) rfl (by decide) fun b79 w78 s80 hBw78 hw78 => ?_
  replace S := S.lit hBw78 hw78 (by simp)
  obtain ⟨ha83, H⟩ := xK H
  have ha83 := of_decide_eq_true ha83
  refine yK (C := IC) zY yh rfl rfl (S.sl 3) (S.rdO 0) (by simp) (fun a _ v hv => by rw [List.mem_singleton.1 hv]; rfl) ha83 (by omega) (by decide) fun s82 w81 O hw81 gw81 => ?_
  replace S := S.push 3 O (by first | (simp; done) | (simp; omega)) hw81 gw81
  clear O
  refine wd (zi um rfl (o' := 20) rfl) ?_
  refine xi va rfl rfl (S.blk 4) (by rw [Step.len]; decide) (SlV.one _ _ rfl) (Step.set_kids _ _) fun w84 B hw84 zw84 => ?_
  replace S := S.store 4 B hw84
  clear B
  refine zd (za (wd (xg q53_i rfl (c := i53 + 1) rfl (by omega) (by omega)) (wd (zh rfl) (zd ?_))))
  replace S := S.arr [1, 0, 3, 5, 6] [0]
  obtain rfl := Option.some.inj H
  exact ⟨rfl, ((((((((((((((((((((((((((((((((Dif.self _ _ _).upd rfl _).upd rfl _).upd rfl _).upd rfl _).upd rfl _).upd rfl _).upd rfl _).upd rfl _).upd rfl _).upd rfl _).upd rfl _).upd rfl _).upd rfl _).upd rfl _).upd rfl _).upd rfl _).upd rfl _).upd rfl _).upd rfl _).upd rfl _).upd rfl _).upd rfl _).upd rfl _).upd rfl _).upd rfl _).upd rfl _).upd rfl _).upd rfl _).upd rfl _).upd rfl _).upd rfl _), (m53, i53 + 1, ((⟨x53_0.seq, x53_0.proved, x53_0.rule, x53_0.main, x53_0.kids ++ [r62.2.1]⟩ : PStep), r62.1)), ⟨(by dsimp only; omega), (by dsimp only; omega), e53, s82, rfl, S⟩, by dsimp only; omega⟩
 rintro g85 u86 ⟨s53, rfl, s54, S⟩
 have H := Ho53
 dsimp only [aft] at H
 refine zb (za (wd (zr rfl) (wd (zj zar rfl ((S.blk 1).all _ (Step.len _)) (Step.len _)) ?_)))
 obtain ⟨r87, er87, H⟩ := zp H
 replace S := S.front 2
 obtain ⟨B89, MB89, SB89, back⟩ := S.calln 2 ((.nil))
 refine zu (zo y2) (by decide) (y1 (a1 := s53.1) SB89 er87) ?_
 rintro _ w88 ⟨rfl, S2⟩
 replace S := back _ _ _ _ S2 rfl
 clear back S2 SB89
 refine wd (zk rfl rfl) (wd (zk rfl rfl) (wd (zf rfl) (wd (zf rfl) (zd (zn ?_)))))
 refine ⟨_, (zU (ze rfl) (ze rfl)), ?_⟩
 replace S := S.arr [0] []
 obtain rfl := Option.some.inj H
 exact ⟨rfl, S⟩
theorem zaU {A : Nat → Prop} {N : Oth} {w : World} {a0 : PFinder} {a_0 : Option Addr} {g_0_1 : Option Addr} {a1 : Sq} (S : St A N w w [oF a_0 g_0_1 a0] [oTz]) {k : Nat} {r : PFinder × Int × Int} (H : search_finder_decide.f k a0 a1 = some r) :
  Calls PP yr #[.pointer a_0, .agg (Sq.C a1).toArray] w fun e w' => ∃ v, e = .returned v ∧ (v = .tuple #[.int .i64 r.2.1, .int .i64 r.2.2] ∧ St A N w w' [oF a_0 g_0_1 r.1] []) := by
 have main : ∀ (k : Nat) {A : Nat → Prop} {N : Oth} {w : World} {a0 : PFinder} {a_0 : Option Addr} {g_0_1 : Option Addr} {a1 : Sq} (S : St A N w w [oF a_0 g_0_1 a0] [oTz]) {r : PFinder × Int × Int} (H : search_finder_decide.f k a0 a1 = some r), Calls PP yr #[.pointer a_0, .agg (Sq.C a1).toArray] w fun e w' => ∃ v, e = .returned v ∧ (v = .tuple #[.int .i64 r.2.1, .int .i64 r.2.2] ∧ St A N w w' [oF a_0 g_0_1 r.1] []) := by
  intro k
  induction k with
  | zero => intro A N w a0 a_0 g_0_1 a1 S r H; cases H
  | succ k ih => intro A N w a0 a_0 g_0_1 a1 S r H; exact zaE ih S H
 exact main k S H
theorem search_Run_st {A : Nat → Prop} {N : Oth} {w : World} {a0 : Tb} {a_0 : Option Addr} {a1 : Sq} {a2 : Int} (S : St A N w w [oT a_0 a0] [oTz]) {k : Nat} {r : Tb × PFound × Int} (H : search_Run.f k a0 a1 a2 = some r) :
  Calls PP F_search_Run #[.pointer a_0, .agg (Sq.C a1).toArray, .int .i64 a2] w fun e w' => ∃ v, e = .returned v ∧ (∃ so0 : SlV, v = .tuple #[.agg (Found.C (⟨r.2.1.proved, so0, r.2.1.visits⟩ : Found)).toArray, .int .i64 r.2.2] ∧ St A N w w' [oT a_0 r.1, zaB so0 r.2.1.steps] []) := by
 unfold search_Run.f at H
 refine zw (n := 88) fn_search_Run rfl rfl (by simp) (zb (za ?_))
 refine kX rfl (by decide) fun b2 w1 hw1 => ?_
 replace S := S.new hw1
 refine zJ rfl (by decide) fun b4 w3 hw3 => ?_
 replace S := S.new hw3
 refine zP ze_Found (by decide) fun b6 w5 hw5 => ?_
 replace S := S.new hw5
 refine zP ze_api_Errno (by decide) fun b8 w7 hw7 => ?_
 replace S := S.new hw7
 refine zd (zb (zb (za (wd (zm zL rfl ((S.blk 3).cell rfl)) ?_))))
 obtain ⟨r9, er9, H⟩ := zp H
 obtain ⟨B11, MB11, SB11, back⟩ := S.calln 0 ((.o 4 rfl .nil))
 refine zu (zo uM) (by decide) (vP SB11 rfl er9) ?_
 rintro _ w10 ⟨rfl, S2⟩
 replace S := back _ _ _ _ S2 rfl
 clear back S2 SB11
 refine wd (zK rfl) (wd (zk rfl rfl) (wd (zk rfl rfl) (wd (zf rfl) (wd (zf rfl) (zd (zb (za (wd (zh rfl) (wd (zN rfl rfl) (zd ?_))))))))))
 refine zC rfl (fun hc12 => ?_) (fun hc12 => ?_)
 ·replace H := if_t hc12 H
  refine zb (za (wd (Does.to (v' := .agg (Found.C (⟨false, SlV.nil, 0⟩ : Found)).toArray) (xh (vs := []) zaX rfl Bld.nil) rfl) (wd (zh rfl) ?_)))
  refine zx ub rfl rfl (S.blk 1) (Found.len _) (by rw [Found.len]; decide) (Found.one _) (zG (Found.len _)) fun w13 B hw13 zw13 => ?_
  replace S := S.store 1 B hw13
  clear B
  refine xi xy rfl rfl (S.blk 1) (by simp) rfl rfl fun w14 B hw14 zw14 => ?_
  replace S := S.store 1 B hw14
  clear B
  refine zd (zn ?_)
  replace S := S.nilD vE 21 Step.C jH
  refine ⟨_, (zU (zV ub rfl ((S.blk 2).all _ (Found.len _)) (Found.len _)) (yw xy rfl ((S.blk 1).cell rfl))), ?_⟩
  replace S := S.arr [5, 0] []
  obtain rfl := Option.some.inj H
  exact ⟨SlV.nil, rfl, S⟩
 replace H := if_f hc12 H
 refine zt (zb (zb (za (wd (zi yC rfl (o' := 0) rfl) (wd (zj xd rfl ((S.blk 2).cells (Sq.sub_left _)) (Bits.len _)) ?_)))))
 refine zu (zo jq) (by decide) (jt _ a1.left) ?_
 rintro _ w15 ⟨c16, rfl, Bc16, hc16, Ec16⟩
 replace S := S.addZ (b := oB c16 vT (Bits.C a1.left)) (G := (· = c16)) Ec16 ⟨Bc16, fun _ => Iff.rfl⟩ (fun i hi => by rw [hi]; exact hc16)
 refine zd ?_
 refine zF ?_
 replace S := S.nilD vE 21 Step.C jH
 obtain ⟨hok17, H⟩ := xK H
 obtain ⟨o18, e18, Ho18⟩ := zp H
 clear H
 refine j5 (xs := Bits.list a1.left) (enc := fun (x : Nat) => Value.int .i64 (x : Int)) (bd := (fun (x : Nat) (s : Int × PFound) => search_Run.b0 a0 (x : Int) s.1 s.2)) (L := (fun (s : Int × PFound) (c : SlV) => [zaB c s.2.steps, oB b8 zas [.int .i64 s.1], oB b6 T_Found (Found.C (⟨s.2.proved, c, s.2.visits⟩ : Found)), oB b4 T_Sq (Sq.C a1), oB b2 zT [.pointer a_0], oT a_0 a0])) (Lr := (fun (s : Int × PFound) (c : SlV) => [zaB c s.2.steps, oB b8 zas [.int .i64 s.1], oB b6 T_Found (Found.C (⟨s.2.proved, c, s.2.visits⟩ : Found)), oB b4 T_Sq (Sq.C a1), oB b2 zT [.pointer a_0], oT a_0 a0])) (Z := [oB c16 vT (Bits.C a1.left), oTz]) SlV.nil false 0 rfl ur (vo (Bits.okB_ok hok17) c16) (by decide) (fun N' s c W h => ⟨h.blkZ 0, h.tz 1⟩) S e18 ?_ ?_ ?_ ?_
 ·rintro i18 ⟨x18_0, x18_1⟩ s19 q18 N18 rd u18 H S
  replace S := S
  refine za (wd (zf rfl) (zd ?_))
  refine ⟨rfl, S, fun M18 v18 S => ?_⟩
  replace S := S
  replace H : search_Run.b0 a0 (i18 : Int) x18_0 x18_1 = some q18 := H
  unfold search_Run.b0 at H
  try dsimp only at H
  refine zF (zb (za (wd (zh rfl) (wd (zm zL rfl ((S.blk 4).cell rfl)) ?_))))
  obtain ⟨r20, er20, H⟩ := zp H
  obtain ⟨B22, MB22, SB22, back⟩ := S.calln 0 ((.o 5 rfl .nil))
  refine zu (zo ym) (by decide) (yl SB22 er20) ?_
  rintro _ w21 ⟨rfl, S2⟩
  replace S := back _ _ _ _ S2 rfl
  clear back S2 SB22
  refine wd (vz rfl rfl) (zd ?_)
  refine zC rfl (fun hc23 => ?_) (fun hc23 => ?_)
  ·replace H := if_t hc23 H
   refine zb (za (wd (Does.to (v' := .agg (Found.C (⟨false, SlV.nil, 0⟩ : Found)).toArray) (xh (vs := []) zaX rfl Bld.nil) rfl) ?_))
   refine zx ub rfl rfl (S.blk 2) (Found.len _) (by rw [Found.len]; decide) (Found.one _) (zG (Found.len _)) fun w24 B hw24 zw24 => ?_
   replace S := S.store 2 B hw24
   clear B
   refine xi xy rfl rfl (S.blk 2) (by simp) rfl rfl fun w25 B hw25 zw25 => ?_
   replace S := S.store 2 B hw25
   clear B
   refine zd (zn ?_)
   replace S := (S.nilD vE 21 Step.C jH).arr [0, 1, 2, 4, 5, 6] [0, 1]
   obtain rfl := Option.some.inj H
   exact ⟨_, rfl, SlV.nil, S⟩
  replace H := if_f hc23 H
  refine zt ?_
  obtain rfl := Option.some.inj H
  exact ⟨_, rfl, s19, S⟩
 ·rintro s18 s27 B18 w26 rfl S hB18
  replace S := S
  have H := Ho18
  dsimp only [fin] at H
  refine zb (zb ?_)
  refine yn 8 (Ext w26) hmix (by kernel_rfl) (by kernel_rfl) (Ext.drawn _) (zy (fun v K => zi yE rfl (o' := 16) rfl) (zy (fun v K => zm zQ rfl (((S.ext K).blk 3).cell (Sq.get_goal _))) (zy (fun v K => xm rfl rfl) (zy (fun v K => zB rfl) (zaW (j := 3) (pol := false) rfl rfl rfl (fun hg v K => zi yE rfl (o' := 16) rfl) (zaW (j := 3) (pol := false) rfl rfl rfl (fun hg v K => zm zQ (zq hg) (((S.ext K).blk 3).cell (Sq.get_goal _))) (zaW (j := 3) (pol := false) rfl rfl rfl (fun hg v K => zm zL rfl (((S.ext K).blk 4).cell rfl)) ?_)))))))
  obtain ⟨r28, er28, H⟩ := zp H
  refine wq_gcall (j := 3) (pol := false) rfl rfl rfl (fun hg v => zM ym (zO (zq hg) rfl)) (fun hg v K => (have ⟨M, SS⟩ := (S.ext K).lend ((.o 5 rfl .nil)); quiet (yl SS (if_t (by simpa using hg) er28)) (fun v w' h => ⟨h.1, _, _, h.2⟩))) (fun v v' K h => K.thenExt h) ?_
  refine vt fun w29 K => ?_
  replace S := S.ext K
  clear K
  refine wg (fun hg => vz (zq hg) (zq hg)) (wd (xU rfl (fun hp => (zq (xF hp)))) (zd ?_))
  refine zC rfl (fun hc30 => ?_) (fun hc30 => ?_)
  ·replace H := if_t hc30 H
   refine zb (za (wd (Does.to (v' := .agg (Found.C (⟨false, SlV.nil, 0⟩ : Found)).toArray) (xh (vs := []) zaX rfl Bld.nil) rfl) ?_))
   refine zx ub rfl rfl (S.blk 2) (Found.len _) (by rw [Found.len]; decide) (Found.one _) (zG (Found.len _)) fun w31 B hw31 zw31 => ?_
   replace S := S.store 2 B hw31
   clear B
   refine xi xy rfl rfl (S.blk 2) (by simp) rfl rfl fun w32 B hw32 zw32 => ?_
   replace S := S.store 2 B hw32
   clear B
   refine zd (zn ?_)
   refine end1 (.inl rfl) (S.take hB18).1 fun w33 hcw33 => ?_
   replace S := ((S.take hB18).2 _ hcw33).nilD vE 21 Step.C jH
   refine ⟨_, (zU (zV ub rfl ((S.blk 2).all _ (Found.len _)) (Found.len _)) (yw xy rfl ((S.blk 1).cell rfl))), ?_⟩
   replace S := S.arr [6, 0] []
   obtain rfl := Option.some.inj H
   exact ⟨SlV.nil, rfl, S⟩
  replace H := if_f hc30 H
  refine zt (zb (zb (za (wd (zh rfl) (wd (xm rfl rfl) (wd (zB rfl) (wg (fun hg => zh rfl) (wg (fun hg => does_gt (zq hg) rfl) (wd (xU rfl (fun hp => (zq (xF hp)))) (zd ?_))))))))))
  refine zC rfl (fun hc34 => ?_) (fun hc34 => ?_)
  ·replace H := if_t hc34 H
   refine zb (za (wd (Does.to (v' := .agg (Found.C (⟨false, SlV.nil, 0⟩ : Found)).toArray) (xh (vs := []) zaX rfl Bld.nil) rfl) ?_))
   refine zx ub rfl rfl (S.blk 2) (Found.len _) (by rw [Found.len]; decide) (Found.one _) (zG (Found.len _)) fun w35 B hw35 zw35 => ?_
   replace S := S.store 2 B hw35
   clear B
   refine xi xy rfl rfl (S.blk 2) (by simp) rfl rfl fun w36 B hw36 zw36 => ?_
   replace S := S.store 2 B hw36
   clear B
   refine zd (zn ?_)
   refine end1 (.inl rfl) (S.take hB18).1 fun w37 hcw37 => ?_
   replace S := ((S.take hB18).2 _ hcw37).nilD vE 21 Step.C jH
   refine ⟨_, (zU (zV ub rfl ((S.blk 2).all _ (Found.len _)) (Found.len _)) (yw xy rfl ((S.blk 1).cell rfl))), ?_⟩
   replace S := S.arr [6, 0] []
   obtain rfl := Option.some.inj H
   exact ⟨SlV.nil, rfl, S⟩
  replace H := if_f hc34 H
  refine zt (zb (za (wd (zm zL rfl ((S.blk 4).cell rfl)) ?_)))
  obtain ⟨r38, er38, H⟩ := zp H
  obtain ⟨B40, MB40, SB40, back⟩ := S.calln 0 ((.o 5 rfl .nil))
  refine zu (zo ym) (by decide) (yl SB40 er38) ?_
  rintro _ w39 ⟨rfl, S2⟩
  replace S := back _ _ _ _ S2 rfl
  clear back S2 SB40
  refine wd (zf rfl) (zd (zb (za (wd (zm zL rfl ((S.blk 4).cell rfl)) ?_))))
  refine wl_makeMap (C := mSqC) (D := (Value.int .i64)) (by decide) fun m41 w42 hmw42 hxw42 hlw42 => ?_
  replace S := S.newM hmw42 hxw42 hlw42
  refine wd (zh rfl) (wd (Does.to (v' := .agg (Finder.C (⟨a_0, SlV.nil, (some m41), a2, 0⟩ : Finder)).toArray) (xh (vs := [(0, .pointer a_0), (2, .map (some m41)), (3, .int .i64 a2)]) bu_Finder (x6 rfl (x6 rfl (x6 rfl rfl))) (Bld.one rfl rfl (by rw [Finder.len]; decide) (Finder.set_t _ _) (Bld.one rfl rfl (by rw [Finder.len]; decide) (Finder.set_at_ _ _) (Bld.one rfl rfl (by rw [Finder.len]; decide) (Finder.set_left _ _) Bld.nil)))) rfl) ?_)
  refine zJ rfl (by decide) fun b44 w43 hw43 => ?_
  replace S := ((S.new hw43).nilD vE 21 Step.C jH).front 2
  replace S := ((S.front 1).front 8).front 3
  replace S := S.shut_oF rfl
  refine wd (xj rfl) (zd (zb (za (wd (zr rfl) (wd (zj xQ rfl ((S.blk 4).all _ (Sq.len _)) (Sq.len _)) ?_)))))
  obtain ⟨r45, er45, H⟩ := zp H
  obtain ⟨B47, MB47, SB47, back⟩ := S.calln 1 ((.z 1 rfl .nil))
  refine zu (zo v8) (by decide) (zaU SB47 er45) ?_
  rintro _ w46 ⟨rfl, S2⟩
  replace S := back _ _ _ _ S2 rfl
  clear back S2 SB47
  refine wd (zK rfl) (wd (zk rfl rfl) (wd (zk rfl rfl) (wd (zf rfl) (wd (zf rfl) (zd (zb (zb (za (wd (zh rfl) (wd (xc rfl rfl) (zd ?_)))))))))))
  refine zC rfl (fun hc48 => ?_) (fun hc48 => ?_)
  ·replace H := if_t hc48 H
   refine zb (za (wd (zm zL rfl ((S.blk 5).cell rfl)) (wd (zh rfl) ?_)))
   obtain ⟨p49, s51, m52, hp50, S⟩ := S.open_oF 0
   replace S := S
   obtain ⟨r53, er53, H⟩ := zp H
   replace S := S.front 1
   obtain ⟨B55, MB55, SB55, back⟩ := S.calln 1 ((.nil))
   refine zu (zo kb) (by decide) (j9 SB55 er53) ?_
   rintro _ w54 ⟨rfl, S2⟩
   replace S := back _ _ _ _ S2 rfl
   clear back S2 SB55
   replace S := ((S.front 3).front 3).front 2
   replace S := (S.front 3).shut_oF hp50
   refine zd (zb (za (wd (Does.to (v' := .agg (Found.C (⟨false, SlV.nil, 0⟩ : Found)).toArray) (xh (vs := []) zaX rfl Bld.nil) rfl) (wd (zh rfl) ?_))))
   refine zx ub rfl rfl (S.blk 3) (Found.len _) (by rw [Found.len]; decide) (Found.one _) (zG (Found.len _)) fun w56 B hw56 zw56 => ?_
   replace S := S.store 3 B hw56
   clear B
   refine xi xy rfl rfl (S.blk 3) (by simp) rfl rfl fun w57 B hw57 zw57 => ?_
   replace S := S.store 3 B hw57
   clear B
   refine zd (zn ?_)
   obtain ⟨p58, s60, m61, hp59, S⟩ := S.open_oF 2
   replace S := S
   refine end1 (.inl rfl) (S.take hB18).1 fun w62 hcw62 => ?_
   replace S := ((S.take hB18).2 _ hcw62).nilD vE 21 Step.C jH
   refine ⟨_, (zU (zV ub rfl ((S.blk 6).all _ (Found.len _)) (Found.len _)) (yw xy rfl ((S.blk 5).cell rfl))), ?_⟩
   replace S := S.arr [2, 0] []
   obtain rfl := Option.some.inj H
   exact ⟨SlV.nil, rfl, S⟩
  replace H := if_f hc48 H
  refine zt (zb ?_)
  obtain ⟨p63, s65, m66, hp64, S⟩ := S.open_oF 0
  replace S := S
  refine yn 16 (Ext w46) hmix (by kernel_rfl) (by kernel_rfl) (Ext.drawn _) (zy (fun v K => zr rfl) (zy (fun v K => zH (congrArg Value.pointer hp64)) (zy (fun v K => zi yO rfl (o' := 1) rfl) (zy (fun v K => zm vh rfl (((S.ext K).blk 0).cell (Finder.get_steps _))) (zy (fun v K => zh rfl) ?_)))))
  obtain ⟨hi67, H⟩ := xK H
  refine zy (fun v K => does_indexD vS rfl rfl ((S.ext K).onO 2) (xv hi67).1 (xv hi67).2) (zy (fun v K => zi uI rfl (o' := _) rfl) (zy (fun v K => zm vx rfl (oD.cell (z := PStep.z) ((S.ext K).onO 2) (xv hi67) (fun _ => jH.get_proved))) (zy (fun v K => zr rfl) (zy (fun v K => zH (congrArg Value.pointer hp64)) (zy (fun v K => zi yO rfl (o' := 1) rfl) (zy (fun v K => zm vh rfl (((S.ext K).blk 0).cell (Finder.get_steps _))) (zy (fun v K => zr rfl) (zy (fun v K => zH (congrArg Value.pointer hp64)) (zy (fun v K => zi jT rfl (o' := 4) rfl) (zy (fun v K => zm zQ rfl (((S.ext K).blk 0).cell (Finder.get_visits _))) ?_))))))))))
  refine vt fun w68 K => ?_
  replace S := S.ext K
  clear K
  refine wd (Does.to (v' := .agg (Found.C (⟨(at_ PStep.z r45.1.steps r45.2.1).proved, s65, r45.1.visits⟩ : Found)).toArray) (xh (vs := [(0, .bool ((at_ PStep.z r45.1.steps r45.2.1).proved)), (1, s65.v), (2, .int .i64 r45.1.visits)]) zaX (x6 rfl (x6 rfl (x6 rfl rfl))) (Bld.one rfl rfl (by rw [Found.len]; decide) (Found.set_proved _ _) (Bld.one rfl (SlV.one _ _ rfl) (by rw [Found.len]; decide) (Found.set_steps _ _) (Bld.one rfl rfl (by rw [Found.len]; decide) (Found.set_visits _ _) Bld.nil)))) rfl) ?_
  refine zx ub rfl rfl (S.blk 6) (Found.len _) (by rw [Found.len]; decide) (Found.one _) (zG (Found.len _)) fun w69 B hw69 zw69 => ?_
  replace S := S.store 6 B hw69
  clear B
  refine xi xy rfl rfl (S.blk 6) (by simp) rfl rfl fun w70 B hw70 zw70 => ?_
  replace S := S.store 6 B hw70
  clear B
  refine zd (zn ?_)
  refine end1 (.inl rfl) (S.take hB18).1 fun w71 hcw71 => ?_
  replace S := (S.take hB18).2 _ hcw71
  refine ⟨_, (zU (zV ub rfl ((S.blk 1).all _ (Found.len _)) (Found.len _)) (yw xy rfl ((S.blk 0).cell rfl))), ?_⟩
  replace S := S.arr [3, 4] []
  obtain rfl := Option.some.inj H
  exact ⟨s65, rfl, S⟩
 ·rintro s18 s73 B18 w72 rfl S hB18
  replace S := S
  have H := Ho18
  dsimp only [fin] at H
  refine end1 (.inl rfl) (S.take hB18).1 fun w74 hcw74 => ?_
  replace S := (S.take hB18).2 _ hcw74
  refine ⟨_, (zU (zV ub rfl ((S.blk 2).all _ (Found.len _)) (Found.len _)) (yw xy rfl ((S.blk 1).cell rfl))), ?_⟩
  replace S := S.arr [5, 0] []
  obtain rfl := Option.some.inj H
  exact ⟨s73, rfl, S⟩
 ·intro h; cases h
end Go.Proofs.YtjebgcoknpcadaaGreatDoor
end
section
namespace Go.Proofs.YtjebgcoknpcadaaGreatDoor
open Go.RowKit
namespace Gw
def obPost4 (dm : List Nat) (D : Draw) (T : (Nat → Bool) → Fr → World → Prop) (L : Nat → Bool) (i : Nat) (d : Option Tmp) (g f : Fr) (w : World) : Post := fun dm' e f' w' => e = .normal ∧ dm' = dm ∧ D.Le L w w' ∧ match d with
 | some d => ∃ v, f' = upd f d v ∧ D.V i v w' ∧ T (plus L i) (upd g d v) w'
 | none => f' = f ∧ (∀ v, D.V i v w') ∧ T (plus L i) g w'
theorem ob4 {dm : List Nat} {D : Draw} {T : (Nat → Bool) → Fr → World → Prop} {L : Nat → Bool} {i : Nat} {d : Tmp} {g f : Fr} {w w' : World} {v : Value} (hL : D.Le L w w') (hV : D.V i v w') (hT : T (plus L i) (upd g d v) w') : obPost4 dm D T L i (some d) g f w dm .normal (upd f d v) w' := ⟨rfl, rfl, hL, v, rfl, hV, hT⟩
theorem ob40 {dm : List Nat} {D : Draw} {T : (Nat → Bool) → Fr → World → Prop} {L : Nat → Bool} {i : Nat} {g f : Fr} {w w' : World} (hL : D.Le L w w') (hV : ∀ v, D.V i v w') (hT : T (plus L i) g w') : obPost4 dm D T L i none g f w dm .normal f w' := ⟨rfl, rfl, hL, rfl, hV, hT⟩
def Owe4 (P : Program) (rd : Option Nat) (n : Nat) (dm : List Nat) (ops : Array Oper) (ds : List Nat) (D : Draw) (T : (Nat → Bool) → Fr → World → Prop) (f : Fr) (i : Nat) (o : Oper) : Prop :=
 ∀ (L : Nat → Bool) (g : Fr) (w : World), L i = false → (∀ j, ((Region.before ops).getD i 0).testBit j = true → L j = true) → T L g w → givens ops D g w (yP o) (wl P rd n dm ops [o] (obPost4 dm D T L i o.dst g (mask ds g f) w) (mask ds g f) w)
def Owes4 (P : Program) (rd : Option Nat) (n : Nat) (dm : List Nat) (ops : Array Oper) (ds : List Nat) (D : Draw) (T : (Nat → Bool) → Fr → World → Prop) (f : Fr) : List Oper → Nat → Prop
 | [], _ => True
 | o :: l, i => Owe4 P rd n dm ops ds D T f i o ∧ Owes4 P rd n dm ops ds D T f l (i + 1)
section
variable {P : Program} {rd : Option Nat} {n m : Nat} {dm : List Nat} {ops : Array Oper} {Q : Post} {f : Fr} {w : World}
theorem owes4_at {ds : List Nat} {D : Draw} {T : (Nat → Bool) → Fr → World → Prop} : ∀ (l : List Oper) (i : Nat), Owes4 P rd n dm ops ds D T f l i → ∀ j o, l[j]? = some o → Owe4 P rd n dm ops ds D T f (i + j) o
 | [], _, _, j, o, hj => by simp at hj
 | o :: l, i, h, 0, o', hj => by simp at hj; subst hj; exact h.1
 | o :: l, i, h, j + 1, o', hj => by
  have := owes4_at l (i + 1) h.2 j o' (by simpa using hj)
  rwa [show i + 1 + j = i + (j + 1) by omega] at this
theorem wc_draw4 {id : Nat} {l : List Oper} (m : Nat) (D : Draw) (T : (Nat → Bool) → Fr → World → Prop) (hm : P.follows .mixedOrders = true) (hB : drawB2 l.toArray m = true)
  (hst : ∀ L i v w w', L i = true → D.Le L w w' → D.V i v w → D.V i v w') (hT : ∀ g, T (fun _ => false) g { w with drawn := w.drawn + 1 })
  (ho : Owes4 P rd n dm l.toArray ((l.take m).filterMap (·.dst)) D T f (l.take m) 0)
  (hq : ∀ L g w, (∀ j, L j = decide (j < m)) → T L g w → allV D g w (l.take m) 0 (wl P rd n dm l.toArray (l.drop m) Q (mask ((l.take m).filterMap (·.dst)) g f) w)) : wc P rd n dm (.region id l.toArray true) Q f w := by
 intro a ha
 refine wpIn_region_any hm ?_
 simp only [drawB2, Bool.and_eq_true, decide_eq_true_eq, List.all_eq_true] at hB
 obtain ⟨⟨⟨hnd, hback⟩, htail⟩, hml⟩ := hB
 simp only [List.size_toArray] at hml
 generalize hds : (l.take m).filterMap (·.dst) = ds at *
 have hb : Back l.toArray := by
  intro i o hi e he hbd
  have := hback (o, i) (by
   rw [List.mem_zipIdx_iff_getElem?]
   simpa using hi) e (by simpa using he)
  simp only [hbd, Bool.not_true, Bool.false_or, decide_eq_true_eq] at this
  exact this
 have hord : ∀ k, m ≤ k → k < l.toArray.size → ∀ listed : Array Bool, listed.size = l.toArray.size → k ∈ Region.ready .any l.toArray listed → Closed l.toArray listed → ∀ j, j < k → listed.getD j false = true := by
  intro k hmk hk listed hs hr hc j hj
  have hkl : k < l.length := by simpa using hk
  have h1 := htail (l[k], k) (by
   rw [List.mem_zipIdx_iff_getElem?]
   simp)
  simp only [Bool.or_eq_true, decide_eq_true_eq] at h1
  rcases h1 with h1 | h1
  ·omega
  ·rw [List.all_eq_true] at h1
   have h2 := h1 j (by simpa using hj)
   rw [mem_ready] at hr
   obtain ⟨_, o, ho', hall⟩ := hr
   refine uR hc [] #[] rfl (by simp) (by simp) l.toArray.toList (by simp) k hk j ?_ ?_
   ·unfold Region.before at h2
    rw [← Array.foldl_toList] at h2
    exact h2
   ·rw [ho']
    simpa using hall
 have hmd : ∀ j o, (l.take m)[j]? = some o → j < m ∧ l.toArray[j]? = some o ∧ ∀ d, o.dst = some d → d ∈ ds := by
  intro j o hj
  have hjm : j < m := by
   have := (List.getElem?_eq_some_iff.1 hj).1
   simp at this; omega
  have hjo : l[j]? = some o := by rw [List.getElem?_take] at hj; simpa [hjm] using hj
  exact ⟨hjm, by simpa using hjo, fun d hd => by rw [← hds]; exact List.mem_filterMap.2 ⟨o, List.mem_of_getElem? hj, hd⟩⟩
 have hinj : ∀ (i j : Nat) (oi oj : Oper) (d : Nat), (l.take m)[i]? = some oi → (l.take m)[j]? = some oj → oi.dst = some d → oj.dst = some d → i = j := by
  have hgen : ∀ (L : List Oper), (L.filterMap (·.dst)).Nodup → ∀ (i j : Nat) (oi oj : Oper) (d : Nat), L[i]? = some oi → L[j]? = some oj → oi.dst = some d → oj.dst = some d → i = j := by
   intro L
   induction L with
   | nil => intro _ i j oi oj d h; simp at h
   | cons o L ih =>
    intro hn i j oi oj d hi hj hdi hdj
    have hn' : (L.filterMap (·.dst)).Nodup := by
     rw [List.filterMap_cons] at hn
     split at hn
     ·exact hn
     ·exact (List.nodup_cons.1 hn).2
    have hno : ∀ (k : Nat) (ok : Oper) (dd : Nat), L[k]? = some ok → o.dst = some dd → ok.dst ≠ some dd := by
     intro k ok dd hk hod hkd
     rw [List.filterMap_cons, hod] at hn
     exact (List.nodup_cons.1 hn).1 (List.mem_filterMap.2 ⟨ok, List.mem_of_getElem? hk, hkd⟩)
    cases i with
    | zero =>
     cases j with
     | zero => rfl
     | succ j => simp at hi; subst hi; exact absurd hdj (hno j oj d (by simpa using hj) hdi)
    | succ i =>
     cases j with
     | zero => simp at hj; subst hj; exact absurd hdi (hno i oi d (by simpa using hi) hdj)
     | succ j => rw [ih hn' i j oi oj d (by simpa using hi) (by simpa using hj) hdi hdj]
  exact hgen _ (by rw [hds]; exact hnd)
 have main : ∀ (fuel : Nat) (listed : Array Bool) (g : Fr) (a : Act) (w : World), listed.size = l.length → fuel + cnt listed l.length = l.length → Closed l.toArray listed → (∀ j, m ≤ j → j < l.length → listed.getD j false = false) →
   Is n dm a (mask ds g f) → T (fun j => listed.getD j false) g w → (∀ j o, (l.take m)[j]? = some o → listed.getD j false = true → overV D g w j o.dst) → wpAnyIn (fen rd) 0 P .any l.toArray (lift n Q) fuel listed a w := by
  intro fuel
  induction fuel with
  | zero =>
   intro listed g a w hs hcnt hc hno ha hT hV
   have hall := zaQ listed l.length (by omega)
   have hm' : m = l.length := by
    by_cases h : m < l.length
    ·have := hno m (Nat.le_refl _) h
     rw [hall m h] at this
     cases this
    ·omega
   have hfin := uc (l.take m) 0 (fun j o hj => by rw [Nat.zero_add]; exact (hV j o hj (hall j (by have := (hmd j o hj).1; omega))).get) (hq _ g w (fun j => by
    by_cases hj : j < l.length
    ·rw [hall j hj, decide_eq_true (by omega)]
    ·rw [v6 listed j (by omega), decide_eq_false (by omega)]) hT)
   rw [List.drop_eq_nil_of_le (by omega)] at hfin
   refine ⟨?_, ?_⟩
   ·refine List.eq_nil_iff_forall_not_mem.2 fun i hi => ?_
    obtain ⟨h1, h2⟩ := vZ (ops := l.toArray) (by simpa using hs) hi
    rw [hall i (by simpa using h1)] at h2
    cases h2
   ·exact hfin a ha
  | succ fuel ih =>
   intro listed g a w hs hcnt hc hno ha hT hV
   have hs' : listed.size = l.toArray.size := by simpa using hs
   refine ⟨fun hr => ?_, fun i hi => ?_⟩
   ·have hall := ready_nil hb hs' hr
    have := jE listed l.length (fun j hj => hall j (by simpa using hj))
    omega
   ·obtain ⟨h1, h2⟩ := vZ hs' hi
    have h1' : i < l.length := by simpa using h1
    by_cases him : i < m
    ·have hio : (l.take m)[i]? = some l[i] := by
      rw [List.getElem?_take, if_pos him]
      exact List.getElem?_eq_getElem h1'
     obtain ⟨_, hio', hdds⟩ := hmd i _ hio
     have howe := owes4_at _ 0 ho i _ hio (fun j => listed.getD j false) g w (by rw [Nat.zero_add]; exact h2) (fun j hj => by rw [Nat.zero_add] at hj; exact ord_of h1' hj hi hc) hT
     rw [Nat.zero_add] at howe
     have hready := hi
     rw [mem_ready] at hready
     obtain ⟨_, o, hoo, hall⟩ := hready
     rw [hio'] at hoo
     cases hoo
     have hwl := jr (ops := l.toArray) (yP l[i]) (fun j hj => by
      unfold yP at hj
      obtain ⟨e, he, rfl⟩ := List.mem_map.1 hj
      obtain ⟨he1, he2⟩ := List.mem_filter.1 he
      have hbd : Region.binds .any e = true := by
       unfold Region.binds
       cases hg : e.ground <;> rw [hg] at he2 <;> simp at he2 ⊢
      have hlt := hb i _ hio' e (by simpa using he1) hbd
      have hlst := hall e (by simpa using he1) hbd
      have hjm : e.on < m := by omega
      have hjo : (l.take m)[e.on]? = some l[e.on] := by
       rw [List.getElem?_take, if_pos hjm]
       exact List.getElem?_eq_getElem (by omega)
      have := (hV e.on _ hjo hlst).get
      unfold yx
      obtain ⟨_, hj2, _⟩ := hmd _ _ hjo
      rw [hj2]
      simp only [Option.bind_some]
      exact this) howe
     refine zag hio' hwl (fun dm e f' w' q => q.1) ?_ ha
     rintro dm' a' f' w' ha' ⟨_, rfl, hL', hV'⟩
     cases hd : l[i].dst with
     | none =>
      rw [hd] at hV'
      obtain ⟨rfl, hV', hT'⟩ := hV'
      rw [zaT listed i (by omega)] at hT'
      refine ih _ g a' w' (by simpa using hs) ?_ (hc.set hs' hi) ?_ ha' hT' ?_
      ·rw [kA listed i (by omega) h2, if_pos h1']; omega
      ·intro j hmj hjl
       rw [yA _ _ _ (by omega), if_neg (by omega)]
       exact hno j hmj hjl
      ·intro j oj hj hlj
       rw [yA _ _ _ (by omega)] at hlj
       by_cases hij : i = j
       ·subst hij
        rw [hio] at hj
        cases hj
        rw [hd]
        exact hV'
       ·rw [if_neg hij] at hlj
        have hvj := hV j oj hj hlj
        cases hdj : oj.dst with
        | none => rw [hdj] at hvj; exact fun v => hst _ j _ _ _ hlj hL' (hvj v)
        | some dj => rw [hdj] at hvj; exact hst _ j _ _ _ hlj hL' hvj
     | some d =>
     rw [hd] at hV'
     obtain ⟨v, rfl, hV', hT'⟩ := hV'
     rw [zaT listed i (by omega)] at hT'
     have hdds := hdds d hd
     have hmask : upd (mask ds g f) d v = mask ds (upd g d v) f := by
      funext k
      by_cases hk : k = d
      ·subst hk
       rw [upd_same, xN hdds, upd_same]
      ·rw [xT _ _ _ _ hk]
       by_cases hkd : k ∈ ds
       ·rw [xN hkd, xN hkd, xT _ _ _ _ hk]
       ·rw [xI hkd, xI hkd]
     rw [hmask] at ha'
     refine ih _ (upd g d v) a' w' (by simpa using hs) ?_ (hc.set hs' hi) ?_ ha' hT' ?_
     ·rw [kA listed i (by omega) h2, if_pos h1']; omega
     ·intro j hmj hjl
      rw [yA _ _ _ (by omega), if_neg (by omega)]
      exact hno j hmj hjl
     ·intro j oj hj hlj
      rw [yA _ _ _ (by omega)] at hlj
      by_cases hij : i = j
      ·subst hij
       rw [hio] at hj
       cases hj
       rw [hd]
       show D.V i (upd g d v d) _
       rw [upd_same]
       exact hV'
      ·rw [if_neg hij] at hlj
       have hvj := hV j oj hj hlj
       cases hdj : oj.dst with
       | none => rw [hdj] at hvj; exact fun v => hst _ j _ _ _ hlj hL' (hvj v)
       | some dj =>
        rw [hdj] at hvj
        have hne : dj ≠ d := fun e => hij (hinj i j _ oj d hio hj hd (by rw [hdj, e]))
        show D.V j (upd g d v dj) _
        rw [xT _ _ _ _ hne]
        exact hst _ j _ _ _ hlj hL' hvj
    ·have hallj := hord i (by omega) h1 listed hs' hi hc
     have him' : i = m := by
      by_cases h : m < i
      ·have := hno m (Nat.le_refl _) (by omega)
       rw [hallj m h] at this
       cases this
      ·omega
     subst him'
     have hfin := uc (l.take i) 0 (fun j o hj => by rw [Nat.zero_add]; exact (hV j o hj (hallj j (by have := (hmd j o hj).1; omega))).get) (hq _ g w (fun j => by
      by_cases hj : j < i
      ·rw [hallj j hj, decide_eq_true hj]
      ·rw [decide_eq_false hj]
       by_cases hjl : j < l.length
       ·exact hno j (by omega) hjl
       ·exact v6 listed j (by omega)) hT)
     have hfa := hfin a ha
     have hcn : cnt listed l.length = i := by
      have hz : ∀ k, i ≤ k → k ≤ l.length → cnt listed k = i := by
       intro k
       induction k with
       | zero => intro h _; rw [show i = 0 by omega]; rfl
       | succ k ihk =>
        intro h1 h2
        by_cases hk : i ≤ k
        ·rw [jJ, ihk hk (by omega), hno k hk (by omega)]; simp
        ·have : k + 1 = i := by omega
         rw [this]
         exact jE listed i hallj
      exact hz _ (by omega) (Nat.le_refl _)
     have htl := any_tail (rd := rd) (P := P) (m := i) (R := lift n Q) hb hord (fuel + 1) i listed a w (Nat.le_refl _) hs' hc (fun j hj => ⟨(fun h => by
      refine Nat.lt_of_not_le fun hij => ?_
      rw [hno j hij (by simpa using hj)] at h
      cases h), hallj j⟩) (by simp; omega) hfa
     exact htl.2 i hi
 have h0 : Is n dm a (mask ds f f) := by
  have : mask ds f f = f := by funext k; unfold mask; cases ds.elem k <;> rfl
  rw [this]; exact ha
 have hz : cnt (Array.replicate l.toArray.size false) l.length = 0 := by
  unfold cnt
  rw [List.length_eq_zero_iff]
  refine List.filter_eq_nil_iff.2 fun j hj => ?_
  rw [xM]
  simp
 refine main _ _ f a _ (by simp) (by rw [hz]; simp) ?_ (by intro j _ _; rw [xM]) h0 (by rw [show (fun j => (Array.replicate l.toArray.size false).getD j false) = fun _ => false from funext fun j => xM _ j]; exact hT _) ?_
 ·intro j o _ h; rw [xM] at h; cases h
 ·intro j o _ h; rw [xM] at h; cases h
end
def TT (w0 : World) (ia ist da t : Nat) (zc fc : List Value) (L : Nat → Bool) (g : Fr) (v : World) : Prop :=
 Ext w0 v ∧ (L ia = true → ∃ b, g da = .pointer (some ⟨b, 0, none⟩) ∧ w0.heap.size ≤ b ∧ Blk v b t (bif L ist then fc else zc)) ∧ (L ist = true → L ia = true)
section
variable {w0 : World} {ia ist da t d i : Nat} {zc fc : List Value} {L : Nat → Bool} {g : Fr} {v v' : World} {x : Value}
theorem plus_ne {j : Nat} (h : Nat.beq j i = false) : plus L i j = L j := by simp only [plus, h, Bool.false_or]
theorem TT.init {w : World} (g : Fr) (h : Ext w0 w) : TT w0 ia ist da t zc fc (fun _ => false) g w := ⟨h, fun h => (by cases h), fun h => (by cases h)⟩
theorem TT.keep (hT : TT w0 ia ist da t zc fc L g v) (hx : Ext v v') (h1 : Nat.beq ia i = false) (h2 : Nat.beq ist i = false) (h3 : da ≠ d) : TT w0 ia ist da t zc fc (plus L i) (upd g d x) v' := by
 obtain ⟨a, b, c⟩ := hT
 refine ⟨a.thenExt hx, fun h => ?_, fun h => ?_⟩
 ·rw [plus_ne h1] at h
  obtain ⟨q, e, hl, hb⟩ := b h
  refine ⟨q, by rw [xT _ _ _ _ h3]; exact e, hl, ?_⟩
  rw [plus_ne h2]; exact hb.ext hx
 ·rw [plus_ne h1]; rw [plus_ne h2] at h; exact c h
theorem TT.made {b : Nat} (hT : TT w0 ia ist da t zc fc L g v) (hL : L ia = false) (h2 : Nat.beq ist ia = false) (hn : New v v' b t zc) : TT w0 ia ist da t zc fc (plus L ia) (upd g da (.pointer (some ⟨b, 0, none⟩))) v' := by
 obtain ⟨a, _, c⟩ := hT
 have hs : L ist = false := by cases h : L ist with | false => rfl | true => rw [c h] at hL; cases hL
 refine ⟨a.thenExt hn.ext, fun _ => ⟨b, upd_same _ _ _, by have := hn.at_; have := a.size; omega, ?_⟩, fun h => by simp [plus]⟩
 rw [plus_ne h2, hs]; exact hn.blk
theorem TT.put {b : Nat} (hT : TT w0 ia ist da t zc fc L g v) (hl : w0.heap.size ≤ b) (hg : g da = .pointer (some ⟨b, 0, none⟩)) (hi : L ia = true) (hb : Blk v' b t fc) (hc : Chg (· = b) v v') : TT w0 ia ist da t zc fc (plus L ist) g v' := by
 obtain ⟨a, _, _⟩ := hT
 have h5 : plus L ist ist = true := by simp [plus]
 have h6 : plus L ist ia = true := by simp [plus, hi]
 refine ⟨a.thenChg hc (fun i hi e => absurd hi (by have e : i = b := e; omega)), fun _ => ⟨b, hg, hl, by rw [h5]; exact hb⟩, fun _ => h6⟩
end
end Gw
end Go.Proofs.YtjebgcoknpcadaaGreatDoor
end
section
namespace Go.Proofs.YtjebgcoknpcadaaGreatDoor
open Gw Go.RowKit
set_option maxHeartbeats 4000000
set_option maxRecDepth 20000
theorem law13_TypesProve_st {A : Nat → Prop} {N : Oth} {w : World} {a0 : List Nd} {s_0 : SlV} {a1 : List Hyp} {s_1 : SlV} {a2 : PTerm} {s_2 : SlV} {a3 : Int} (S : St A N w w [] [fS 4 Nd.C s_0 a0, fS 2 Hyp.C s_1 a1, xb s_2 a2.sub, oTz, oEt]) {k : Nat} {r : Bool} (H : law13_TypesProve.f k a0 a1 a2 a3 = some r) :
  Calls PP yD #[s_0.v, s_1.v, .agg (Term.C (⟨a2.kind, a2.name, a2.other, a2.form, s_2⟩ : Term)).toArray, .int .i64 a3] w fun e w' => ∃ v, e = .returned v ∧ (v = .bool r ∧ St A N w w' [] []) := by
 unfold law13_TypesProve.f at H
 refine zw (n := 80) vX rfl rfl (by simp) (zb (za ?_))
 refine zJ rfl (by decide) fun b2 w1 hw1 => ?_
 replace S := S.new hw1
 refine wd (zl rfl) (zd (zb (za (wd (zR rfl) ?_))))
 obtain ⟨r3, er3, H⟩ := zp H
 obtain ⟨B5, MB5, SB5, back⟩ := S.calln 0 ((.z 0 rfl .nil))
 refine zu (zo ca_law03_Both) (by decide) (law03_Both_st SB5 er3) ?_
 rintro _ w4 ⟨a6, a7, rfl, S2⟩
 replace S := back _ _ _ _ S2 rfl
 clear back S2 SB5
 refine wd (zK rfl) (wd (zk rfl rfl) (wd (zk rfl rfl) (wd (zk rfl rfl) (wd (xj rfl) (wd (xj rfl) ?_)))))
 refine wd (zl rfl) (zd (zb (zb (za (wd (zB rfl) (wd (xk rfl) (wd (zB rfl) ?_)))))))
 refine wg (fun hg => zr rfl) ?_
 refine wg (fun hg => zR rfl) ?_
 refine wg (fun hg => zj xn rfl ((S.blk 2).all _ (Term.len _)) (Term.len _)) ?_
 refine wg (fun hg => zh rfl) ?_
 obtain ⟨r8, er8, H⟩ := zp H
 refine yI (j := 2) (pol := false) rfl rfl rfl (by decide) (fun hg => zM zae (zO (zq hg) (zO (zq hg) (zO (zq hg) (zO (zq hg) rfl))))) (by decide) (fun hg => (have ⟨M, SS⟩ := S.lend ((.o 0 rfl (.z 1 rfl (.z 2 rfl (.z 4 rfl .nil))))); quiet (kP (a2 := a2) SS (if_t (by simpa using hg) er8)) (fun v w' h => ⟨h.1, _, _, h.2⟩))) fun w9 hw9 => ?_
 replace S := S.ext hw9
 refine wg (fun hg => xc (zq hg) rfl) (wd (xU rfl (fun hp => (zq (xF hp)))) (zd ?_))
 refine zC rfl (fun hc10 => ?_) (fun hc10 => ?_)
 ·replace H := if_t hc10 H
  refine zb (za ?_)
  obtain ⟨r11, er11, H⟩ := zp H
  obtain ⟨B13, MB13, SB13, back⟩ := S.calln 0 ((.z 4 rfl .nil))
  refine zu (zo zaf) (by decide) (kV SB13 er11) ?_
  rintro _ w12 ⟨rfl, S2⟩
  replace S := back _ _ _ _ S2 rfl
  clear back S2 SB13
  refine wd (zl rfl) (zd (zn ?_))
  refine ⟨_, (zS (ze rfl)), ?_⟩
  replace S := S.arr [] []
  obtain rfl := Option.some.inj H
  exact ⟨rfl, S⟩
 replace H := if_f hc10 H
 refine zt (zb (za (wd (zh rfl) (wd (xB bu_Sq (Bld.one rfl rfl (by rw [Sq.len]; decide) (Sq.set_goal _ _) Bld.nil)) ?_))))
 refine zP ze_Sq (by decide) fun b15 w14 hw14 => ?_
 replace S := S.new hw14
 refine zx xQ rfl rfl (S.blk 0) (Sq.len _) (by rw [Sq.len]; decide) (Sq.one _) (zG (Sq.len _)) fun w16 B hw16 zw16 => ?_
 replace S := S.store 0 B hw16
 clear B
 refine zd (zb (zb (za (wd (zf rfl) (zd ?_)))))
 obtain ⟨o17, e17, Ho17⟩ := zp H
 clear H
 refine yT [8, 13, 14, 15, 37, 38, 39, 40, 41, 42, 43, 44, 45, 46, 47, 48, 49, 50, 51, 52, 53, 54, 55, 56, 57] (fun fr W => ∃ s17 : Sq, o17 = .inl s17 ∧ St A N w W [oB b15 T_Sq (Sq.C s17), oT a6 r3.1, oR a7 r3.2.1, oB b2 xP (Term.C (⟨a2.kind, a2.name, a2.other, a2.form, s_2⟩ : Term))] [fS 4 Nd.C s_0 a0, fS 2 Hyp.C s_1 a1, xb s_2 a2.sub, oTz, oEt]) ?_ ?_
 ·refine zF ?_
  refine yp (α := Nat × Int × Sq) [8, 13, 14, 15, 37, 38, 39, 40, 41, 42, 43, 44, 45, 46, 47, 48, 49, 50, 51, 52, 53, 54, 55, 56, 57] (fun x fr W => (x.1 : Int) = (a1.length : Int) - x.2.1 ∧ 0 ≤ x.2.1 ∧ forN (fun i s => law13_TypesProve.b0 a1 i s) x.1 x.2.1 x.2.2 = some o17 ∧ fr 13 = .int .i64 x.2.1 ∧ St A N w W [oB b15 T_Sq (Sq.C (x.2.2)), oT a6 r3.1, oR a7 r3.2.1, oB b2 xP (Term.C (⟨a2.kind, a2.name, a2.other, a2.form, s_2⟩ : Term))] [fS 4 Nd.C s_0 a0, fS 2 Hyp.C s_1 a1, xb s_2 a2.sub, oTz, oEt]) (fun x => x.1) (((a1.length : Int) - 0).toNat, 0, { Sq.z with goal := a3 }) ⟨(by dsimp only; have hle := Int.natCast_nonneg (a1.length); omega), (Int.le_refl _), (by dsimp only; exact e17), rfl, S⟩ ?_
  rintro ⟨m17, i17, x17_0⟩ g17 u17 ⟨hm17, hl17, e17, q17_i, S⟩
  try dsimp only at hm17
  try dsimp only at hl17
  try dsimp only at e17
  try dsimp only at S
  try dsimp only at q17_i
  refine zb (zb (za (wd (zh q17_i) (wd (zR rfl) (wd (xG ui rfl (S.rd 1)) (wd (xm rfl rfl) (zd ?_)))))))
  refine zC rfl (fun hc18 => ?_) (fun hc18 => ?_)
  rotate_left
  ·refine yf ?_
   have hge : (a1.length : Int) ≤ i17 := Int.not_lt.1 (of_decide_eq_false hc18)
   obtain rfl : m17 = 0 := by omega
   replace e17 := zaG e17
   exact ⟨rfl, (((((Dif.self _ _ _).upd rfl _).upd rfl _).upd rfl _).upd rfl _), x17_0, e17, S⟩
  refine zt ?_
  have hlt17 : i17 < (a1.length : Int) := of_decide_eq_true hc18
  obtain ⟨m17, rfl⟩ : ∃ m, m17 = m + 1 := ⟨m17 - 1, by omega⟩
  obtain ⟨q17, H, e17⟩ := zay e17
  unfold law13_TypesProve.b0 at H
  try dsimp only at H
  have hb17 := (S.len 1)
  refine zb ?_
  refine zF (zb ?_)
  obtain ⟨r20, er20, H⟩ := zp H
  have SH : ∀ v, Ext u17 v → St A N w v [oB b15 T_Sq (Sq.C x17_0), oT a6 r3.1, oR a7 r3.2.1, oB b2 xP (Term.C (⟨a2.kind, a2.name, a2.other, a2.form, s_2⟩ : Term))] [fS 4 Nd.C s_0 a0, fS 2 Hyp.C s_1 a1, xb s_2 a2.sub, oTz, oEt] := fun v hc => S.ext hc
  refine wc_draw4 13 ⟨fun _ _ => True, fun _ _ _ => True, fun i v _ => match i with
   | 0 => v = Value.pointer (some ⟨b15, 0, none⟩)
   | 1 => v = Value.agg (Bits.C x17_0.left).toArray
   | 2 => v = s_1.v
   | 3 => v = Value.int .i64 i17
   | 4 => v = Value.pointer (some ⟨s_1.blk, s_1.off + Int.toNat i17 * 2, none⟩)
   | 5 => v = Value.pointer (some ⟨s_1.blk, s_1.off + Int.toNat i17 * 2 + 1, none⟩)
   | 6 => v = Value.int .i64 ((at_ Hyp.z a1 i17).form)
   | 7 => v = Value.tuple #[.agg (Bits.C r20.1).toArray, .int .i64 r20.2]
   | 8 => v = Value.tuple #[.agg (Bits.C r20.1).toArray, .int .i64 r20.2]
   | 9 => v = Value.agg (Bits.C r20.1).toArray
   | 10 => v = Value.int .i64 r20.2
   | _ => True⟩ (TT u17 11 12 14 vT (Bits.C Bits.z) (Bits.C r20.1)) hmix (by kernel_rfl) (fun _ _ _ _ _ _ _ hv => hv) (fun g => TT.init g (Ext.drawn _)) ⟨?_, ?_, ?_, ?_, ?_, ?_, ?_, ?_, ?_, ?_, ?_, ?_, ?_, trivial⟩ ?_
  ·rintro L g v hL hcl hT 
   refine wd (zi yC rfl (o' := 0) rfl) (zd (ob4 trivial rfl (hT.keep (Ext.refl _) rfl rfl (by decide))))
  ·rintro L g v hL hcl hT hv0
   refine wd (zj xd hv0 (((SH v hT.1).blk 0).cells (Sq.sub_left _)) (Bits.len _)) (zd (ob4 trivial rfl (hT.keep (Ext.refl _) rfl rfl (by decide))))
  ·rintro L g v hL hcl hT 
   refine wd (zR rfl) (zd (ob4 trivial rfl (hT.keep (Ext.refl _) rfl rfl (by decide))))
  ·rintro L g v hL hcl hT 
   refine wd (zh q17_i) (zd (ob4 trivial rfl (hT.keep (Ext.refl _) rfl rfl (by decide))))
  ·rintro L g v hL hcl hT hv2 hv3
   refine wd (zZ ui hv2 hv3 ((SH v hT.1).rd 1) (And.intro (show 0 ≤ i17 by omega) (show i17 < (a1.length : Int) from hlt17)).1 (And.intro (show 0 ≤ i17 by omega) (show i17 < (a1.length : Int) from hlt17)).2) (zd (ob4 trivial rfl (hT.keep (Ext.refl _) rfl rfl (by decide))))
  ·rintro L g v hL hcl hT hv4
   refine wd (zi fl_Hyp_form hv4 (o' := _) rfl) (zd (ob4 trivial rfl (hT.keep (Ext.refl _) rfl rfl (by decide))))
  ·rintro L g v hL hcl hT hv5
   refine wd (zm zQ hv5 ((((SH v hT.1).rd 1).at (yg Hyp.z (And.intro (show 0 ≤ i17 by omega) (show i17 < (a1.length : Int) from hlt17)))).get (Hyp.get_form _))) (zd (ob4 trivial rfl (hT.keep (Ext.refl _) rfl rfl (by decide))))
  ·rintro L g v hL hcl hT hv1 hv6
   refine (have ⟨M, SS⟩ := (SH v hT.1).lend ((.nil)); zu (zM ca_ref05_Put (zO hv1 (zO hv6 rfl))) (by decide) (quiet (ref05_Put_st SS er20) (fun v w' h => ⟨h.1, _, _, h.2⟩)) (by rintro _ v' ⟨rfl, hx⟩; exact zd (ob4 trivial rfl (hT.keep hx rfl rfl (by decide)))))
  ·rintro L g v hL hcl hT hv7
   refine wd (zK hv7) (zd (ob4 trivial rfl (hT.keep (Ext.refl _) rfl rfl (by decide))))
  ·rintro L g v hL hcl hT hv8
   refine wd (zk hv8 rfl) (zd (ob4 trivial rfl (hT.keep (Ext.refl _) rfl rfl (by decide))))
  ·rintro L g v hL hcl hT hv8
   refine wd (zk hv8 rfl) (zd (ob4 trivial rfl (hT.keep (Ext.refl _) rfl rfl (by decide))))
  ·rintro L g v hL hcl hT 
   exact zP jK (by decide) fun b v' hn => zd (ob4 trivial trivial (hT.made hL rfl hn))
  ·rintro L g v hL hcl hT _ hv9
   have hLa : L 11 = true := hcl 11 (by kernel_rfl)
   obtain ⟨b, hgb, hbl, hb⟩ := hT.2.1 hLa
   rw [hL] at hb
   replace hb : Blk v b vT (Bits.C Bits.z) := hb
   exact zx xd hgb hv9 hb (Bits.len _) (by rw [Bits.len]; decide) (Bits.one _) (zG (Bits.len _)) fun v' hb' hc _ => zd (ob40 trivial (fun _ => trivial) (hT.put hbl hgb hLa hb' hc))
  rintro L g w22 hLm ⟨K, hbx, _⟩ hv23_0 hv23_1 hv23_2 hv23_3 hv23_4 hv23_5 hv23_6 hv23_7 hv23_8 hv23_9 hv23_10 _ _
  obtain ⟨b21, hv23_11, hbl, hbx⟩ := hbx (by rw [hLm]; rfl)
  replace hbx : Blk w22 b21 vT (Bits.C r20.1) := by rw [hLm] at hbx; exact hbx
  replace S := S.newAt K hbx hbl
  clear SH hbx K
  refine wd (zf hv23_10) (zd (zb (zb (za (wd (zh rfl) (wd (xc rfl rfl) (zd ?_)))))))
  refine zC rfl (fun hc24 => ?_) (fun hc24 => ?_)
  ·replace H := if_t hc24 H
   refine zb (za (wd (zl rfl) (zd (zn ?_))))
   refine ⟨_, (zS (ze rfl)), ?_⟩
   replace S := S.arr [] []
   obtain rfl := Option.some.inj H
   obtain rfl := e17
   obtain rfl := uV Ho17
   exact ⟨rfl, S⟩
  replace H := if_f hc24 H
  refine zt (za (wd (zj xd hv23_11 ((S.blk 0).all _ (Bits.len _)) (Bits.len _)) (wd (zi yC rfl (o' := 0) rfl) ?_)))
  refine zx xd rfl rfl (S.blk 1) (Bits.len _) (by rw [Sq.len]; decide) (Bits.one _) (Sq.put_left _ _) fun w25 B hw25 zw25 => ?_
  replace S := S.store 1 B hw25
  clear B
  refine zd (za (wd (zh q17_i) (wd (xg rfl rfl (c := i17 + 1) rfl (by omega) (by omega)) (wd (zf rfl) (zd ?_)))))
  replace S := S.arr [0, 2, 3, 4] [0, 1, 2, 3, 4]
  obtain rfl := Option.some.inj H
  exact ⟨rfl, ((((((((((((((Dif.self _ _ _).upd rfl _).upd rfl _).upd rfl _).upd rfl _).mask rfl _).upd rfl _).upd rfl _).upd rfl _).upd rfl _).upd rfl _).upd rfl _).upd rfl _).upd rfl _), (m17, i17 + 1, { x17_0 with left := r20.1 }), ⟨(by dsimp only; omega), (by dsimp only; omega), e17, rfl, S⟩, by dsimp only; omega⟩
 rintro g26 u27 ⟨s17, rfl, S⟩
 have H := Ho17
 dsimp only [aft] at H
 refine zb (za (wd (zr rfl) (wd (zj xQ rfl ((S.blk 0).all _ (Sq.len _)) (Sq.len _)) ?_)))
 obtain ⟨r28, er28, H⟩ := zp H
 replace S := S.front 1
 obtain ⟨B30, MB30, SB30, back⟩ := S.calln 1 ((.z 3 rfl .nil))
 refine zu (zo ca_search_Run) (by decide) (search_Run_st SB30 er28) ?_
 rintro _ w29 ⟨s31, rfl, S2⟩
 replace S := back _ _ _ _ S2 rfl
 clear back S2 SB30
 refine wd (zK rfl) (wd (zk rfl rfl) (wd (zk rfl rfl) ?_))
 refine zP ze_Found (by decide) fun b33 w32 hw32 => ?_
 replace S := S.new hw32
 refine zx ub rfl rfl (S.blk 0) (Found.len _) (by rw [Found.len]; decide) (Found.one _) (zG (Found.len _)) fun w34 B hw34 zw34 => ?_
 replace S := S.store 0 B hw34
 clear B
 refine wd (zf rfl) (zd (zb (zb (za (wd (zh rfl) (wd (zN rfl rfl) (wd (zB rfl) ?_)))))))
 refine wg (fun hg => zh rfl) ?_
 refine wg (fun hg => zN (zq hg) rfl) (wd (xU rfl (fun hp => (zq (xF hp)))) (zd ?_))
 refine zC rfl (fun hc35 => ?_) (fun hc35 => ?_)
 ·replace H := if_t hc35 H
  refine zb (za ?_)
  obtain ⟨r36, er36, H⟩ := zp H
  obtain ⟨B38, MB38, SB38, back⟩ := S.calln 0 ((.z 4 rfl .nil))
  refine zu (zo zaf) (by decide) (kV SB38 er36) ?_
  rintro _ w37 ⟨rfl, S2⟩
  replace S := back _ _ _ _ S2 rfl
  clear back S2 SB38
  refine wd (zl rfl) (zd (zn ?_))
  refine ⟨_, (zS (ze rfl)), ?_⟩
  replace S := S.arr [] []
  obtain rfl := Option.some.inj H
  exact ⟨rfl, S⟩
 replace H := if_f hc35 H
 refine zt (zb (za (wd (zh rfl) (wd (zN rfl rfl) (wd (zB rfl) ?_)))))
 refine wg (fun hg => zi fl_Found_proved rfl (o' := 0) rfl) ?_
 refine wg (fun hg => zm vx (zq hg) ((S.blk 0).cell (Found.get_proved _))) (wd (xe rfl (fun hp => (zq (xF hp)))) (wd (zB rfl) ?_))
 obtain ⟨r39, er39, H⟩ := zp H
 refine yI (j := 6) (pol := true) rfl rfl rfl (by decide) (fun hg => zM zaf rfl) (by decide) (fun hg => (have ⟨M, SS⟩ := S.lend ((.z 4 rfl .nil)); quiet (kV SS (if_t (by simpa using hg) er39)) (fun v w' h => ⟨h.1, _, _, h.2⟩))) fun w40 hw40 => ?_
 replace S := S.ext hw40
 refine wd (xe rfl (fun hp => (zq (xF hp)))) (wd (zl rfl) (zd (zn ?_)))
 refine ⟨_, (zS (ze rfl)), ?_⟩
 replace S := S.arr [] []
 obtain rfl := Option.some.inj H
 exact ⟨rfl, S⟩
end Go.Proofs.YtjebgcoknpcadaaGreatDoor
end
