/- Chapter 09, the document's premises: the walks. Printed by pp.py, a program of mine. -/
import Derived.Test.YtjjkhjieegmphaaDoorRuleDP
import Derived.Test.YtjjkhjieegmphaaDoorRuleCW
namespace Go.Proofs.YtjjkhjieegmphaaDoor
open Gw Go.RowKit
set_option linter.unusedVariables false
set_option linter.unusedSimpArgs false

theorem ref09_to_st {A : Nat → Prop} {N : Oth} {w : World} {a0 : Sq} {a1 : Int} (S : St A N w w [] []) {r : Sq} (H : ref09_to.f a0 a1 = some r) :
    Calls PP F_ref09_to #[.agg (Sq.C a0).toArray, .int .i64 a1] w fun e w' => ∃ v, e = .returned v ∧ (v = .agg (Sq.C r).toArray ∧ St A N w w' [] []) := by
  unfold ref09_to.f at H
  refine calls_of_wc (n := 8) fn_ref09_to rfl rfl (by simp) ?_
  refine wc_seq (wc_region ?_)
  refine wl_box_agg rfl (by decide) fun b2 w1 hw1 => ?_
  replace S : St A N w w1 [oB b2 T_Sq (Sq.C a0)] [] := S.new hw1
  refine wl_alloc ze_Sq (by decide) fun b4 w3 hw3 => ?_
  replace S : St A N w w3 [oB b4 T_Sq (Sq.C Sq.z), oB b2 T_Sq (Sq.C a0)] [] := S.new hw3
  refine wl_nil ?_
  refine wc_seq (wc_region ?_)
  refine wd (does_mv_i rfl) ?_
  refine wd (does_fieldAddr fl_Sq_goal rfl (o' := 16) rfl) ?_
  refine wl_store on_int rfl rfl (S.blk 1) (by rw [Sq.len]; decide) rfl (Sq.set_goal _ _) fun w5 B hw5 zw5 => ?_
  replace S : St A N w w5 [oB b2 T_Sq (Sq.C ({ a0 with goal := a1 })), oB b4 T_Sq (Sq.C Sq.z)] [] := S.store 1 B hw5
  clear B
  refine wl_nil ?_
  refine wc_seq (wc_region ?_)
  refine wd (does_load_agg ag_Sq rfl ((S.blk 0).all _ (Sq.len _)) (Sq.len _)) ?_
  refine wl_store_agg ag_Sq rfl rfl (S.blk 1) (Sq.len _) (by rw [Sq.len]; decide) (Sq.one _) (store_all (Sq.len _)) fun w6 B hw6 zw6 => ?_
  replace S : St A N w w6 [oB b4 T_Sq (Sq.C ({ a0 with goal := a1 })), oB b2 T_Sq (Sq.C ({ a0 with goal := a1 }))] [] := S.store 1 B hw6
  clear B
  refine wl_nil ?_
  refine wc_ret ?_
  refine ⟨_, (rets1 (retOne_agg ag_Sq rfl ((S.blk 0).all _ (Sq.len _)) (Sq.len _))), ?_⟩
  replace S : St A N w w6 [] [] := S.arr [] []
  obtain rfl := Option.some.inj H
  exact ⟨rfl, S⟩
theorem ref09_with_st {A : Nat → Prop} {N : Oth} {w : World} {a0 : Sq} {a1 : Int} {a2 : Int} (S : St A N w w [] []) {r : Sq} (H : ref09_with.f a0 a1 a2 = some r) :
    Calls PP F_ref09_with #[.agg (Sq.C a0).toArray, .int .i64 a1, .int .i64 a2] w fun e w' => ∃ v, e = .returned v ∧ (v = .agg (Sq.C r).toArray ∧ St A N w w' [] []) := by
  unfold ref09_with.f at H
  refine calls_of_wc (n := 15) fn_ref09_with rfl rfl (by simp) ?_
  refine wc_seq (wc_region ?_)
  refine wl_box_agg rfl (by decide) fun b2 w1 hw1 => ?_
  replace S : St A N w w1 [oB b2 T_Sq (Sq.C a0)] [] := S.new hw1
  refine wl_alloc ze_Sq (by decide) fun b4 w3 hw3 => ?_
  replace S : St A N w w3 [oB b4 T_Sq (Sq.C Sq.z), oB b2 T_Sq (Sq.C a0)] [] := S.new hw3
  refine wl_nil ?_
  refine wc_seq (wc_region ?_)
  refine wd (does_fieldAddr fl_Sq_left rfl (o' := 0) rfl) ?_
  refine wd (does_load_agg ag_Bits rfl ((S.blk 1).cells (Sq.sub_left _)) (Bits.len _)) ?_
  refine wd (does_mv_i rfl) ?_
  obtain ⟨r5, er5, H⟩ := bind_ex H
  obtain ⟨B7, MB7, SB7, back⟩ := S.calln 0 ((.nil))
  refine wl_call (does_call ca_ref05_With) (by decide) (ref05_With_st SB7 er5) ?_
  rintro _ w6 ⟨rfl, S2⟩
  replace S : St A N w w6 [oB b4 T_Sq (Sq.C Sq.z), oB b2 T_Sq (Sq.C a0)] [] := back _ _ _ _ S2 rfl
  clear back S2 SB7
  refine wd (does_mv_i rfl) ?_
  obtain ⟨r8, er8, H⟩ := bind_ex H
  obtain ⟨B10, MB10, SB10, back⟩ := S.calln 0 ((.nil))
  refine wl_call (does_call ca_ref05_With) (by decide) (ref05_With_st SB10 er8) ?_
  rintro _ w9 ⟨rfl, S2⟩
  replace S : St A N w w9 [oB b4 T_Sq (Sq.C Sq.z), oB b2 T_Sq (Sq.C a0)] [] := back _ _ _ _ S2 rfl
  clear back S2 SB10
  refine wd (does_fieldAddr fl_Sq_left rfl (o' := 0) rfl) ?_
  refine wl_store_agg ag_Bits rfl rfl (S.blk 1) (Bits.len _) (by rw [Sq.len]; decide) (Bits.one _) (Sq.put_left _ _) fun w11 B hw11 zw11 => ?_
  replace S : St A N w w11 [oB b2 T_Sq (Sq.C ({ a0 with left := r8 })), oB b4 T_Sq (Sq.C Sq.z)] [] := S.store 1 B hw11
  clear B
  refine wl_nil ?_
  refine wc_seq (wc_region ?_)
  refine wd (does_load_agg ag_Sq rfl ((S.blk 0).all _ (Sq.len _)) (Sq.len _)) ?_
  refine wl_store_agg ag_Sq rfl rfl (S.blk 1) (Sq.len _) (by rw [Sq.len]; decide) (Sq.one _) (store_all (Sq.len _)) fun w12 B hw12 zw12 => ?_
  replace S : St A N w w12 [oB b4 T_Sq (Sq.C ({ a0 with left := r8 })), oB b2 T_Sq (Sq.C ({ a0 with left := r8 }))] [] := S.store 1 B hw12
  clear B
  refine wl_nil ?_
  refine wc_ret ?_
  refine ⟨_, (rets1 (retOne_agg ag_Sq rfl ((S.blk 0).all _ (Sq.len _)) (Sq.len _))), ?_⟩
  replace S : St A N w w12 [] [] := S.arr [] []
  obtain rfl := Option.some.inj H
  exact ⟨rfl, S⟩
theorem ref03_T_Two_st {A : Nat → Prop} {N : Oth} {w : World} {a0 : Tb} {a_0 : Option Addr} {a1 : Int} {a2 : Int} {a3 : Int} (S : St A N w w [oR a_0 a0] []) {r : Tb × Int × Int} (H : ref03_T_Two.f a0 a1 a2 a3 = some r) :
    Calls PP F_ref03_T_Two #[.pointer a_0, .int .i64 a1, .int .i64 a2, .int .i64 a3] w fun e w' => ∃ v, e = .returned v ∧ (v = .tuple #[.int .i64 r.2.1, .int .i64 r.2.2] ∧ St A N w w' [oR a_0 r.1] []) := by
  unfold ref03_T_Two.f at H
  refine calls_of_wc (n := 18) fn_ref03_T_Two rfl rfl (by simp) ?_
  refine wc_seq (wc_region ?_)
  refine wd (does_as_i rfl) ?_
  refine wd (does_as_i rfl) ?_
  refine wl_nil ?_
  refine wc_seq (wc_region ?_)
  refine wd (does_mv_p rfl) ?_
  refine wd (does_mv_i rfl) ?_
  refine wd (does_mv_i rfl) ?_
  refine wd (does_mv_i rfl) ?_
  refine wd (does_build bu_Nd (Bld.one rfl rfl (by rw [Nd.len]; decide) (Nd.set_kind _ _) (Bld.one rfl rfl (by rw [Nd.len]; decide) (Nd.set_l _ _) (Bld.one rfl rfl (by rw [Nd.len]; decide) (Nd.set_r _ _) Bld.nil)))) ?_
  obtain ⟨r1, er1, H⟩ := bind_ex H
  obtain ⟨B3, MB3, SB3, back⟩ := S.calln 1 ((.nil))
  refine wl_call (does_call ca_ref03_T_Put) (by decide) (ref03_T_Put_st SB3 er1) ?_
  rintro _ w2 ⟨rfl, S2⟩
  replace S : St A N w w2 [oR a_0 r1.1] [] := back _ _ _ _ S2 rfl
  clear back S2 SB3
  refine wd (does_extract rfl rfl) ?_
  refine wd (does_extract rfl rfl) ?_
  refine wd (does_as_i rfl) ?_
  refine wd (does_as_i rfl) ?_
  refine wl_nil ?_
  refine wc_ret ?_
  refine ⟨_, (rets2 (retOne_tmp rfl) (retOne_tmp rfl)), ?_⟩
  obtain rfl := Option.some.inj H
  exact ⟨rfl, S⟩
theorem ref03_T_Imp_st {A : Nat → Prop} {N : Oth} {w : World} {a0 : Tb} {a_0 : Option Addr} {a1 : Int} {a2 : Int} (S : St A N w w [oR a_0 a0] []) {r : Tb × Int × Int} (H : ref03_T_Imp.f a0 a1 a2 = some r) :
    Calls PP F_ref03_T_Imp #[.pointer a_0, .int .i64 a1, .int .i64 a2] w fun e w' => ∃ v, e = .returned v ∧ (v = .tuple #[.int .i64 r.2.1, .int .i64 r.2.2] ∧ St A N w w' [oR a_0 r.1] []) := by
  unfold ref03_T_Imp.f at H
  refine calls_of_wc (n := 14) fn_ref03_T_Imp rfl rfl (by simp) ?_
  refine wc_seq (wc_region ?_)
  refine wd (does_as_i rfl) ?_
  refine wd (does_as_i rfl) ?_
  refine wl_nil ?_
  refine wc_seq (wc_region ?_)
  refine wd (does_mv_p rfl) ?_
  refine wd (does_mv_i rfl) ?_
  refine wd (does_mv_i rfl) ?_
  obtain ⟨r1, er1, H⟩ := bind_ex H
  obtain ⟨B3, MB3, SB3, back⟩ := S.calln 1 ((.nil))
  refine wl_call (does_call ca_ref03_T_Two) (by decide) (ref03_T_Two_st SB3 er1) ?_
  rintro _ w2 ⟨rfl, S2⟩
  replace S : St A N w w2 [oR a_0 r1.1] [] := back _ _ _ _ S2 rfl
  clear back S2 SB3
  refine wd (does_extract rfl rfl) ?_
  refine wd (does_extract rfl rfl) ?_
  refine wd (does_as_i rfl) ?_
  refine wd (does_as_i rfl) ?_
  refine wl_nil ?_
  refine wc_ret ?_
  refine ⟨_, (rets2 (retOne_tmp rfl) (retOne_tmp rfl)), ?_⟩
  obtain rfl := Option.some.inj H
  exact ⟨rfl, S⟩
theorem ref03_T_Cut_st {A : Nat → Prop} {N : Oth} {w : World} {a0 : Tb} {a_0 : Option Addr} {a1 : Int} (S : St A N w w [oR a_0 a0] []) {r : Tb × Int} (H : ref03_T_Cut.f a0 a1 = some r) :
    Calls PP F_ref03_T_Cut #[.pointer a_0, .int .i64 a1] w fun e w' => ∃ v, e = .returned v ∧ (v = .int .i64 r.2 ∧ St A N w w' [oR a_0 r.1] []) := by
  unfold ref03_T_Cut.f at H
  refine calls_of_wc (n := 26) fn_ref03_T_Cut rfl rfl (by simp) ?_
  refine wc_seq (wc_region ?_)
  refine wd (does_as_i rfl) ?_
  refine wl_nil ?_
  refine wc_seq (wc_seq (wc_region ?_))
  refine wd (does_mv_i rfl) ?_
  refine wd (does_lt rfl rfl) ?_
  refine wd (does_mv_b rfl) ?_
  refine wl_guard (j := 2) (pol := false) rfl rfl rfl (by decide) (fun hg => does_mv_i rfl) (by decide) ?_
  refine wl_guard (j := 2) (pol := false) rfl rfl rfl (by decide) (fun hg => does_mv_p rfl) (by decide) ?_
  obtain ⟨ht1, H⟩ := chk_ex H
  obtain ⟨p2, s3, hp4, S⟩ := S.openR 0 ht1
  replace S : St A N w w [oB p2 T_RTab (RTab.C ⟨s3⟩), oS T_Nd 4 Nd.C s3 (a0.getD [])] [] := S
  refine wl_guard (j := 2) (pol := false) rfl rfl rfl (by decide) (fun hg => does_nilCheck (((gv_yes hg) : _ = Value.pointer a_0).trans (congrArg Value.pointer hp4))) (by decide) ?_
  refine wl_guard (j := 2) (pol := false) rfl rfl rfl (by decide) (fun hg => does_fieldAddr fl_RTab_n (gv_yes hg) (o' := 0) rfl) (by decide) ?_
  refine wl_guard (j := 2) (pol := false) rfl rfl rfl (by decide) (fun hg => does_load on_L_api_Node (gv_yes hg) ((S.blk 0).cell (RTab.get_n _))) (by decide) ?_
  refine wl_guard (j := 2) (pol := false) rfl rfl rfl (by decide) (fun hg => does_lenR sl_L_api_Node (gv_yes hg) (S.rdO 1)) (by decide) ?_
  refine wl_guard (j := 2) (pol := false) rfl rfl rfl (by decide) (fun hg => does_gt (gv_yes hg) (gv_yes hg)) (by decide) ?_
  refine wd (does_or rfl (fun hp => (gv_yes (and_1 hp)))) ?_
  replace S : St A N w w [oS T_Nd 4 Nd.C s3 (a0.getD []), oB p2 T_RTab (RTab.C ⟨s3⟩)] [] := S.front 1
  replace S : St A N w w [oB p2 T_RTab (RTab.C ⟨s3⟩), oS T_Nd 4 Nd.C s3 (a0.getD [])] [] := S.front 1
  replace S : St A N w w [oR a_0 (some (a0.getD []))] [] := S.shutR hp4
  refine wl_nil ?_
  refine wc_if rfl (fun hc5 => ?_) (fun hc5 => ?_)
  · replace H := if_t hc5 H
    refine wc_seq (wc_region ?_)
    refine wd (does_as_i rfl) ?_
    refine wl_nil ?_
    refine wc_ret ?_
    refine ⟨_, (rets1 (retOne_tmp rfl)), ?_⟩
    obtain rfl := Option.some.inj H
    exact ⟨rfl, S⟩
  replace H := if_f hc5 H
  refine wc_skip ?_
  refine wc_seq (wc_region ?_)
  refine wd (does_mv_p rfl) ?_
  refine wd (does_mv_p rfl) ?_
  obtain ⟨p6, s7, hp8, S⟩ := S.openR 0 rfl
  replace S : St A N w w [oB p6 T_RTab (RTab.C ⟨s7⟩), oS T_Nd 4 Nd.C s7 (a0.getD [])] [] := S
  refine wd (does_nilCheck (congrArg Value.pointer hp8)) ?_
  refine wd (does_fieldAddr fl_RTab_n rfl (o' := 0) rfl) ?_
  refine wd (does_load on_L_api_Node rfl ((S.blk 0).cell (RTab.get_n _))) ?_
  refine wd (does_mv_i rfl) ?_
  refine wd (does_mv_i rfl) ?_
  obtain ⟨hs9, H⟩ := chk_ex H
  have hs9 := of_decide_eq_true hs9
  refine wd (does_clip sl_L_api_Node rfl rfl rfl (S.sl 1) hs9) ?_
  have hlhs9 := S.lenO 1
  replace S : St A N w w [oS T_Nd 4 Nd.C (⟨s7.p, (a1).toNat, (a1).toNat⟩ : SlV) ((a0.getD []).take (a1).toNat), oB p6 T_RTab (RTab.C ⟨s7⟩)] [] := S.push (s := s7) 1 (Own.preL (S.sl 1) hs9 (Nat.le_refl _) (Own.clip (S.sl 1) hs9)) (by simp only [List.length_take]; omega) (Chg.refl _ _) (fun _ hi => .inl hi)
  refine wd (does_nilCheck (congrArg Value.pointer hp8)) ?_
  refine wd (does_fieldAddr fl_RTab_n rfl (o' := 0) rfl) ?_
  refine wl_store on_L_api_Node rfl rfl (S.blk 1) (by rw [RTab.len]; decide) (SlV.one _ _ rfl) (RTab.set_n _ _) fun w10 B hw10 zw10 => ?_
  replace S : St A N w w10 [oB p6 T_RTab (RTab.C ⟨(⟨s7.p, (a1).toNat, (a1).toNat⟩ : SlV)⟩), oS T_Nd 4 Nd.C (⟨s7.p, (a1).toNat, (a1).toNat⟩ : SlV) ((a0.getD []).take (a1).toNat)] [] := S.store 1 B hw10
  clear B
  replace S : St A N w w10 [oS T_Nd 4 Nd.C (⟨s7.p, (a1).toNat, (a1).toNat⟩ : SlV) ((a0.getD []).take (a1).toNat), oB p6 T_RTab (RTab.C ⟨(⟨s7.p, (a1).toNat, (a1).toNat⟩ : SlV)⟩)] [] := S.front 1
  replace S : St A N w w10 [oB p6 T_RTab (RTab.C ⟨(⟨s7.p, (a1).toNat, (a1).toNat⟩ : SlV)⟩), oS T_Nd 4 Nd.C (⟨s7.p, (a1).toNat, (a1).toNat⟩ : SlV) ((a0.getD []).take (a1).toNat)] [] := S.front 1
  replace S : St A N w w10 [oR a_0 (some ((a0.getD []).take (a1).toNat))] [] := S.shutR hp8
  refine wl_nil ?_
  refine wc_seq (wc_region ?_)
  refine wd (does_as_i rfl) ?_
  refine wl_nil ?_
  refine wc_ret ?_
  refine ⟨_, (rets1 (retOne_tmp rfl)), ?_⟩
  obtain rfl := Option.some.inj H
  exact ⟨rfl, S⟩
theorem ref09_imps_st {A : Nat → Prop} {N : Oth} {w : World} {a0 : Tb} {a_0 : Option Addr} {a1 : Int} {a2 : Int} {a3 : Int} {a4 : Int} (S : St A N w w [oR a_0 a0] []) {r : Tb × Int × Int × Int} (H : ref09_imps.f a0 a1 a2 a3 a4 = some r) :
    Calls PP F_ref09_imps #[.pointer a_0, .int .i64 a1, .int .i64 a2, .int .i64 a3, .int .i64 a4] w fun e w' => ∃ v, e = .returned v ∧ (v = .tuple #[.int .i64 r.2.1, .int .i64 r.2.2.1, .int .i64 r.2.2.2] ∧ St A N w w' [oR a_0 r.1] []) := by
  unfold ref09_imps.f at H
  refine calls_of_wc (n := 53) fn_ref09_imps rfl rfl (by simp) ?_
  refine wc_seq (wc_region ?_)
  refine wd (does_as_i rfl) ?_
  refine wd (does_as_i rfl) ?_
  refine wd (does_as_i rfl) ?_
  refine wl_nil ?_
  refine wc_seq (wc_region ?_)
  refine wd (does_mv_p rfl) ?_
  obtain ⟨ht1, H⟩ := chk_ex H
  obtain ⟨p2, s3, hp4, S⟩ := S.openR 0 ht1
  replace S : St A N w w [oB p2 T_RTab (RTab.C ⟨s3⟩), oS T_Nd 4 Nd.C s3 (a0.getD [])] [] := S
  refine wd (does_nilCheck (congrArg Value.pointer hp4)) ?_
  refine wd (does_fieldAddr fl_RTab_n rfl (o' := 0) rfl) ?_
  refine wd (does_load on_L_api_Node rfl ((S.blk 0).cell (RTab.get_n _))) ?_
  refine wd (does_lenR sl_L_api_Node rfl (S.rdO 1)) ?_
  refine wd (does_as_i rfl) ?_
  replace S : St A N w w [oS T_Nd 4 Nd.C s3 (a0.getD []), oB p2 T_RTab (RTab.C ⟨s3⟩)] [] := S.front 1
  replace S : St A N w w [oB p2 T_RTab (RTab.C ⟨s3⟩), oS T_Nd 4 Nd.C s3 (a0.getD [])] [] := S.front 1
  replace S : St A N w w [oR a_0 (some (a0.getD []))] [] := S.shutR hp4
  refine wl_nil ?_
  refine wc_seq (wc_region ?_)
  refine wd (does_mv_p rfl) ?_
  refine wd (does_mv_i rfl) ?_
  refine wd (does_mv_i rfl) ?_
  obtain ⟨r5, er5, H⟩ := bind_ex H
  obtain ⟨B7, MB7, SB7, back⟩ := S.calln 1 ((.nil))
  refine wl_call (does_call ca_ref03_T_Imp) (by decide) (ref03_T_Imp_st SB7 er5) ?_
  rintro _ w6 ⟨rfl, S2⟩
  replace S : St A N w w6 [oR a_0 r5.1] [] := back _ _ _ _ S2 rfl
  clear back S2 SB7
  refine wd (does_mv_t rfl) ?_
  refine wd (does_extract rfl rfl) ?_
  refine wd (does_extract rfl rfl) ?_
  refine wd (does_as_i rfl) ?_
  refine wd (does_as_i rfl) ?_
  refine wl_nil ?_
  refine wc_seq (wc_seq (wc_region ?_))
  refine wd (does_mv_i rfl) ?_
  refine wd (does_ne rfl rfl) ?_
  refine wl_nil ?_
  refine wc_if rfl (fun hc8 => ?_) (fun hc8 => ?_)
  · replace H := if_t hc8 H
    refine wc_seq (wc_region ?_)
    refine wd (does_mv_i rfl) ?_
    refine wd (does_as_i rfl) ?_
    refine wd (does_as_i rfl) ?_
    refine wd (does_as_i rfl) ?_
    refine wl_nil ?_
    refine wc_ret ?_
    refine ⟨_, (rets3 (retOne_tmp rfl) (retOne_tmp rfl) (retOne_tmp rfl)), ?_⟩
    obtain rfl := Option.some.inj H
    exact ⟨rfl, S⟩
  replace H := if_f hc8 H
  refine wc_skip ?_
  refine wc_seq (wc_seq (wc_region ?_))
  refine wd (does_mv_i rfl) ?_
  refine wd (does_lt rfl rfl) ?_
  refine wl_nil ?_
  obtain ⟨o9, e9, Ho9⟩ := bind_ex H
  replace H := e9; clear e9
  refine wc_cutq [3, 34] (fun fr W => fr 3 = .int .i64 o9.1 ∧ St A N w W [oR a_0 o9.2] []) ?_ ?_
  · refine wc_if rfl (fun hc10 => ?_) (fun hc10 => ?_)
    · replace H := if_t hc10 H
      refine wc_region ?_
      refine wd (does_mv_i rfl) ?_
      refine wd (does_as_i rfl) ?_
      refine wl_nil ?_
      obtain rfl := Option.some.inj H
      exact ⟨rfl, (((Dif.refl _ _).upd rfl _).upd rfl _), rfl, S⟩
    · replace H := if_f hc10 H
      refine wc_skip ?_
      obtain rfl := Option.some.inj H
      exact ⟨rfl, (Dif.refl _ _), rfl, S⟩
  rintro g11 u12 ⟨p9_3, S⟩
  have H := Ho9
  refine wc_seq (wc_seq (wc_region ?_))
  refine wd (does_mv_i rfl) ?_
  refine wd (does_lt rfl rfl) ?_
  refine wl_nil ?_
  obtain ⟨o13, e13, Ho13⟩ := bind_ex H
  replace H := e13; clear e13
  refine wc_cutq [4, 37] (fun fr W => fr 4 = .int .i64 o13.1 ∧ St A N w W [oR a_0 o13.2] []) ?_ ?_
  · refine wc_if rfl (fun hc14 => ?_) (fun hc14 => ?_)
    · replace H := if_t hc14 H
      refine wc_region ?_
      refine wd (does_mv_i rfl) ?_
      refine wd (does_as_i rfl) ?_
      refine wl_nil ?_
      obtain rfl := Option.some.inj H
      exact ⟨rfl, (((Dif.refl _ _).upd rfl _).upd rfl _), rfl, S⟩
    · replace H := if_f hc14 H
      refine wc_skip ?_
      obtain rfl := Option.some.inj H
      exact ⟨rfl, (Dif.refl _ _), rfl, S⟩
  rintro g15 u16 ⟨p13_4, S⟩
  have H := Ho13
  refine wc_seq (wc_region ?_)
  refine wd (does_mv_p rfl) ?_
  refine wd (does_mv_i p9_3) ?_
  refine wd (does_mv_i p13_4) ?_
  obtain ⟨r17, er17, H⟩ := bind_ex H
  obtain ⟨B19, MB19, SB19, back⟩ := S.calln 1 ((.nil))
  refine wl_call (does_call ca_ref03_T_Imp) (by decide) (ref03_T_Imp_st SB19 er17) ?_
  rintro _ w18 ⟨rfl, S2⟩
  replace S : St A N w w18 [oR a_0 r17.1] [] := back _ _ _ _ S2 rfl
  clear back S2 SB19
  refine wd (does_mv_t rfl) ?_
  refine wd (does_extract rfl rfl) ?_
  refine wd (does_extract rfl rfl) ?_
  refine wd (does_as_i rfl) ?_
  refine wd (does_as_i rfl) ?_
  refine wl_nil ?_
  refine wc_seq (wc_seq (wc_region ?_))
  refine wd (does_mv_i rfl) ?_
  refine wd (does_ne rfl rfl) ?_
  refine wl_nil ?_
  refine wc_if rfl (fun hc20 => ?_) (fun hc20 => ?_)
  · replace H := if_t hc20 H
    refine wc_seq (wc_region ?_)
    refine wd (does_mv_p rfl) ?_
    refine wd (does_mv_i rfl) ?_
    obtain ⟨r21, er21, H⟩ := bind_ex H
    obtain ⟨B23, MB23, SB23, back⟩ := S.calln 1 ((.nil))
    refine wl_call (does_call ca_ref03_T_Cut) (by decide) (ref03_T_Cut_st SB23 er21) ?_
    rintro _ w22 ⟨rfl, S2⟩
    replace S : St A N w w22 [oR a_0 r21.1] [] := back _ _ _ _ S2 rfl
    clear back S2 SB23
    refine wl_nil ?_
    refine wc_seq (wc_region ?_)
    refine wd (does_mv_i rfl) ?_
    refine wd (does_as_i rfl) ?_
    refine wd (does_as_i rfl) ?_
    refine wd (does_as_i rfl) ?_
    refine wl_nil ?_
    refine wc_ret ?_
    refine ⟨_, (rets3 (retOne_tmp rfl) (retOne_tmp rfl) (retOne_tmp rfl)), ?_⟩
    obtain rfl := Option.some.inj H
    exact ⟨rfl, S⟩
  replace H := if_f hc20 H
  refine wc_skip ?_
  refine wc_seq (wc_region ?_)
  refine wd (does_mv_i rfl) ?_
  refine wd (does_mv_i rfl) ?_
  refine wd (does_as_i rfl) ?_
  refine wd (does_as_i rfl) ?_
  refine wd (does_as_i rfl) ?_
  refine wl_nil ?_
  refine wc_ret ?_
  refine ⟨_, (rets3 (retOne_tmp rfl) (retOne_tmp rfl) (retOne_tmp rfl)), ?_⟩
  obtain rfl := Option.some.inj H
  exact ⟨rfl, S⟩
theorem ref09_Premises_st {A : Nat → Prop} {N : Oth} {w : World} {a0 : Tb} {a_0 : Option Addr} {a1 : Sq} {a2 : Int} {a3 : Int} (S : St A N w w [oR a_0 a0] []) {r : Tb × List Sq × Int} (H : ref09_Premises.f a0 a1 a2 a3 = some r) :
    Calls PP F_ref09_Premises #[.pointer a_0, .agg (Sq.C a1).toArray, .int .i64 a2, .int .i64 a3] w fun e w' => ∃ v, e = .returned v ∧ (∃ so0 : SlV, v = .tuple #[so0.v, .int .i64 r.2.2] ∧ St A N w w' [oR a_0 r.1, oS T_Sq 17 Sq.C so0 r.2.1] []) := by
  unfold ref09_Premises.f at H
  refine calls_of_wc (n := 216) fn_ref09_Premises rfl rfl (by simp) ?_
  refine wc_seq (wc_region ?_)
  refine wl_box_agg rfl (by decide) fun b2 w1 hw1 => ?_
  replace S : St A N w w1 [oB b2 T_Sq (Sq.C a1), oR a_0 a0] [] := S.new hw1
  refine wd (does_as_nil) ?_
  refine wd (does_as_i rfl) ?_
  refine wl_nil ?_
  refine wc_seq (wc_seq (wc_region ?_))
  refine wd (does_mv_p rfl) ?_
  refine wd (does_load_agg ag_Sq rfl ((S.blk 0).all _ (Sq.len _)) (Sq.len _)) ?_
  refine wd (does_mv_i rfl) ?_
  refine wd (does_mv_i rfl) ?_
  obtain ⟨r3, er3, H⟩ := bind_ex H
  obtain ⟨B5, MB5, SB5, back⟩ := S.calln 0 ((.o 1 rfl .nil))
  refine wl_call (does_call ca_ref09_Fits) (by decide) (ref09_Fits_st SB5 er3) ?_
  rintro _ w4 ⟨rfl, S2⟩
  replace S : St A N w w4 [oB b2 T_Sq (Sq.C a1), oR a_0 a0] [] := back _ _ _ _ S2 rfl
  clear back S2 SB5
  refine wd (does_not rfl) ?_
  refine wl_nil ?_
  refine wc_if rfl (fun hc6 => ?_) (fun hc6 => ?_)
  · replace H := if_t hc6 H
    refine wc_seq (wc_region ?_)
    refine wd (does_as_nil) ?_
    refine wd (does_as_i rfl) ?_
    refine wl_nil ?_
    refine wc_ret ?_
    replace S : St A N w w4 [oS T_Sq 17 Sq.C SlV.nil ([] : List Sq), oB b2 T_Sq (Sq.C a1), oR a_0 a0] [] := S.nil T_Sq 17 Sq.C
    refine ⟨_, (rets2 (retOne_tmp rfl) (retOne_tmp rfl)), ?_⟩
    replace S : St A N w w4 [oR a_0 a0, oS T_Sq 17 Sq.C SlV.nil ([] : List Sq)] [] := S.arr [2, 0] []
    obtain rfl := Option.some.inj H
    exact ⟨SlV.nil, rfl, S⟩
  replace H := if_f hc6 H
  refine wc_skip ?_
  refine wc_seq (wc_region ?_)
  refine wd (does_mv_p rfl) ?_
  obtain ⟨ht7, H⟩ := chk_ex H
  obtain ⟨p8, s9, hp10, S⟩ := S.openR 1 ht7
  replace S : St A N w w4 [oB p8 T_RTab (RTab.C ⟨s9⟩), oS T_Nd 4 Nd.C s9 (a0.getD []), oB b2 T_Sq (Sq.C a1)] [] := S
  refine wd (does_nilCheck (congrArg Value.pointer hp10)) ?_
  refine wd (does_fieldAddr fl_RTab_n rfl (o' := 0) rfl) ?_
  refine wd (does_load on_L_api_Node rfl ((S.blk 0).cell (RTab.get_n _))) ?_
  refine wd (does_mv_i rfl) ?_
  obtain ⟨hi11, H⟩ := chk_ex H
  refine wd (does_indexR sl_L_api_Node rfl rfl (S.rdO 1) (inb_ex hi11).1 (inb_ex hi11).2) ?_
  refine wd (does_load_agg ag_Nd rfl ((S.rdO 1).at (at_some Nd.z (inb_ex hi11))) (Nd.len _)) ?_
  refine wl_alloc ze_Nd (by decide) fun b13 w12 hw12 => ?_
  replace S : St A N w w12 [oB b13 T_Nd (Nd.C Nd.z), oB p8 T_RTab (RTab.C ⟨s9⟩), oS T_Nd 4 Nd.C s9 (a0.getD []), oB b2 T_Sq (Sq.C a1)] [] := S.new hw12
  refine wl_store_agg ag_Nd rfl rfl (S.blk 0) (Nd.len _) (by rw [Nd.len]; decide) (Nd.one _) (store_all (Nd.len _)) fun w14 B hw14 zw14 => ?_
  replace S : St A N w w14 [oB b13 T_Nd (Nd.C (at_ Nd.z (a0.getD []) a3)), oB p8 T_RTab (RTab.C ⟨s9⟩), oS T_Nd 4 Nd.C s9 (a0.getD []), oB b2 T_Sq (Sq.C a1)] [] := S.store 0 B hw14
  clear B
  replace S : St A N w w14 [oS T_Nd 4 Nd.C s9 (a0.getD []), oB b13 T_Nd (Nd.C (at_ Nd.z (a0.getD []) a3)), oB p8 T_RTab (RTab.C ⟨s9⟩), oB b2 T_Sq (Sq.C a1)] [] := S.front 2
  replace S : St A N w w14 [oB p8 T_RTab (RTab.C ⟨s9⟩), oS T_Nd 4 Nd.C s9 (a0.getD []), oB b13 T_Nd (Nd.C (at_ Nd.z (a0.getD []) a3)), oB b2 T_Sq (Sq.C a1)] [] := S.front 2
  replace S : St A N w w14 [oR a_0 (some (a0.getD [])), oB b13 T_Nd (Nd.C (at_ Nd.z (a0.getD []) a3)), oB b2 T_Sq (Sq.C a1)] [] := S.shutR hp10
  refine wl_nil ?_
  refine wc_seq (wc_region ?_)
  refine wd (does_load_agg ag_Sq rfl ((S.blk 2).all _ (Sq.len _)) (Sq.len _)) ?_
  refine wl_alloc ze_Sq (by decide) fun b16 w15 hw15 => ?_
  replace S : St A N w w15 [oB b16 T_Sq (Sq.C Sq.z), oR a_0 (some (a0.getD [])), oB b13 T_Nd (Nd.C (at_ Nd.z (a0.getD []) a3)), oB b2 T_Sq (Sq.C a1)] [] := S.new hw15
  refine wl_store_agg ag_Sq rfl rfl (S.blk 0) (Sq.len _) (by rw [Sq.len]; decide) (Sq.one _) (store_all (Sq.len _)) fun w17 B hw17 zw17 => ?_
  replace S : St A N w w17 [oB b16 T_Sq (Sq.C a1), oR a_0 (some (a0.getD [])), oB b13 T_Nd (Nd.C (at_ Nd.z (a0.getD []) a3)), oB b2 T_Sq (Sq.C a1)] [] := S.store 0 B hw17
  clear B
  refine wl_nil ?_
  refine wc_seq (wc_region ?_)
  refine wd (does_fieldAddr fl_Sq_left rfl (o' := 0) rfl) ?_
  refine wd (does_load_agg ag_Bits rfl ((S.blk 3).cells (Sq.sub_left _)) (Bits.len _)) ?_
  refine wd (does_mv_i rfl) ?_
  obtain ⟨r18, er18, H⟩ := bind_ex H
  obtain ⟨B20, MB20, SB20, back⟩ := S.calln 0 ((.nil))
  refine wl_call (does_call ca_ref05_Drop) (by decide) (ref05_Drop_st SB20 er18) ?_
  rintro _ w19 ⟨rfl, S2⟩
  replace S : St A N w w19 [oB b16 T_Sq (Sq.C a1), oR a_0 (some (a0.getD [])), oB b13 T_Nd (Nd.C (at_ Nd.z (a0.getD []) a3)), oB b2 T_Sq (Sq.C a1)] [] := back _ _ _ _ S2 rfl
  clear back S2 SB20
  refine wd (does_fieldAddr fl_Sq_left rfl (o' := 0) rfl) ?_
  refine wl_store_agg ag_Bits rfl rfl (S.blk 0) (Bits.len _) (by rw [Sq.len]; decide) (Bits.one _) (Sq.put_left _ _) fun w21 B hw21 zw21 => ?_
  replace S : St A N w w21 [oB b16 T_Sq (Sq.C ({ a1 with left := r18 })), oR a_0 (some (a0.getD [])), oB b13 T_Nd (Nd.C (at_ Nd.z (a0.getD []) a3)), oB b2 T_Sq (Sq.C a1)] [] := S.store 0 B hw21
  clear B
  refine wl_nil ?_
  refine wc_seq (wc_seq (wc_region ?_))
  refine wd (does_mv_i rfl) ?_
  refine wl_nil ?_
  refine wc_block ?_
  refine wc_seq (wc_seq (wc_region ?_))
  refine wd (does_eq rfl rfl) ?_
  refine wd (does_as_b rfl) ?_
  refine wl_nil ?_
  obtain ⟨o22, e22, Ho22⟩ := bind_ex H
  replace H := e22; clear e22
  refine wc_cutq [43, 45] (fun fr W => fr 43 = .bool o22.1 ∧ St A N w W [oB b16 T_Sq (Sq.C ({ a1 with left := r18 })), oR a_0 o22.2, oB b13 T_Nd (Nd.C (at_ Nd.z (a0.getD []) a3)), oB b2 T_Sq (Sq.C a1)] []) ?_ ?_
  · refine wc_if rfl (fun hc23 => ?_) (fun hc23 => ?_)
    · replace H := if_t hc23 H
      refine wc_skip ?_
      obtain rfl := Option.some.inj H
      exact ⟨rfl, (Dif.refl _ _), rfl, S⟩
    · replace H := if_f hc23 H
      refine wc_region ?_
      refine wd (does_eq rfl rfl) ?_
      refine wd (does_as_b rfl) ?_
      refine wl_nil ?_
      obtain rfl := Option.some.inj H
      exact ⟨rfl, (((Dif.refl _ _).upd rfl _).upd rfl _), rfl, S⟩
  rintro g24 u25 ⟨p22_43, S⟩
  have H := Ho22
  refine wc_if p22_43 (fun hc26 => ?_) (fun hc26 => ?_)
  · replace H := if_t hc26 H
    refine wc_seq (wc_region ?_)
    refine wd (does_as_nil) ?_
    refine wd (does_as_i rfl) ?_
    refine wl_nil ?_
    refine wc_ret ?_
    replace S : St A N w u25 [oS T_Sq 17 Sq.C SlV.nil ([] : List Sq), oB b16 T_Sq (Sq.C ({ a1 with left := r18 })), oR a_0 o22.2, oB b13 T_Nd (Nd.C (at_ Nd.z (a0.getD []) a3)), oB b2 T_Sq (Sq.C a1)] [] := S.nil T_Sq 17 Sq.C
    refine ⟨_, (rets2 (retOne_tmp rfl) (retOne_tmp rfl)), ?_⟩
    replace S : St A N w u25 [oR a_0 o22.2, oS T_Sq 17 Sq.C SlV.nil ([] : List Sq)] [] := S.arr [2, 0] []
    obtain rfl := Option.some.inj H
    exact ⟨SlV.nil, rfl, S⟩
  replace H := if_f hc26 H
  refine wc_seq (wc_region ?_)
  refine wd (does_eq rfl rfl) ?_
  refine wd (does_as_b rfl) ?_
  refine wl_nil ?_
  refine wc_if rfl (fun hc27 => ?_) (fun hc27 => ?_)
  · replace H := if_t hc27 H
    refine wc_seq (wc_region ?_)
    refine wd (does_load_agg ag_Sq rfl ((S.blk 0).all _ (Sq.len _)) (Sq.len _)) ?_
    refine wd (does_fieldAddr fl_Nd_l rfl (o' := 2) rfl) ?_
    refine wd (does_load on_int rfl ((S.blk 2).cell (Nd.get_l _))) ?_
    refine wd (does_fieldAddr fl_Nd_r rfl (o' := 3) rfl) ?_
    refine wd (does_load on_int rfl ((S.blk 2).cell (Nd.get_r _))) ?_
    obtain ⟨r28, er28, H⟩ := bind_ex H
    obtain ⟨B30, MB30, SB30, back⟩ := S.calln 0 ((.nil))
    refine wl_call (does_call ca_ref09_with) (by decide) (ref09_with_st SB30 er28) ?_
    rintro _ w29 ⟨rfl, S2⟩
    replace S : St A N w w29 [oB b16 T_Sq (Sq.C ({ a1 with left := r18 })), oR a_0 o22.2, oB b13 T_Nd (Nd.C (at_ Nd.z (a0.getD []) a3)), oB b2 T_Sq (Sq.C a1)] [] := back _ _ _ _ S2 rfl
    clear back S2 SB30
    refine wl_lits (C := Sq.C) (l := [r28]) (vs := [.agg (Sq.C r28).toArray]) sl_L_api_Seq el_Sq.zero rfl rfl (fun a _ => Sq.len a) (by decide) rfl (by decide) fun b32 w31 s33 hBw31 hw31 => ?_
    replace S : St A N w w31 [oS T_Sq 17 Sq.C s33 ([r28]), oB b16 T_Sq (Sq.C ({ a1 with left := r18 })), oR a_0 o22.2, oB b13 T_Nd (Nd.C (at_ Nd.z (a0.getD []) a3)), oB b2 T_Sq (Sq.C a1)] [] := S.lit hBw31 hw31 (by simp)
    refine wd (does_as_l rfl) ?_
    refine wd (does_as_i rfl) ?_
    refine wl_nil ?_
    refine wc_ret ?_
    refine ⟨_, (rets2 (retOne_tmp rfl) (retOne_tmp rfl)), ?_⟩
    replace S : St A N w w31 [oR a_0 o22.2, oS T_Sq 17 Sq.C s33 ([r28])] [] := S.arr [2, 0] []
    obtain rfl := Option.some.inj H
    exact ⟨s33, rfl, S⟩
  replace H := if_f hc27 H
  refine wc_seq (wc_region ?_)
  refine wd (does_eq rfl rfl) ?_
  refine wd (does_as_b rfl) ?_
  refine wl_nil ?_
  refine wc_if rfl (fun hc34 => ?_) (fun hc34 => ?_)
  · replace H := if_t hc34 H
    refine wc_seq (wc_region ?_)
    refine wd (does_load_agg ag_Sq rfl ((S.blk 0).all _ (Sq.len _)) (Sq.len _)) ?_
    refine wd (does_fieldAddr fl_Nd_r rfl (o' := 3) rfl) ?_
    refine wd (does_load on_int rfl ((S.blk 2).cell (Nd.get_r _))) ?_
    refine wd (does_fieldAddr fl_Nd_r rfl (o' := 3) rfl) ?_
    refine wd (does_load on_int rfl ((S.blk 2).cell (Nd.get_r _))) ?_
    obtain ⟨r35, er35, H⟩ := bind_ex H
    obtain ⟨B37, MB37, SB37, back⟩ := S.calln 0 ((.nil))
    refine wl_call (does_call ca_ref09_with) (by decide) (ref09_with_st SB37 er35) ?_
    rintro _ w36 ⟨rfl, S2⟩
    replace S : St A N w w36 [oB b16 T_Sq (Sq.C ({ a1 with left := r18 })), oR a_0 o22.2, oB b13 T_Nd (Nd.C (at_ Nd.z (a0.getD []) a3)), oB b2 T_Sq (Sq.C a1)] [] := back _ _ _ _ S2 rfl
    clear back S2 SB37
    refine wl_lits (C := Sq.C) (l := [r35]) (vs := [.agg (Sq.C r35).toArray]) sl_L_api_Seq el_Sq.zero rfl rfl (fun a _ => Sq.len a) (by decide) rfl (by decide) fun b39 w38 s40 hBw38 hw38 => ?_
    replace S : St A N w w38 [oS T_Sq 17 Sq.C s40 ([r35]), oB b16 T_Sq (Sq.C ({ a1 with left := r18 })), oR a_0 o22.2, oB b13 T_Nd (Nd.C (at_ Nd.z (a0.getD []) a3)), oB b2 T_Sq (Sq.C a1)] [] := S.lit hBw38 hw38 (by simp)
    refine wd (does_as_l rfl) ?_
    refine wd (does_as_i rfl) ?_
    refine wl_nil ?_
    refine wc_ret ?_
    refine ⟨_, (rets2 (retOne_tmp rfl) (retOne_tmp rfl)), ?_⟩
    replace S : St A N w w38 [oR a_0 o22.2, oS T_Sq 17 Sq.C s40 ([r35])] [] := S.arr [2, 0] []
    obtain rfl := Option.some.inj H
    exact ⟨s40, rfl, S⟩
  replace H := if_f hc34 H
  refine wc_seq (wc_region ?_)
  refine wd (does_eq rfl rfl) ?_
  refine wd (does_as_b rfl) ?_
  refine wl_nil ?_
  refine wc_if rfl (fun hc41 => ?_) (fun hc41 => ?_)
  · replace H := if_t hc41 H
    refine wc_seq (wc_region ?_)
    refine wd (does_load_agg ag_Sq rfl ((S.blk 0).all _ (Sq.len _)) (Sq.len _)) ?_
    refine wl_lits (C := Sq.C) (l := [{ a1 with left := r18 }]) (vs := [.agg (Sq.C ({ a1 with left := r18 })).toArray]) sl_L_api_Seq el_Sq.zero rfl rfl (fun a _ => Sq.len a) (by decide) rfl (by decide) fun b43 w42 s44 hBw42 hw42 => ?_
    replace S : St A N w w42 [oS T_Sq 17 Sq.C s44 ([{ a1 with left := r18 }]), oB b16 T_Sq (Sq.C ({ a1 with left := r18 })), oR a_0 o22.2, oB b13 T_Nd (Nd.C (at_ Nd.z (a0.getD []) a3)), oB b2 T_Sq (Sq.C a1)] [] := S.lit hBw42 hw42 (by simp)
    refine wd (does_as_l rfl) ?_
    refine wd (does_as_i rfl) ?_
    refine wl_nil ?_
    refine wc_ret ?_
    refine ⟨_, (rets2 (retOne_tmp rfl) (retOne_tmp rfl)), ?_⟩
    replace S : St A N w w42 [oR a_0 o22.2, oS T_Sq 17 Sq.C s44 ([{ a1 with left := r18 }])] [] := S.arr [2, 0] []
    obtain rfl := Option.some.inj H
    exact ⟨s44, rfl, S⟩
  replace H := if_f hc41 H
  refine wc_seq (wc_region ?_)
  refine wd (does_eq rfl rfl) ?_
  refine wd (does_as_b rfl) ?_
  refine wl_nil ?_
  refine wc_if rfl (fun hc45 => ?_) (fun hc45 => ?_)
  · replace H := if_t hc45 H
    refine wc_seq ?_
    obtain ⟨ht46, H⟩ := chk_ex H
    obtain ⟨p47, s48, hp49, S⟩ := S.openR 1 ht46
    replace S : St A N w u25 [oB p47 T_RTab (RTab.C ⟨s48⟩), oS T_Nd 4 Nd.C s48 (o22.2.getD []), oB b16 T_Sq (Sq.C ({ a1 with left := r18 })), oB b13 T_Nd (Nd.C (at_ Nd.z (a0.getD []) a3)), oB b2 T_Sq (Sq.C a1)] [] := S
    obtain ⟨hi50, H⟩ := chk_ex H
    refine wc_semi 9 [8]
      (fun i v u => match i with
      | 8 => ∃ b, v = Value.pointer (some ⟨b, 0, none⟩) ∧ Blk u b T_Nd (Nd.C Nd.z) ∧ u25.heap.size ≤ b
      | _ => True) hmix (by kernel_rfl) (by kernel_rfl) ?_ ?_
    · intro i v u u' hi hx hv
      match i, hv with
      | 8, ⟨b, e1, hb, hl⟩ => exact ⟨b, e1, hb.ext hx, hl⟩
      | 0, _ => exact trivial
      | 1, _ => exact trivial
      | 2, _ => exact trivial
      | 3, _ => exact trivial
      | 4, _ => exact trivial
      | 5, _ => exact trivial
      | 6, _ => exact trivial
      | 7, _ => exact trivial
      | _ + 9, _ => exact trivial
    refine wm_does (fun v K => does_mv_p rfl) rfl ?_
    refine wm_does (fun v K => does_nilCheck (congrArg Value.pointer hp49)) rfl ?_
    refine wm_does (fun v K => does_fieldAddr fl_RTab_n rfl (o' := 0) rfl) rfl ?_
    refine wm_does (fun v K => does_load on_L_api_Node rfl (((S.ext K).blk 0).cell (RTab.get_n _))) rfl ?_
    refine wm_does (fun v K => does_fieldAddr fl_Nd_l rfl (o' := 2) rfl) rfl ?_
    refine wm_does (fun v K => does_load on_int rfl (((S.ext K).blk 3).cell (Nd.get_l _))) rfl ?_
    refine wm_does (fun v K => does_indexR sl_L_api_Node rfl rfl ((S.ext K).rdO 1) (inb_ex hi50).1 (inb_ex hi50).2) rfl ?_
    refine wm_does (fun v K => does_load_agg ag_Nd rfl (((S.ext K).rdO 1).at (at_some Nd.z (inb_ex hi50))) (Nd.len _)) rfl ?_
    refine wm_new (fun g v K G => (have ⟨v', hd, hn⟩ := does_allocN ze_Nd; ⟨_, v', hd, hn.ext, _, rfl, hn.blk, K.size⟩)) rfl ?_
    refine wm_nil fun g w52 K hV => ?_
    obtain ⟨b51, hv538, hb8, hf8⟩ := hV 8 rfl (by decide)
    replace S : St A N w w52 [oB b51 T_Nd (Nd.C Nd.z), oB p47 T_RTab (RTab.C ⟨s48⟩), oS T_Nd 4 Nd.C s48 (o22.2.getD []), oB b16 T_Sq (Sq.C ({ a1 with left := r18 })), oB b13 T_Nd (Nd.C (at_ Nd.z (a0.getD []) a3)), oB b2 T_Sq (Sq.C a1)] [] := S.newAt K hb8 hf8
    clear K hV
    refine wl_store_agg ag_Nd hv538 rfl (S.blk 0) (Nd.len _) (by rw [Nd.len]; decide) (Nd.one _) (store_all (Nd.len _)) fun w54 B hw54 zw54 => ?_
    replace S : St A N w w54 [oB b51 T_Nd (Nd.C (at_ Nd.z (o22.2.getD []) ((at_ Nd.z (a0.getD []) a3).l))), oB p47 T_RTab (RTab.C ⟨s48⟩), oS T_Nd 4 Nd.C s48 (o22.2.getD []), oB b16 T_Sq (Sq.C ({ a1 with left := r18 })), oB b13 T_Nd (Nd.C (at_ Nd.z (a0.getD []) a3)), oB b2 T_Sq (Sq.C a1)] [] := S.store 0 B hw54
    clear B
    replace S : St A N w w54 [oS T_Nd 4 Nd.C s48 (o22.2.getD []), oB b51 T_Nd (Nd.C (at_ Nd.z (o22.2.getD []) ((at_ Nd.z (a0.getD []) a3).l))), oB p47 T_RTab (RTab.C ⟨s48⟩), oB b16 T_Sq (Sq.C ({ a1 with left := r18 })), oB b13 T_Nd (Nd.C (at_ Nd.z (a0.getD []) a3)), oB b2 T_Sq (Sq.C a1)] [] := S.front 2
    replace S : St A N w w54 [oB p47 T_RTab (RTab.C ⟨s48⟩), oS T_Nd 4 Nd.C s48 (o22.2.getD []), oB b51 T_Nd (Nd.C (at_ Nd.z (o22.2.getD []) ((at_ Nd.z (a0.getD []) a3).l))), oB b16 T_Sq (Sq.C ({ a1 with left := r18 })), oB b13 T_Nd (Nd.C (at_ Nd.z (a0.getD []) a3)), oB b2 T_Sq (Sq.C a1)] [] := S.front 2
    replace S : St A N w w54 [oR a_0 (some (o22.2.getD [])), oB b51 T_Nd (Nd.C (at_ Nd.z (o22.2.getD []) ((at_ Nd.z (a0.getD []) a3).l))), oB b16 T_Sq (Sq.C ({ a1 with left := r18 })), oB b13 T_Nd (Nd.C (at_ Nd.z (a0.getD []) a3)), oB b2 T_Sq (Sq.C a1)] [] := S.shutR hp49
    refine wl_nil ?_
    refine wc_seq (wc_region ?_)
    refine wd (does_mv_p rfl) ?_
    refine wd (does_fieldAddr fl_Nd_r hv538 (o' := 3) rfl) ?_
    refine wd (does_load on_int rfl ((S.blk 1).cell (Nd.get_r _))) ?_
    refine wd (does_fieldAddr fl_Nd_r rfl (o' := 3) rfl) ?_
    refine wd (does_load on_int rfl ((S.blk 3).cell (Nd.get_r _))) ?_
    refine wd (does_fieldAddr fl_Nd_l hv538 (o' := 2) rfl) ?_
    refine wd (does_load on_int rfl ((S.blk 1).cell (Nd.get_l _))) ?_
    obtain ⟨r55, er55, H⟩ := bind_ex H
    obtain ⟨B57, MB57, SB57, back⟩ := S.calln 1 ((.nil))
    refine wl_call (does_call ca_ref09_imps) (by decide) (ref09_imps_st SB57 er55) ?_
    rintro _ w56 ⟨rfl, S2⟩
    replace S : St A N w w56 [oR a_0 r55.1, oB b51 T_Nd (Nd.C (at_ Nd.z (o22.2.getD []) ((at_ Nd.z (a0.getD []) a3).l))), oB b16 T_Sq (Sq.C ({ a1 with left := r18 })), oB b13 T_Nd (Nd.C (at_ Nd.z (a0.getD []) a3)), oB b2 T_Sq (Sq.C a1)] [] := back _ _ _ _ S2 rfl
    clear back S2 SB57
    refine wd (does_mv_t rfl) ?_
    refine wd (does_extract rfl rfl) ?_
    refine wd (does_extract rfl rfl) ?_
    refine wd (does_extract rfl rfl) ?_
    refine wd (does_as_i rfl) ?_
    refine wd (does_as_i rfl) ?_
    refine wd (does_as_i rfl) ?_
    refine wl_nil ?_
    refine wc_seq (wc_seq (wc_region ?_))
    refine wd (does_mv_i rfl) ?_
    refine wd (does_ne rfl rfl) ?_
    refine wl_nil ?_
    refine wc_if rfl (fun hc58 => ?_) (fun hc58 => ?_)
    · replace H := if_t hc58 H
      refine wc_seq (wc_region ?_)
      refine wd (does_mv_i rfl) ?_
      refine wd (does_as_nil) ?_
      refine wd (does_as_i rfl) ?_
      refine wl_nil ?_
      refine wc_ret ?_
      replace S : St A N w w56 [oS T_Sq 17 Sq.C SlV.nil ([] : List Sq), oR a_0 r55.1, oB b51 T_Nd (Nd.C (at_ Nd.z (o22.2.getD []) ((at_ Nd.z (a0.getD []) a3).l))), oB b16 T_Sq (Sq.C ({ a1 with left := r18 })), oB b13 T_Nd (Nd.C (at_ Nd.z (a0.getD []) a3)), oB b2 T_Sq (Sq.C a1)] [] := S.nil T_Sq 17 Sq.C
      refine ⟨_, (rets2 (retOne_tmp rfl) (retOne_tmp rfl)), ?_⟩
      replace S : St A N w w56 [oR a_0 r55.1, oS T_Sq 17 Sq.C SlV.nil ([] : List Sq)] [] := S.arr [1, 0] []
      obtain rfl := Option.some.inj H
      exact ⟨SlV.nil, rfl, S⟩
    replace H := if_f hc58 H
    refine wc_skip ?_
    refine wc_seq (wc_region ?_)
    refine wd (does_load_agg ag_Sq rfl ((S.blk 2).all _ (Sq.len _)) (Sq.len _)) ?_
    refine wd (does_mv_i rfl) ?_
    refine wd (does_mv_i rfl) ?_
    obtain ⟨r59, er59, H⟩ := bind_ex H
    obtain ⟨B61, MB61, SB61, back⟩ := S.calln 0 ((.nil))
    refine wl_call (does_call ca_ref09_with) (by decide) (ref09_with_st SB61 er59) ?_
    rintro _ w60 ⟨rfl, S2⟩
    replace S : St A N w w60 [oR a_0 r55.1, oB b51 T_Nd (Nd.C (at_ Nd.z (o22.2.getD []) ((at_ Nd.z (a0.getD []) a3).l))), oB b16 T_Sq (Sq.C ({ a1 with left := r18 })), oB b13 T_Nd (Nd.C (at_ Nd.z (a0.getD []) a3)), oB b2 T_Sq (Sq.C a1)] [] := back _ _ _ _ S2 rfl
    clear back S2 SB61
    refine wl_lits (C := Sq.C) (l := [r59]) (vs := [.agg (Sq.C r59).toArray]) sl_L_api_Seq el_Sq.zero rfl rfl (fun a _ => Sq.len a) (by decide) rfl (by decide) fun b63 w62 s64 hBw62 hw62 => ?_
    replace S : St A N w w62 [oS T_Sq 17 Sq.C s64 ([r59]), oR a_0 r55.1, oB b51 T_Nd (Nd.C (at_ Nd.z (o22.2.getD []) ((at_ Nd.z (a0.getD []) a3).l))), oB b16 T_Sq (Sq.C ({ a1 with left := r18 })), oB b13 T_Nd (Nd.C (at_ Nd.z (a0.getD []) a3)), oB b2 T_Sq (Sq.C a1)] [] := S.lit hBw62 hw62 (by simp)
    refine wd (does_as_l rfl) ?_
    refine wd (does_as_i rfl) ?_
    refine wl_nil ?_
    refine wc_ret ?_
    refine ⟨_, (rets2 (retOne_tmp rfl) (retOne_tmp rfl)), ?_⟩
    replace S : St A N w w62 [oR a_0 r55.1, oS T_Sq 17 Sq.C s64 ([r59])] [] := S.arr [1, 0] []
    obtain rfl := Option.some.inj H
    exact ⟨s64, rfl, S⟩
  replace H := if_f hc45 H
  refine wc_seq (wc_region ?_)
  refine wd (does_eq rfl rfl) ?_
  refine wd (does_as_b rfl) ?_
  refine wl_nil ?_
  refine wc_if rfl (fun hc65 => ?_) (fun hc65 => ?_)
  · replace H := if_t hc65 H
    refine wc_seq ?_
    obtain ⟨ht66, H⟩ := chk_ex H
    obtain ⟨p67, s68, hp69, S⟩ := S.openR 1 ht66
    replace S : St A N w u25 [oB p67 T_RTab (RTab.C ⟨s68⟩), oS T_Nd 4 Nd.C s68 (o22.2.getD []), oB b16 T_Sq (Sq.C ({ a1 with left := r18 })), oB b13 T_Nd (Nd.C (at_ Nd.z (a0.getD []) a3)), oB b2 T_Sq (Sq.C a1)] [] := S
    obtain ⟨hi70, H⟩ := chk_ex H
    refine wc_semi 9 [8]
      (fun i v u => match i with
      | 8 => ∃ b, v = Value.pointer (some ⟨b, 0, none⟩) ∧ Blk u b T_Nd (Nd.C Nd.z) ∧ u25.heap.size ≤ b
      | _ => True) hmix (by kernel_rfl) (by kernel_rfl) ?_ ?_
    · intro i v u u' hi hx hv
      match i, hv with
      | 8, ⟨b, e1, hb, hl⟩ => exact ⟨b, e1, hb.ext hx, hl⟩
      | 0, _ => exact trivial
      | 1, _ => exact trivial
      | 2, _ => exact trivial
      | 3, _ => exact trivial
      | 4, _ => exact trivial
      | 5, _ => exact trivial
      | 6, _ => exact trivial
      | 7, _ => exact trivial
      | _ + 9, _ => exact trivial
    refine wm_does (fun v K => does_mv_p rfl) rfl ?_
    refine wm_does (fun v K => does_nilCheck (congrArg Value.pointer hp69)) rfl ?_
    refine wm_does (fun v K => does_fieldAddr fl_RTab_n rfl (o' := 0) rfl) rfl ?_
    refine wm_does (fun v K => does_load on_L_api_Node rfl (((S.ext K).blk 0).cell (RTab.get_n _))) rfl ?_
    refine wm_does (fun v K => does_fieldAddr fl_Nd_l rfl (o' := 2) rfl) rfl ?_
    refine wm_does (fun v K => does_load on_int rfl (((S.ext K).blk 3).cell (Nd.get_l _))) rfl ?_
    refine wm_does (fun v K => does_indexR sl_L_api_Node rfl rfl ((S.ext K).rdO 1) (inb_ex hi70).1 (inb_ex hi70).2) rfl ?_
    refine wm_does (fun v K => does_load_agg ag_Nd rfl (((S.ext K).rdO 1).at (at_some Nd.z (inb_ex hi70))) (Nd.len _)) rfl ?_
    refine wm_new (fun g v K G => (have ⟨v', hd, hn⟩ := does_allocN ze_Nd; ⟨_, v', hd, hn.ext, _, rfl, hn.blk, K.size⟩)) rfl ?_
    refine wm_nil fun g w72 K hV => ?_
    obtain ⟨b71, hv738, hb8, hf8⟩ := hV 8 rfl (by decide)
    replace S : St A N w w72 [oB b71 T_Nd (Nd.C Nd.z), oB p67 T_RTab (RTab.C ⟨s68⟩), oS T_Nd 4 Nd.C s68 (o22.2.getD []), oB b16 T_Sq (Sq.C ({ a1 with left := r18 })), oB b13 T_Nd (Nd.C (at_ Nd.z (a0.getD []) a3)), oB b2 T_Sq (Sq.C a1)] [] := S.newAt K hb8 hf8
    clear K hV
    refine wl_store_agg ag_Nd hv738 rfl (S.blk 0) (Nd.len _) (by rw [Nd.len]; decide) (Nd.one _) (store_all (Nd.len _)) fun w74 B hw74 zw74 => ?_
    replace S : St A N w w74 [oB b71 T_Nd (Nd.C (at_ Nd.z (o22.2.getD []) ((at_ Nd.z (a0.getD []) a3).l))), oB p67 T_RTab (RTab.C ⟨s68⟩), oS T_Nd 4 Nd.C s68 (o22.2.getD []), oB b16 T_Sq (Sq.C ({ a1 with left := r18 })), oB b13 T_Nd (Nd.C (at_ Nd.z (a0.getD []) a3)), oB b2 T_Sq (Sq.C a1)] [] := S.store 0 B hw74
    clear B
    replace S : St A N w w74 [oS T_Nd 4 Nd.C s68 (o22.2.getD []), oB b71 T_Nd (Nd.C (at_ Nd.z (o22.2.getD []) ((at_ Nd.z (a0.getD []) a3).l))), oB p67 T_RTab (RTab.C ⟨s68⟩), oB b16 T_Sq (Sq.C ({ a1 with left := r18 })), oB b13 T_Nd (Nd.C (at_ Nd.z (a0.getD []) a3)), oB b2 T_Sq (Sq.C a1)] [] := S.front 2
    replace S : St A N w w74 [oB p67 T_RTab (RTab.C ⟨s68⟩), oS T_Nd 4 Nd.C s68 (o22.2.getD []), oB b71 T_Nd (Nd.C (at_ Nd.z (o22.2.getD []) ((at_ Nd.z (a0.getD []) a3).l))), oB b16 T_Sq (Sq.C ({ a1 with left := r18 })), oB b13 T_Nd (Nd.C (at_ Nd.z (a0.getD []) a3)), oB b2 T_Sq (Sq.C a1)] [] := S.front 2
    replace S : St A N w w74 [oR a_0 (some (o22.2.getD [])), oB b71 T_Nd (Nd.C (at_ Nd.z (o22.2.getD []) ((at_ Nd.z (a0.getD []) a3).l))), oB b16 T_Sq (Sq.C ({ a1 with left := r18 })), oB b13 T_Nd (Nd.C (at_ Nd.z (a0.getD []) a3)), oB b2 T_Sq (Sq.C a1)] [] := S.shutR hp69
    refine wl_nil ?_
    refine wc_seq (wc_region ?_)
    refine wd (does_mv_p rfl) ?_
    refine wd (does_fieldAddr fl_Nd_l hv738 (o' := 2) rfl) ?_
    refine wd (does_load on_int rfl ((S.blk 1).cell (Nd.get_l _))) ?_
    refine wd (does_fieldAddr fl_Nd_r rfl (o' := 3) rfl) ?_
    refine wd (does_load on_int rfl ((S.blk 3).cell (Nd.get_r _))) ?_
    refine wd (does_fieldAddr fl_Nd_r hv738 (o' := 3) rfl) ?_
    refine wd (does_load on_int rfl ((S.blk 1).cell (Nd.get_r _))) ?_
    refine wd (does_fieldAddr fl_Nd_r rfl (o' := 3) rfl) ?_
    refine wd (does_load on_int rfl ((S.blk 3).cell (Nd.get_r _))) ?_
    obtain ⟨r75, er75, H⟩ := bind_ex H
    obtain ⟨B77, MB77, SB77, back⟩ := S.calln 1 ((.nil))
    refine wl_call (does_call ca_ref09_imps) (by decide) (ref09_imps_st SB77 er75) ?_
    rintro _ w76 ⟨rfl, S2⟩
    replace S : St A N w w76 [oR a_0 r75.1, oB b71 T_Nd (Nd.C (at_ Nd.z (o22.2.getD []) ((at_ Nd.z (a0.getD []) a3).l))), oB b16 T_Sq (Sq.C ({ a1 with left := r18 })), oB b13 T_Nd (Nd.C (at_ Nd.z (a0.getD []) a3)), oB b2 T_Sq (Sq.C a1)] [] := back _ _ _ _ S2 rfl
    clear back S2 SB77
    refine wd (does_mv_t rfl) ?_
    refine wd (does_extract rfl rfl) ?_
    refine wd (does_extract rfl rfl) ?_
    refine wd (does_extract rfl rfl) ?_
    refine wd (does_as_i rfl) ?_
    refine wd (does_as_i rfl) ?_
    refine wd (does_as_i rfl) ?_
    refine wl_nil ?_
    refine wc_seq (wc_seq (wc_region ?_))
    refine wd (does_mv_i rfl) ?_
    refine wd (does_ne rfl rfl) ?_
    refine wl_nil ?_
    refine wc_if rfl (fun hc78 => ?_) (fun hc78 => ?_)
    · replace H := if_t hc78 H
      refine wc_seq (wc_region ?_)
      refine wd (does_mv_i rfl) ?_
      refine wd (does_as_nil) ?_
      refine wd (does_as_i rfl) ?_
      refine wl_nil ?_
      refine wc_ret ?_
      replace S : St A N w w76 [oS T_Sq 17 Sq.C SlV.nil ([] : List Sq), oR a_0 r75.1, oB b71 T_Nd (Nd.C (at_ Nd.z (o22.2.getD []) ((at_ Nd.z (a0.getD []) a3).l))), oB b16 T_Sq (Sq.C ({ a1 with left := r18 })), oB b13 T_Nd (Nd.C (at_ Nd.z (a0.getD []) a3)), oB b2 T_Sq (Sq.C a1)] [] := S.nil T_Sq 17 Sq.C
      refine ⟨_, (rets2 (retOne_tmp rfl) (retOne_tmp rfl)), ?_⟩
      replace S : St A N w w76 [oR a_0 r75.1, oS T_Sq 17 Sq.C SlV.nil ([] : List Sq)] [] := S.arr [1, 0] []
      obtain rfl := Option.some.inj H
      exact ⟨SlV.nil, rfl, S⟩
    replace H := if_f hc78 H
    refine wc_skip ?_
    refine wc_seq (wc_region ?_)
    refine wd (does_load_agg ag_Sq rfl ((S.blk 2).all _ (Sq.len _)) (Sq.len _)) ?_
    refine wd (does_mv_i rfl) ?_
    refine wd (does_mv_i rfl) ?_
    obtain ⟨r79, er79, H⟩ := bind_ex H
    obtain ⟨B81, MB81, SB81, back⟩ := S.calln 0 ((.nil))
    refine wl_call (does_call ca_ref09_with) (by decide) (ref09_with_st SB81 er79) ?_
    rintro _ w80 ⟨rfl, S2⟩
    replace S : St A N w w80 [oR a_0 r75.1, oB b71 T_Nd (Nd.C (at_ Nd.z (o22.2.getD []) ((at_ Nd.z (a0.getD []) a3).l))), oB b16 T_Sq (Sq.C ({ a1 with left := r18 })), oB b13 T_Nd (Nd.C (at_ Nd.z (a0.getD []) a3)), oB b2 T_Sq (Sq.C a1)] [] := back _ _ _ _ S2 rfl
    clear back S2 SB81
    refine wl_lits (C := Sq.C) (l := [r79]) (vs := [.agg (Sq.C r79).toArray]) sl_L_api_Seq el_Sq.zero rfl rfl (fun a _ => Sq.len a) (by decide) rfl (by decide) fun b83 w82 s84 hBw82 hw82 => ?_
    replace S : St A N w w82 [oS T_Sq 17 Sq.C s84 ([r79]), oR a_0 r75.1, oB b71 T_Nd (Nd.C (at_ Nd.z (o22.2.getD []) ((at_ Nd.z (a0.getD []) a3).l))), oB b16 T_Sq (Sq.C ({ a1 with left := r18 })), oB b13 T_Nd (Nd.C (at_ Nd.z (a0.getD []) a3)), oB b2 T_Sq (Sq.C a1)] [] := S.lit hBw82 hw82 (by simp)
    refine wd (does_as_l rfl) ?_
    refine wd (does_as_i rfl) ?_
    refine wl_nil ?_
    refine wc_ret ?_
    refine ⟨_, (rets2 (retOne_tmp rfl) (retOne_tmp rfl)), ?_⟩
    replace S : St A N w w82 [oR a_0 r75.1, oS T_Sq 17 Sq.C s84 ([r79])] [] := S.arr [1, 0] []
    obtain rfl := Option.some.inj H
    exact ⟨s84, rfl, S⟩
  replace H := if_f hc65 H
  refine wc_seq (wc_region ?_)
  refine wd (does_eq rfl rfl) ?_
  refine wd (does_as_b rfl) ?_
  refine wl_nil ?_
  refine wc_if rfl (fun hc85 => ?_) (fun hc85 => ?_)
  · replace H := if_t hc85 H
    refine wc_seq ?_
    refine wc_quiet 8 (Ext u25) hmix (by kernel_rfl) (by kernel_rfl) (Ext.drawn _) ?_
    refine wq_does (fun v K => does_load_agg ag_Sq rfl (((S.ext K).blk 3).all _ (Sq.len _)) (Sq.len _)) ?_
    refine wq_does (fun v K => does_fieldAddr fl_Nd_l rfl (o' := 2) rfl) ?_
    refine wq_does (fun v K => does_load on_int rfl (((S.ext K).blk 2).cell (Nd.get_l _))) ?_
    refine wq_does (fun v K => does_fieldAddr fl_Nd_l rfl (o' := 2) rfl) ?_
    refine wq_does (fun v K => does_load on_int rfl (((S.ext K).blk 2).cell (Nd.get_l _))) ?_
    obtain ⟨r86, er86, H⟩ := bind_ex H
    refine wq_call (fun v => does_call ca_ref09_with) (fun v K => (have ⟨M, SS⟩ := (S.ext K).lend ((.nil)); quiet (ref09_with_st SS er86) (fun v w' h => ⟨h.1, _, _, h.2⟩))) (fun v v' K h => K.thenExt h) ?_
    refine wq_does (fun v K => does_fieldAddr fl_Nd_r rfl (o' := 3) rfl) ?_
    refine wq_does (fun v K => does_load on_int rfl (((S.ext K).blk 2).cell (Nd.get_r _))) ?_
    refine wq_nil fun w87 K => ?_
    replace S := S.ext K
    clear K
    obtain ⟨r88, er88, H⟩ := bind_ex H
    obtain ⟨B90, MB90, SB90, back⟩ := S.calln 0 ((.nil))
    refine wl_call (does_call ca_ref09_to) (by decide) (ref09_to_st SB90 er88) ?_
    rintro _ w89 ⟨rfl, S2⟩
    replace S : St A N w w89 [oB b16 T_Sq (Sq.C ({ a1 with left := r18 })), oR a_0 o22.2, oB b13 T_Nd (Nd.C (at_ Nd.z (a0.getD []) a3)), oB b2 T_Sq (Sq.C a1)] [] := back _ _ _ _ S2 rfl
    clear back S2 SB90
    refine wl_lits (C := Sq.C) (l := [r88]) (vs := [.agg (Sq.C r88).toArray]) sl_L_api_Seq el_Sq.zero rfl rfl (fun a _ => Sq.len a) (by decide) rfl (by decide) fun b92 w91 s93 hBw91 hw91 => ?_
    replace S : St A N w w91 [oS T_Sq 17 Sq.C s93 ([r88]), oB b16 T_Sq (Sq.C ({ a1 with left := r18 })), oR a_0 o22.2, oB b13 T_Nd (Nd.C (at_ Nd.z (a0.getD []) a3)), oB b2 T_Sq (Sq.C a1)] [] := S.lit hBw91 hw91 (by simp)
    refine wd (does_as_l rfl) ?_
    refine wd (does_as_i rfl) ?_
    refine wl_nil ?_
    refine wc_ret ?_
    refine ⟨_, (rets2 (retOne_tmp rfl) (retOne_tmp rfl)), ?_⟩
    replace S : St A N w w91 [oR a_0 o22.2, oS T_Sq 17 Sq.C s93 ([r88])] [] := S.arr [2, 0] []
    obtain rfl := Option.some.inj H
    exact ⟨s93, rfl, S⟩
  replace H := if_f hc85 H
  refine wc_seq (wc_region ?_)
  refine wd (does_eq rfl rfl) ?_
  refine wd (does_as_b rfl) ?_
  refine wl_nil ?_
  refine wc_if rfl (fun hc94 => ?_) (fun hc94 => ?_)
  · replace H := if_t hc94 H
    refine wc_seq ?_
    refine wc_quiet 7 (Ext u25) hmix (by kernel_rfl) (by kernel_rfl) (Ext.drawn _) ?_
    refine wq_does (fun v K => does_load_agg ag_Sq rfl (((S.ext K).blk 3).all _ (Sq.len _)) (Sq.len _)) ?_
    refine wq_does (fun v K => does_fieldAddr fl_Nd_l rfl (o' := 2) rfl) ?_
    refine wq_does (fun v K => does_load on_int rfl (((S.ext K).blk 2).cell (Nd.get_l _))) ?_
    obtain ⟨r95, er95, H⟩ := bind_ex H
    refine wq_call (fun v => does_call ca_ref09_to) (fun v K => (have ⟨M, SS⟩ := (S.ext K).lend ((.nil)); quiet (ref09_to_st SS er95) (fun v w' h => ⟨h.1, _, _, h.2⟩))) (fun v v' K h => K.thenExt h) ?_
    refine wq_does (fun v K => does_load_agg ag_Sq rfl (((S.ext K).blk 3).all _ (Sq.len _)) (Sq.len _)) ?_
    refine wq_does (fun v K => does_fieldAddr fl_Nd_r rfl (o' := 3) rfl) ?_
    refine wq_does (fun v K => does_load on_int rfl (((S.ext K).blk 2).cell (Nd.get_r _))) ?_
    refine wq_nil fun w96 K => ?_
    replace S := S.ext K
    clear K
    obtain ⟨r97, er97, H⟩ := bind_ex H
    obtain ⟨B99, MB99, SB99, back⟩ := S.calln 0 ((.nil))
    refine wl_call (does_call ca_ref09_to) (by decide) (ref09_to_st SB99 er97) ?_
    rintro _ w98 ⟨rfl, S2⟩
    replace S : St A N w w98 [oB b16 T_Sq (Sq.C ({ a1 with left := r18 })), oR a_0 o22.2, oB b13 T_Nd (Nd.C (at_ Nd.z (a0.getD []) a3)), oB b2 T_Sq (Sq.C a1)] [] := back _ _ _ _ S2 rfl
    clear back S2 SB99
    refine wl_lits (C := Sq.C) (l := [r95, r97]) (vs := [.agg (Sq.C r95).toArray, .agg (Sq.C r97).toArray]) sl_L_api_Seq el_Sq.zero rfl rfl (fun a _ => Sq.len a) (by decide) rfl (by decide) fun b101 w100 s102 hBw100 hw100 => ?_
    replace S : St A N w w100 [oS T_Sq 17 Sq.C s102 ([r95, r97]), oB b16 T_Sq (Sq.C ({ a1 with left := r18 })), oR a_0 o22.2, oB b13 T_Nd (Nd.C (at_ Nd.z (a0.getD []) a3)), oB b2 T_Sq (Sq.C a1)] [] := S.lit hBw100 hw100 (by simp)
    refine wd (does_as_l rfl) ?_
    refine wd (does_as_i rfl) ?_
    refine wl_nil ?_
    refine wc_ret ?_
    refine ⟨_, (rets2 (retOne_tmp rfl) (retOne_tmp rfl)), ?_⟩
    replace S : St A N w w100 [oR a_0 o22.2, oS T_Sq 17 Sq.C s102 ([r95, r97])] [] := S.arr [2, 0] []
    obtain rfl := Option.some.inj H
    exact ⟨s102, rfl, S⟩
  replace H := if_f hc94 H
  refine wc_seq (wc_region ?_)
  refine wd (does_eq rfl rfl) ?_
  refine wd (does_as_b rfl) ?_
  refine wl_nil ?_
  refine wc_if rfl (fun hc103 => ?_) (fun hc103 => ?_)
  · replace H := if_t hc103 H
    refine wc_seq ?_
    refine wc_quiet 11 (Ext u25) hmix (by kernel_rfl) (by kernel_rfl) (Ext.drawn _) ?_
    refine wq_does (fun v K => does_load_agg ag_Sq rfl (((S.ext K).blk 0).all _ (Sq.len _)) (Sq.len _)) ?_
    refine wq_does (fun v K => does_fieldAddr fl_Nd_l rfl (o' := 2) rfl) ?_
    refine wq_does (fun v K => does_load on_int rfl (((S.ext K).blk 2).cell (Nd.get_l _))) ?_
    refine wq_does (fun v K => does_fieldAddr fl_Nd_l rfl (o' := 2) rfl) ?_
    refine wq_does (fun v K => does_load on_int rfl (((S.ext K).blk 2).cell (Nd.get_l _))) ?_
    obtain ⟨r104, er104, H⟩ := bind_ex H
    refine wq_call (fun v => does_call ca_ref09_with) (fun v K => (have ⟨M, SS⟩ := (S.ext K).lend ((.nil)); quiet (ref09_with_st SS er104) (fun v w' h => ⟨h.1, _, _, h.2⟩))) (fun v v' K h => K.thenExt h) ?_
    refine wq_does (fun v K => does_load_agg ag_Sq rfl (((S.ext K).blk 0).all _ (Sq.len _)) (Sq.len _)) ?_
    refine wq_does (fun v K => does_fieldAddr fl_Nd_r rfl (o' := 3) rfl) ?_
    refine wq_does (fun v K => does_load on_int rfl (((S.ext K).blk 2).cell (Nd.get_r _))) ?_
    refine wq_does (fun v K => does_fieldAddr fl_Nd_r rfl (o' := 3) rfl) ?_
    refine wq_does (fun v K => does_load on_int rfl (((S.ext K).blk 2).cell (Nd.get_r _))) ?_
    refine wq_nil fun w105 K => ?_
    replace S := S.ext K
    clear K
    obtain ⟨r106, er106, H⟩ := bind_ex H
    obtain ⟨B108, MB108, SB108, back⟩ := S.calln 0 ((.nil))
    refine wl_call (does_call ca_ref09_with) (by decide) (ref09_with_st SB108 er106) ?_
    rintro _ w107 ⟨rfl, S2⟩
    replace S : St A N w w107 [oB b16 T_Sq (Sq.C ({ a1 with left := r18 })), oR a_0 o22.2, oB b13 T_Nd (Nd.C (at_ Nd.z (a0.getD []) a3)), oB b2 T_Sq (Sq.C a1)] [] := back _ _ _ _ S2 rfl
    clear back S2 SB108
    refine wl_lits (C := Sq.C) (l := [r104, r106]) (vs := [.agg (Sq.C r104).toArray, .agg (Sq.C r106).toArray]) sl_L_api_Seq el_Sq.zero rfl rfl (fun a _ => Sq.len a) (by decide) rfl (by decide) fun b110 w109 s111 hBw109 hw109 => ?_
    replace S : St A N w w109 [oS T_Sq 17 Sq.C s111 ([r104, r106]), oB b16 T_Sq (Sq.C ({ a1 with left := r18 })), oR a_0 o22.2, oB b13 T_Nd (Nd.C (at_ Nd.z (a0.getD []) a3)), oB b2 T_Sq (Sq.C a1)] [] := S.lit hBw109 hw109 (by simp)
    refine wd (does_as_l rfl) ?_
    refine wd (does_as_i rfl) ?_
    refine wl_nil ?_
    refine wc_ret ?_
    refine ⟨_, (rets2 (retOne_tmp rfl) (retOne_tmp rfl)), ?_⟩
    replace S : St A N w w109 [oR a_0 o22.2, oS T_Sq 17 Sq.C s111 ([r104, r106])] [] := S.arr [2, 0] []
    obtain rfl := Option.some.inj H
    exact ⟨s111, rfl, S⟩
  replace H := if_f hc103 H
  refine wc_seq (wc_region ?_)
  refine wd (does_eq rfl rfl) ?_
  refine wd (does_as_b rfl) ?_
  refine wl_nil ?_
  refine wc_if rfl (fun hc112 => ?_) (fun hc112 => ?_)
  · replace H := if_t hc112 H
    refine wc_seq (wc_region ?_)
    refine wd (does_load_agg ag_Sq rfl ((S.blk 3).all _ (Sq.len _)) (Sq.len _)) ?_
    refine wd (does_fieldAddr fl_Nd_l rfl (o' := 2) rfl) ?_
    refine wd (does_load on_int rfl ((S.blk 2).cell (Nd.get_l _))) ?_
    obtain ⟨r113, er113, H⟩ := bind_ex H
    obtain ⟨B115, MB115, SB115, back⟩ := S.calln 0 ((.nil))
    refine wl_call (does_call ca_ref09_to) (by decide) (ref09_to_st SB115 er113) ?_
    rintro _ w114 ⟨rfl, S2⟩
    replace S : St A N w w114 [oB b16 T_Sq (Sq.C ({ a1 with left := r18 })), oR a_0 o22.2, oB b13 T_Nd (Nd.C (at_ Nd.z (a0.getD []) a3)), oB b2 T_Sq (Sq.C a1)] [] := back _ _ _ _ S2 rfl
    clear back S2 SB115
    refine wl_lits (C := Sq.C) (l := [r113]) (vs := [.agg (Sq.C r113).toArray]) sl_L_api_Seq el_Sq.zero rfl rfl (fun a _ => Sq.len a) (by decide) rfl (by decide) fun b117 w116 s118 hBw116 hw116 => ?_
    replace S : St A N w w116 [oS T_Sq 17 Sq.C s118 ([r113]), oB b16 T_Sq (Sq.C ({ a1 with left := r18 })), oR a_0 o22.2, oB b13 T_Nd (Nd.C (at_ Nd.z (a0.getD []) a3)), oB b2 T_Sq (Sq.C a1)] [] := S.lit hBw116 hw116 (by simp)
    refine wd (does_as_l rfl) ?_
    refine wd (does_as_i rfl) ?_
    refine wl_nil ?_
    refine wc_ret ?_
    refine ⟨_, (rets2 (retOne_tmp rfl) (retOne_tmp rfl)), ?_⟩
    replace S : St A N w w116 [oR a_0 o22.2, oS T_Sq 17 Sq.C s118 ([r113])] [] := S.arr [2, 0] []
    obtain rfl := Option.some.inj H
    exact ⟨s118, rfl, S⟩
  replace H := if_f hc112 H
  refine wc_seq (wc_region ?_)
  refine wd (does_eq rfl rfl) ?_
  refine wd (does_as_b rfl) ?_
  refine wl_nil ?_
  refine wc_if rfl (fun hc119 => ?_) (fun hc119 => ?_)
  · replace H := if_t hc119 H
    refine wc_seq (wc_region ?_)
    refine wd (does_load_agg ag_Sq rfl ((S.blk 3).all _ (Sq.len _)) (Sq.len _)) ?_
    refine wd (does_fieldAddr fl_Nd_r rfl (o' := 3) rfl) ?_
    refine wd (does_load on_int rfl ((S.blk 2).cell (Nd.get_r _))) ?_
    obtain ⟨r120, er120, H⟩ := bind_ex H
    obtain ⟨B122, MB122, SB122, back⟩ := S.calln 0 ((.nil))
    refine wl_call (does_call ca_ref09_to) (by decide) (ref09_to_st SB122 er120) ?_
    rintro _ w121 ⟨rfl, S2⟩
    replace S : St A N w w121 [oB b16 T_Sq (Sq.C ({ a1 with left := r18 })), oR a_0 o22.2, oB b13 T_Nd (Nd.C (at_ Nd.z (a0.getD []) a3)), oB b2 T_Sq (Sq.C a1)] [] := back _ _ _ _ S2 rfl
    clear back S2 SB122
    refine wl_lits (C := Sq.C) (l := [r120]) (vs := [.agg (Sq.C r120).toArray]) sl_L_api_Seq el_Sq.zero rfl rfl (fun a _ => Sq.len a) (by decide) rfl (by decide) fun b124 w123 s125 hBw123 hw123 => ?_
    replace S : St A N w w123 [oS T_Sq 17 Sq.C s125 ([r120]), oB b16 T_Sq (Sq.C ({ a1 with left := r18 })), oR a_0 o22.2, oB b13 T_Nd (Nd.C (at_ Nd.z (a0.getD []) a3)), oB b2 T_Sq (Sq.C a1)] [] := S.lit hBw123 hw123 (by simp)
    refine wd (does_as_l rfl) ?_
    refine wd (does_as_i rfl) ?_
    refine wl_nil ?_
    refine wc_ret ?_
    refine ⟨_, (rets2 (retOne_tmp rfl) (retOne_tmp rfl)), ?_⟩
    replace S : St A N w w123 [oR a_0 o22.2, oS T_Sq 17 Sq.C s125 ([r120])] [] := S.arr [2, 0] []
    obtain rfl := Option.some.inj H
    exact ⟨s125, rfl, S⟩
  replace H := if_f hc119 H
  refine wc_skip ?_
  refine wc_seq ?_
  obtain ⟨ht126, H⟩ := chk_ex H
  obtain ⟨p127, s128, hp129, S⟩ := S.openR 1 ht126
  replace S : St A N w u25 [oB p127 T_RTab (RTab.C ⟨s128⟩), oS T_Nd 4 Nd.C s128 (o22.2.getD []), oB b16 T_Sq (Sq.C ({ a1 with left := r18 })), oB b13 T_Nd (Nd.C (at_ Nd.z (a0.getD []) a3)), oB b2 T_Sq (Sq.C a1)] [] := S
  obtain ⟨hi130, H⟩ := chk_ex H
  refine wc_semi 9 [8]
    (fun i v u => match i with
    | 8 => ∃ b, v = Value.pointer (some ⟨b, 0, none⟩) ∧ Blk u b T_Nd (Nd.C Nd.z) ∧ u25.heap.size ≤ b
    | _ => True) hmix (by kernel_rfl) (by kernel_rfl) ?_ ?_
  · intro i v u u' hi hx hv
    match i, hv with
    | 8, ⟨b, e1, hb, hl⟩ => exact ⟨b, e1, hb.ext hx, hl⟩
    | 0, _ => exact trivial
    | 1, _ => exact trivial
    | 2, _ => exact trivial
    | 3, _ => exact trivial
    | 4, _ => exact trivial
    | 5, _ => exact trivial
    | 6, _ => exact trivial
    | 7, _ => exact trivial
    | _ + 9, _ => exact trivial
  refine wm_does (fun v K => does_mv_p rfl) rfl ?_
  refine wm_does (fun v K => does_nilCheck (congrArg Value.pointer hp129)) rfl ?_
  refine wm_does (fun v K => does_fieldAddr fl_RTab_n rfl (o' := 0) rfl) rfl ?_
  refine wm_does (fun v K => does_load on_L_api_Node rfl (((S.ext K).blk 0).cell (RTab.get_n _))) rfl ?_
  refine wm_does (fun v K => does_fieldAddr fl_Nd_l rfl (o' := 2) rfl) rfl ?_
  refine wm_does (fun v K => does_load on_int rfl (((S.ext K).blk 3).cell (Nd.get_l _))) rfl ?_
  refine wm_does (fun v K => does_indexR sl_L_api_Node rfl rfl ((S.ext K).rdO 1) (inb_ex hi130).1 (inb_ex hi130).2) rfl ?_
  refine wm_does (fun v K => does_load_agg ag_Nd rfl (((S.ext K).rdO 1).at (at_some Nd.z (inb_ex hi130))) (Nd.len _)) rfl ?_
  refine wm_new (fun g v K G => (have ⟨v', hd, hn⟩ := does_allocN ze_Nd; ⟨_, v', hd, hn.ext, _, rfl, hn.blk, K.size⟩)) rfl ?_
  refine wm_nil fun g w132 K hV => ?_
  obtain ⟨b131, hv1338, hb8, hf8⟩ := hV 8 rfl (by decide)
  replace S : St A N w w132 [oB b131 T_Nd (Nd.C Nd.z), oB p127 T_RTab (RTab.C ⟨s128⟩), oS T_Nd 4 Nd.C s128 (o22.2.getD []), oB b16 T_Sq (Sq.C ({ a1 with left := r18 })), oB b13 T_Nd (Nd.C (at_ Nd.z (a0.getD []) a3)), oB b2 T_Sq (Sq.C a1)] [] := S.newAt K hb8 hf8
  clear K hV
  refine wl_store_agg ag_Nd hv1338 rfl (S.blk 0) (Nd.len _) (by rw [Nd.len]; decide) (Nd.one _) (store_all (Nd.len _)) fun w134 B hw134 zw134 => ?_
  replace S : St A N w w134 [oB b131 T_Nd (Nd.C (at_ Nd.z (o22.2.getD []) ((at_ Nd.z (a0.getD []) a3).l))), oB p127 T_RTab (RTab.C ⟨s128⟩), oS T_Nd 4 Nd.C s128 (o22.2.getD []), oB b16 T_Sq (Sq.C ({ a1 with left := r18 })), oB b13 T_Nd (Nd.C (at_ Nd.z (a0.getD []) a3)), oB b2 T_Sq (Sq.C a1)] [] := S.store 0 B hw134
  clear B
  replace S : St A N w w134 [oS T_Nd 4 Nd.C s128 (o22.2.getD []), oB b131 T_Nd (Nd.C (at_ Nd.z (o22.2.getD []) ((at_ Nd.z (a0.getD []) a3).l))), oB p127 T_RTab (RTab.C ⟨s128⟩), oB b16 T_Sq (Sq.C ({ a1 with left := r18 })), oB b13 T_Nd (Nd.C (at_ Nd.z (a0.getD []) a3)), oB b2 T_Sq (Sq.C a1)] [] := S.front 2
  replace S : St A N w w134 [oB p127 T_RTab (RTab.C ⟨s128⟩), oS T_Nd 4 Nd.C s128 (o22.2.getD []), oB b131 T_Nd (Nd.C (at_ Nd.z (o22.2.getD []) ((at_ Nd.z (a0.getD []) a3).l))), oB b16 T_Sq (Sq.C ({ a1 with left := r18 })), oB b13 T_Nd (Nd.C (at_ Nd.z (a0.getD []) a3)), oB b2 T_Sq (Sq.C a1)] [] := S.front 2
  replace S : St A N w w134 [oR a_0 (some (o22.2.getD [])), oB b131 T_Nd (Nd.C (at_ Nd.z (o22.2.getD []) ((at_ Nd.z (a0.getD []) a3).l))), oB b16 T_Sq (Sq.C ({ a1 with left := r18 })), oB b13 T_Nd (Nd.C (at_ Nd.z (a0.getD []) a3)), oB b2 T_Sq (Sq.C a1)] [] := S.shutR hp129
  refine wl_nil ?_
  refine wc_seq (wc_region ?_)
  refine wd (does_mv_p rfl) ?_
  refine wd (does_fieldAddr fl_Nd_r hv1338 (o' := 3) rfl) ?_
  refine wd (does_load on_int rfl ((S.blk 1).cell (Nd.get_r _))) ?_
  refine wd (does_fieldAddr fl_Nd_r rfl (o' := 3) rfl) ?_
  refine wd (does_load on_int rfl ((S.blk 3).cell (Nd.get_r _))) ?_
  obtain ⟨r135, er135, H⟩ := bind_ex H
  obtain ⟨B137, MB137, SB137, back⟩ := S.calln 1 ((.nil))
  refine wl_call (does_call ca_ref03_T_Imp) (by decide) (ref03_T_Imp_st SB137 er135) ?_
  rintro _ w136 ⟨rfl, S2⟩
  replace S : St A N w w136 [oR a_0 r135.1, oB b131 T_Nd (Nd.C (at_ Nd.z (o22.2.getD []) ((at_ Nd.z (a0.getD []) a3).l))), oB b16 T_Sq (Sq.C ({ a1 with left := r18 })), oB b13 T_Nd (Nd.C (at_ Nd.z (a0.getD []) a3)), oB b2 T_Sq (Sq.C a1)] [] := back _ _ _ _ S2 rfl
  clear back S2 SB137
  refine wd (does_mv_t rfl) ?_
  refine wd (does_extract rfl rfl) ?_
  refine wd (does_extract rfl rfl) ?_
  refine wd (does_as_i rfl) ?_
  refine wd (does_as_i rfl) ?_
  refine wl_nil ?_
  refine wc_seq (wc_seq (wc_region ?_))
  refine wd (does_mv_i rfl) ?_
  refine wd (does_ne rfl rfl) ?_
  refine wl_nil ?_
  refine wc_if rfl (fun hc138 => ?_) (fun hc138 => ?_)
  · replace H := if_t hc138 H
    refine wc_seq (wc_region ?_)
    refine wd (does_mv_i rfl) ?_
    refine wd (does_as_nil) ?_
    refine wd (does_as_i rfl) ?_
    refine wl_nil ?_
    refine wc_ret ?_
    replace S : St A N w w136 [oS T_Sq 17 Sq.C SlV.nil ([] : List Sq), oR a_0 r135.1, oB b131 T_Nd (Nd.C (at_ Nd.z (o22.2.getD []) ((at_ Nd.z (a0.getD []) a3).l))), oB b16 T_Sq (Sq.C ({ a1 with left := r18 })), oB b13 T_Nd (Nd.C (at_ Nd.z (a0.getD []) a3)), oB b2 T_Sq (Sq.C a1)] [] := S.nil T_Sq 17 Sq.C
    refine ⟨_, (rets2 (retOne_tmp rfl) (retOne_tmp rfl)), ?_⟩
    replace S : St A N w w136 [oR a_0 r135.1, oS T_Sq 17 Sq.C SlV.nil ([] : List Sq)] [] := S.arr [1, 0] []
    obtain rfl := Option.some.inj H
    exact ⟨SlV.nil, rfl, S⟩
  replace H := if_f hc138 H
  refine wc_skip ?_
  refine wc_seq ?_
  refine wc_quiet 12 (Ext w136) hmix (by kernel_rfl) (by kernel_rfl) (Ext.drawn _) ?_
  refine wq_does (fun v K => does_load_agg ag_Sq rfl (((S.ext K).blk 2).all _ (Sq.len _)) (Sq.len _)) ?_
  refine wq_does (fun v K => does_mv_i rfl) ?_
  refine wq_does (fun v K => does_mv_i rfl) ?_
  obtain ⟨r139, er139, H⟩ := bind_ex H
  refine wq_call (fun v => does_call ca_ref09_with) (fun v K => (have ⟨M, SS⟩ := (S.ext K).lend ((.nil)); quiet (ref09_with_st SS er139) (fun v w' h => ⟨h.1, _, _, h.2⟩))) (fun v v' K h => K.thenExt h) ?_
  refine wq_does (fun v K => does_fieldAddr fl_Nd_l rfl (o' := 2) rfl) ?_
  refine wq_does (fun v K => does_load on_int rfl (((S.ext K).blk 3).cell (Nd.get_l _))) ?_
  obtain ⟨r140, er140, H⟩ := bind_ex H
  refine wq_call (fun v => does_call ca_ref09_to) (fun v K => (have ⟨M, SS⟩ := (S.ext K).lend ((.nil)); quiet (ref09_to_st SS er140) (fun v w' h => ⟨h.1, _, _, h.2⟩))) (fun v v' K h => K.thenExt h) ?_
  refine wq_does (fun v K => does_load_agg ag_Sq rfl (((S.ext K).blk 2).all _ (Sq.len _)) (Sq.len _)) ?_
  refine wq_does (fun v K => does_fieldAddr fl_Nd_r rfl (o' := 3) rfl) ?_
  refine wq_does (fun v K => does_load on_int rfl (((S.ext K).blk 3).cell (Nd.get_r _))) ?_
  refine wq_does (fun v K => does_fieldAddr fl_Nd_r rfl (o' := 3) rfl) ?_
  refine wq_does (fun v K => does_load on_int rfl (((S.ext K).blk 3).cell (Nd.get_r _))) ?_
  refine wq_nil fun w141 K => ?_
  replace S := S.ext K
  clear K
  obtain ⟨r142, er142, H⟩ := bind_ex H
  obtain ⟨B144, MB144, SB144, back⟩ := S.calln 0 ((.nil))
  refine wl_call (does_call ca_ref09_with) (by decide) (ref09_with_st SB144 er142) ?_
  rintro _ w143 ⟨rfl, S2⟩
  replace S : St A N w w143 [oR a_0 r135.1, oB b131 T_Nd (Nd.C (at_ Nd.z (o22.2.getD []) ((at_ Nd.z (a0.getD []) a3).l))), oB b16 T_Sq (Sq.C ({ a1 with left := r18 })), oB b13 T_Nd (Nd.C (at_ Nd.z (a0.getD []) a3)), oB b2 T_Sq (Sq.C a1)] [] := back _ _ _ _ S2 rfl
  clear back S2 SB144
  refine wl_lits (C := Sq.C) (l := [r140, r142]) (vs := [.agg (Sq.C r140).toArray, .agg (Sq.C r142).toArray]) sl_L_api_Seq el_Sq.zero rfl rfl (fun a _ => Sq.len a) (by decide) rfl (by decide) fun b146 w145 s147 hBw145 hw145 => ?_
  replace S : St A N w w145 [oS T_Sq 17 Sq.C s147 ([r140, r142]), oR a_0 r135.1, oB b131 T_Nd (Nd.C (at_ Nd.z (o22.2.getD []) ((at_ Nd.z (a0.getD []) a3).l))), oB b16 T_Sq (Sq.C ({ a1 with left := r18 })), oB b13 T_Nd (Nd.C (at_ Nd.z (a0.getD []) a3)), oB b2 T_Sq (Sq.C a1)] [] := S.lit hBw145 hw145 (by simp)
  refine wd (does_as_l rfl) ?_
  refine wd (does_as_i rfl) ?_
  refine wl_nil ?_
  refine wc_ret ?_
  refine ⟨_, (rets2 (retOne_tmp rfl) (retOne_tmp rfl)), ?_⟩
  replace S : St A N w w145 [oR a_0 r135.1, oS T_Sq 17 Sq.C s147 ([r140, r142])] [] := S.arr [1, 0] []
  obtain rfl := Option.some.inj H
  exact ⟨s147, rfl, S⟩
end Go.Proofs.YtjjkhjieegmphaaDoor
