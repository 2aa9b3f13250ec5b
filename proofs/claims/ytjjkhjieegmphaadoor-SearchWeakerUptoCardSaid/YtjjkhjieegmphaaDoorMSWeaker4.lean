/- Texts put together: Chapter 09, rules that are chosen: the walks. Printed by pp.py, a program of mine. Chapter 09, premises: the walks. Printed by pp.py, a program of mine. -/
import Derived.Test.YtjjkhjieegmphaaDoorMSWeaker3
set_option linter.unusedVariables false
set_option linter.unusedSimpArgs false
section
namespace Go.Proofs.YtjjkhjieegmphaaDoor
open Gw Go.RowKit
theorem rule_node_st {A : Nat → Prop} {N : Oth} {w : World} {a0 : Tb} {a_0 : Option Addr} {a1 : Int} (S : St A N w w [] [oT a_0 a0]) {r : Nd} (H : rule_node.f a0 a1 = some r) :
    Calls PP F_rule_node #[.pointer a_0, .int .i64 a1] w fun e w' => ∃ v, e = .returned v ∧ (v = .agg (Nd.C r).toArray ∧ St A N w w' [] []) := by
  unfold rule_node.f at H
  refine calls_of_wc (n := 14) fn_rule_node rfl rfl (by simp) ?_
  refine wc_seq (wc_region ?_)
  refine wl_alloc ze_Nd (by decide) fun b2 w1 hw1 => ?_
  replace S : St A N w w1 [oB b2 T_Nd (Nd.C Nd.z)] [oT a_0 a0] := S.new hw1
  refine wl_nil ?_
  refine wc_seq (wc_region ?_)
  refine wd (does_mv_p rfl) ?_
  refine wd (does_mv_i rfl) ?_
  obtain ⟨r3, er3, H⟩ := bind_ex H
  obtain ⟨B5, MB5, SB5, back⟩ := S.calln 0 ((.z 0 rfl .nil))
  refine wl_call (does_call ca_formula_Table_Node) (by decide) (formula_Table_Node_st SB5 er3) ?_
  rintro _ w4 ⟨rfl, S2⟩
  replace S : St A N w w4 [oB b2 T_Nd (Nd.C Nd.z)] [oT a_0 a0] := back _ _ _ _ S2 rfl
  clear back S2 SB5
  refine wd (does_mv_t rfl) ?_
  refine wd (does_extract rfl rfl) ?_
  refine wd (does_extract rfl rfl) ?_
  refine wl_alloc ze_Nd (by decide) fun b7 w6 hw6 => ?_
  replace S : St A N w w6 [oB b7 T_Nd (Nd.C Nd.z), oB b2 T_Nd (Nd.C Nd.z)] [oT a_0 a0] := S.new hw6
  refine wl_store_agg ag_Nd rfl rfl (S.blk 0) (Nd.len _) (by rw [Nd.len]; decide) (Nd.one _) (store_all (Nd.len _)) fun w8 B hw8 zw8 => ?_
  replace S : St A N w w8 [oB b7 T_Nd (Nd.C r3.1), oB b2 T_Nd (Nd.C Nd.z)] [oT a_0 a0] := S.store 0 B hw8
  clear B
  refine wd (does_as_b rfl) ?_
  refine wl_nil ?_
  refine wc_seq (wc_region ?_)
  refine wd (does_load_agg ag_Nd rfl ((S.blk 0).all _ (Nd.len _)) (Nd.len _)) ?_
  refine wl_store_agg ag_Nd rfl rfl (S.blk 1) (Nd.len _) (by rw [Nd.len]; decide) (Nd.one _) (store_all (Nd.len _)) fun w9 B hw9 zw9 => ?_
  replace S : St A N w w9 [oB b2 T_Nd (Nd.C r3.1), oB b7 T_Nd (Nd.C r3.1)] [oT a_0 a0] := S.store 1 B hw9
  clear B
  refine wl_nil ?_
  refine wc_ret ?_
  refine ⟨_, (rets1 (retOne_agg ag_Nd rfl ((S.blk 0).all _ (Nd.len _)) (Nd.len _))), ?_⟩
  replace S : St A N w w9 [] [] := S.arr [] []
  obtain rfl := Option.some.inj H
  exact ⟨rfl, S⟩
theorem rule_on_st {A : Nat → Prop} {N : Oth} {w : World} {a0 : Tb} {a_0 : Option Addr} {a1 : Sq} {a2 : Int} (S : St A N w w [] [oT a_0 a0]) {r : Int} (H : rule_on.f a0 a1 a2 = some r) :
    Calls PP F_rule_on #[.pointer a_0, .agg (Sq.C a1).toArray, .int .i64 a2] w fun e w' => ∃ v, e = .returned v ∧ (v = .int .i64 r ∧ St A N w w' [] []) := by
  unfold rule_on.f at H
  refine calls_of_wc (n := 41) fn_rule_on rfl rfl (by simp) ?_
  refine wc_seq (wc_region ?_)
  refine wl_box_agg rfl (by decide) fun b2 w1 hw1 => ?_
  replace S : St A N w w1 [oB b2 T_Sq (Sq.C a1)] [oT a_0 a0] := S.new hw1
  refine wd (does_as_i rfl) ?_
  refine wl_nil ?_
  refine wc_seq (wc_region ?_)
  refine wd (does_mv_p rfl) ?_
  refine wd (does_mv_i rfl) ?_
  obtain ⟨r3, er3, H⟩ := bind_ex H
  obtain ⟨B5, MB5, SB5, back⟩ := S.calln 0 ((.z 0 rfl .nil))
  refine wl_call (does_call ca_rule_node) (by decide) (rule_node_st SB5 er3) ?_
  rintro _ w4 ⟨rfl, S2⟩
  replace S : St A N w w4 [oB b2 T_Sq (Sq.C a1)] [oT a_0 a0] := back _ _ _ _ S2 rfl
  clear back S2 SB5
  refine wl_alloc ze_Nd (by decide) fun b7 w6 hw6 => ?_
  replace S : St A N w w6 [oB b7 T_Nd (Nd.C Nd.z), oB b2 T_Sq (Sq.C a1)] [oT a_0 a0] := S.new hw6
  refine wl_store_agg ag_Nd rfl rfl (S.blk 0) (Nd.len _) (by rw [Nd.len]; decide) (Nd.one _) (store_all (Nd.len _)) fun w8 B hw8 zw8 => ?_
  replace S : St A N w w8 [oB b7 T_Nd (Nd.C r3), oB b2 T_Sq (Sq.C a1)] [oT a_0 a0] := S.store 0 B hw8
  clear B
  refine wl_nil ?_
  refine wc_seq (wc_seq (wc_region ?_))
  refine wd (does_fieldAddr fl_Nd_kind rfl (o' := 0) rfl) ?_
  refine wd (does_load on_api_Kind rfl ((S.blk 0).cell (Nd.get_kind _))) ?_
  refine wl_nil ?_
  refine wc_block ?_
  refine wc_seq (wc_region ?_)
  refine wd (does_eq rfl rfl) ?_
  refine wd (does_as_b rfl) ?_
  refine wl_nil ?_
  refine wc_if rfl (fun hc9 => ?_) (fun hc9 => ?_)
  · replace H := if_t hc9 H
    refine wc_seq (wc_region ?_)
    refine wd (does_as_i rfl) ?_
    refine wl_nil ?_
    refine wc_ret ?_
    refine ⟨_, (rets1 (retOne_tmp rfl)), ?_⟩
    replace S : St A N w w8 [] [] := S.arr [] []
    obtain rfl := Option.some.inj H
    exact ⟨rfl, S⟩
  replace H := if_f hc9 H
  refine wc_seq (wc_region ?_)
  refine wd (does_eq rfl rfl) ?_
  refine wd (does_as_b rfl) ?_
  refine wl_nil ?_
  refine wc_if rfl (fun hc10 => ?_) (fun hc10 => ?_)
  · replace H := if_t hc10 H
    refine wc_seq (wc_region ?_)
    refine wd (does_as_i rfl) ?_
    refine wl_nil ?_
    refine wc_ret ?_
    refine ⟨_, (rets1 (retOne_tmp rfl)), ?_⟩
    replace S : St A N w w8 [] [] := S.arr [] []
    obtain rfl := Option.some.inj H
    exact ⟨rfl, S⟩
  replace H := if_f hc10 H
  refine wc_seq (wc_region ?_)
  refine wd (does_eq rfl rfl) ?_
  refine wd (does_as_b rfl) ?_
  refine wl_nil ?_
  refine wc_if rfl (fun hc11 => ?_) (fun hc11 => ?_)
  · replace H := if_t hc11 H
    refine wc_seq (wc_region ?_)
    refine wd (does_as_i rfl) ?_
    refine wl_nil ?_
    refine wc_ret ?_
    refine ⟨_, (rets1 (retOne_tmp rfl)), ?_⟩
    replace S : St A N w w8 [] [] := S.arr [] []
    obtain rfl := Option.some.inj H
    exact ⟨rfl, S⟩
  replace H := if_f hc11 H
  refine wc_seq (wc_region ?_)
  refine wd (does_eq rfl rfl) ?_
  refine wd (does_as_b rfl) ?_
  refine wl_nil ?_
  refine wc_if rfl (fun hc12 => ?_) (fun hc12 => ?_)
  · replace H := if_t hc12 H
    refine wc_seq (wc_region ?_)
    refine wd (does_mv_p rfl) ?_
    refine wd (does_fieldAddr fl_Nd_l rfl (o' := 2) rfl) ?_
    refine wd (does_load on_int rfl ((S.blk 0).cell (Nd.get_l _))) ?_
    obtain ⟨r13, er13, H⟩ := bind_ex H
    obtain ⟨B15, MB15, SB15, back⟩ := S.calln 0 ((.z 0 rfl .nil))
    refine wl_call (does_call ca_rule_node) (by decide) (rule_node_st SB15 er13) ?_
    rintro _ w14 ⟨rfl, S2⟩
    replace S : St A N w w14 [oB b7 T_Nd (Nd.C r3), oB b2 T_Sq (Sq.C a1)] [oT a_0 a0] := back _ _ _ _ S2 rfl
    clear back S2 SB15
    refine wd (does_field fv_Nd_kind on_api_Kind rfl (Nd.get_kind _)) ?_
    refine wl_nil ?_
    refine wc_block ?_
    refine wc_seq (wc_region ?_)
    refine wd (does_eq rfl rfl) ?_
    refine wd (does_as_b rfl) ?_
    refine wl_nil ?_
    refine wc_if rfl (fun hc16 => ?_) (fun hc16 => ?_)
    · replace H := if_t hc16 H
      refine wc_seq (wc_region ?_)
      refine wd (does_fieldAddr fl_Sq_left rfl (o' := 0) rfl) ?_
      refine wd (does_load_agg ag_Bits rfl ((S.blk 1).cells (Sq.sub_left _)) (Bits.len _)) ?_
      refine wd (does_fieldAddr fl_Nd_l rfl (o' := 2) rfl) ?_
      refine wd (does_load on_int rfl ((S.blk 0).cell (Nd.get_l _))) ?_
      obtain ⟨r17, er17, H⟩ := bind_ex H
      obtain ⟨B19, MB19, SB19, back⟩ := S.calln 0 ((.nil))
      refine wl_call (does_call ca_bits_Has) (by decide) (bits_Has_st SB19 er17) ?_
      rintro _ w18 ⟨rfl, S2⟩
      replace S : St A N w w18 [oB b7 T_Nd (Nd.C r3), oB b2 T_Sq (Sq.C a1)] [oT a_0 a0] := back _ _ _ _ S2 rfl
      clear back S2 SB19
      refine wl_nil ?_
      refine wc_if rfl (fun hc20 => ?_) (fun hc20 => ?_)
      · replace H := if_t hc20 H
        refine wc_seq (wc_region ?_)
        refine wd (does_as_i rfl) ?_
        refine wl_nil ?_
        refine wc_ret ?_
        refine ⟨_, (rets1 (retOne_tmp rfl)), ?_⟩
        replace S : St A N w w18 [] [] := S.arr [] []
        obtain rfl := Option.some.inj H
        exact ⟨rfl, S⟩
      replace H := if_f hc20 H
      refine wc_skip ?_
      refine wc_seq (wc_region ?_)
      refine wd (does_as_i rfl) ?_
      refine wl_nil ?_
      refine wc_ret ?_
      refine ⟨_, (rets1 (retOne_tmp rfl)), ?_⟩
      replace S : St A N w w18 [] [] := S.arr [] []
      obtain rfl := Option.some.inj H
      exact ⟨rfl, S⟩
    · replace H := if_f hc16 H
      refine wc_seq (wc_region ?_)
      refine wd (does_eq rfl rfl) ?_
      refine wd (does_as_b rfl) ?_
      refine wl_nil ?_
      refine wc_if rfl (fun hc21 => ?_) (fun hc21 => ?_)
      · replace H := if_t hc21 H
        refine wc_seq (wc_region ?_)
        refine wd (does_as_i rfl) ?_
        refine wl_nil ?_
        refine wc_ret ?_
        refine ⟨_, (rets1 (retOne_tmp rfl)), ?_⟩
        replace S : St A N w w14 [] [] := S.arr [] []
        obtain rfl := Option.some.inj H
        exact ⟨rfl, S⟩
      replace H := if_f hc21 H
      refine wc_seq (wc_region ?_)
      refine wd (does_eq rfl rfl) ?_
      refine wd (does_as_b rfl) ?_
      refine wl_nil ?_
      refine wc_if rfl (fun hc22 => ?_) (fun hc22 => ?_)
      · replace H := if_t hc22 H
        refine wc_seq (wc_region ?_)
        refine wd (does_as_i rfl) ?_
        refine wl_nil ?_
        refine wc_ret ?_
        refine ⟨_, (rets1 (retOne_tmp rfl)), ?_⟩
        replace S : St A N w w14 [] [] := S.arr [] []
        obtain rfl := Option.some.inj H
        exact ⟨rfl, S⟩
      replace H := if_f hc22 H
      refine wc_seq (wc_region ?_)
      refine wd (does_eq rfl rfl) ?_
      refine wd (does_as_b rfl) ?_
      refine wl_nil ?_
      refine wc_if rfl (fun hc23 => ?_) (fun hc23 => ?_)
      · replace H := if_t hc23 H
        refine wc_seq (wc_region ?_)
        refine wd (does_as_i rfl) ?_
        refine wl_nil ?_
        refine wc_ret ?_
        refine ⟨_, (rets1 (retOne_tmp rfl)), ?_⟩
        replace S : St A N w w14 [] [] := S.arr [] []
        obtain rfl := Option.some.inj H
        exact ⟨rfl, S⟩
      replace H := if_f hc23 H
      refine wc_seq (wc_region ?_)
      refine wd (does_eq rfl rfl) ?_
      refine wd (does_as_b rfl) ?_
      refine wl_nil ?_
      refine wc_if rfl (fun hc24 => ?_) (fun hc24 => ?_)
      · replace H := if_t hc24 H
        refine wc_seq (wc_region ?_)
        refine wd (does_as_i rfl) ?_
        refine wl_nil ?_
        refine wc_ret ?_
        refine ⟨_, (rets1 (retOne_tmp rfl)), ?_⟩
        replace S : St A N w w14 [] [] := S.arr [] []
        obtain rfl := Option.some.inj H
        exact ⟨rfl, S⟩
      replace H := if_f hc24 H
      refine wc_skip ?_
      refine wc_seq (wc_region ?_)
      refine wd (does_as_i rfl) ?_
      refine wl_nil ?_
      refine wc_ret ?_
      refine ⟨_, (rets1 (retOne_tmp rfl)), ?_⟩
      replace S : St A N w w14 [] [] := S.arr [] []
      obtain rfl := Option.some.inj H
      exact ⟨rfl, S⟩
  · replace H := if_f hc12 H
    refine wc_skip ?_
    refine wc_seq (wc_region ?_)
    refine wd (does_as_i rfl) ?_
    refine wl_nil ?_
    refine wc_ret ?_
    refine ⟨_, (rets1 (retOne_tmp rfl)), ?_⟩
    replace S : St A N w w8 [] [] := S.arr [] []
    obtain rfl := Option.some.inj H
    exact ⟨rfl, S⟩
theorem rule_fits_st {A : Nat → Prop} {N : Oth} {w : World} {a0 : Tb} {a_0 : Option Addr} {a1 : Sq} {a2 : Int} {a3 : Int} (S : St A N w w [] [oT a_0 a0]) {r : Bool} (H : rule_fits.f a0 a1 a2 a3 = some r) :
    Calls PP F_rule_fits #[.pointer a_0, .agg (Sq.C a1).toArray, .int .i64 a2, .int .i64 a3] w fun e w' => ∃ v, e = .returned v ∧ (v = .bool r ∧ St A N w w' [] []) := by
  unfold rule_fits.f at H
  refine calls_of_wc (n := 74) fn_rule_fits rfl rfl (by simp) ?_
  refine wc_seq (wc_region ?_)
  refine wl_box_agg rfl (by decide) fun b2 w1 hw1 => ?_
  replace S : St A N w w1 [oB b2 T_Sq (Sq.C a1)] [oT a_0 a0] := S.new hw1
  refine wd (does_as_b rfl) ?_
  refine wl_nil ?_
  refine wc_seq (wc_seq (wc_region ?_))
  refine wd (does_mv_i rfl) ?_
  refine wd (does_lt rfl rfl) ?_
  refine wd (does_mv_b rfl) ?_
  refine wl_guard (j := 2) (pol := false) rfl rfl rfl (by decide) (fun hg => does_mv_i rfl) (by decide) ?_
  refine wl_guard (j := 2) (pol := false) rfl rfl rfl (by decide) (fun hg => does_mv_p rfl) (by decide) ?_
  obtain ⟨r3, er3, H⟩ := bind_ex H
  refine wl_gcall (j := 2) (pol := false) rfl rfl rfl (by decide) (fun hg => does_callg ca_formula_Table_Len (cons2 (gv_yes hg) rfl)) (by decide) (fun hg => (have ⟨M, SS⟩ := S.lend ((.z 0 rfl .nil)); quiet (formula_Table_Len_st SS (if_t (by simpa using hg) er3)) (fun v w' h => ⟨h.1, _, _, h.2⟩))) fun w4 hw4 => ?_
  replace S := S.ext hw4
  refine wl_guard (j := 2) (pol := false) rfl rfl rfl (by decide) (fun hg => does_ge (gv_yes hg) (gv_yes hg)) (by decide) ?_
  refine wd (does_or rfl (fun hp => (gv_yes (and_1 hp)))) ?_
  refine wl_nil ?_
  refine wc_if rfl (fun hc5 => ?_) (fun hc5 => ?_)
  · replace H := if_t hc5 H
    refine wc_seq (wc_region ?_)
    refine wd (does_as_b rfl) ?_
    refine wl_nil ?_
    refine wc_ret ?_
    refine ⟨_, (rets1 (retOne_tmp rfl)), ?_⟩
    replace S : St A N w w4 [] [] := S.arr [] []
    obtain rfl := Option.some.inj H
    exact ⟨rfl, S⟩
  replace H := if_f hc5 H
  refine wc_skip ?_
  refine wc_seq ?_
  refine wc_quiet 8 (Ext w4) hmix (by kernel_rfl) (by kernel_rfl) (Ext.drawn _) ?_
  refine wq_does (fun v K => does_mv_i rfl) ?_
  refine wq_does (fun v K => does_fieldAddr fl_Sq_goal rfl (o' := 16) rfl) ?_
  refine wq_does (fun v K => does_load on_int rfl (((S.ext K).blk 0).cell (Sq.get_goal _))) ?_
  refine wq_does (fun v K => does_eq rfl rfl) ?_
  refine wq_does (fun v K => does_fieldAddr fl_Sq_left rfl (o' := 0) rfl) ?_
  refine wq_does (fun v K => does_load_agg ag_Bits rfl (((S.ext K).blk 0).cells (Sq.sub_left _)) (Bits.len _)) ?_
  refine wq_does (fun v K => does_mv_i rfl) ?_
  obtain ⟨r6, er6, H⟩ := bind_ex H
  refine wq_call (fun v => does_call ca_bits_Has) (fun v K => (have ⟨M, SS⟩ := (S.ext K).lend ((.nil)); quiet (bits_Has_st SS er6) (fun v w' h => ⟨h.1, _, _, h.2⟩))) (fun v v' K h => K.thenExt h) ?_
  refine wq_nil fun w7 K => ?_
  replace S := S.ext K
  clear K
  refine wd (does_as_b rfl) ?_
  refine wd (does_as_b rfl) ?_
  refine wl_nil ?_
  refine wc_seq (wc_region ?_)
  refine wd (does_mv_p rfl) ?_
  refine wd (does_mv_i rfl) ?_
  obtain ⟨r8, er8, H⟩ := bind_ex H
  obtain ⟨B10, MB10, SB10, back⟩ := S.calln 0 ((.z 0 rfl .nil))
  refine wl_call (does_call ca_rule_node) (by decide) (rule_node_st SB10 er8) ?_
  rintro _ w9 ⟨rfl, S2⟩
  replace S : St A N w w9 [oB b2 T_Sq (Sq.C a1)] [oT a_0 a0] := back _ _ _ _ S2 rfl
  clear back S2 SB10
  refine wd (does_field fv_Nd_kind on_api_Kind rfl (Nd.get_kind _)) ?_
  refine wd (does_as_i rfl) ?_
  refine wl_nil ?_
  refine wc_seq (wc_seq (wc_region ?_))
  refine wd (does_mv_i rfl) ?_
  refine wl_nil ?_
  refine wc_block ?_
  refine wc_seq (wc_region ?_)
  refine wd (does_eq rfl rfl) ?_
  refine wd (does_as_b rfl) ?_
  refine wl_nil ?_
  refine wc_if rfl (fun hc11 => ?_) (fun hc11 => ?_)
  · replace H := if_t hc11 H
    refine wc_seq (wc_region ?_)
    refine wd (does_mv_b rfl) ?_
    refine wd (does_mv_b rfl) ?_
    refine wl_guard (j := 1) (pol := true) rfl rfl rfl (by decide) (fun hg => does_mv_b rfl) (by decide) ?_
    refine wd (does_and rfl (fun hp => (gv_yes (and_1 hp)))) ?_
    refine wd (does_as_b rfl) ?_
    refine wl_nil ?_
    refine wc_ret ?_
    refine ⟨_, (rets1 (retOne_tmp rfl)), ?_⟩
    replace S : St A N w w9 [] [] := S.arr [] []
    obtain rfl := Option.some.inj H
    exact ⟨rfl, S⟩
  replace H := if_f hc11 H
  refine wc_seq (wc_region ?_)
  refine wd (does_eq rfl rfl) ?_
  refine wd (does_as_b rfl) ?_
  refine wl_nil ?_
  refine wc_if rfl (fun hc12 => ?_) (fun hc12 => ?_)
  · replace H := if_t hc12 H
    refine wc_seq (wc_region ?_)
    refine wd (does_mv_b rfl) ?_
    refine wd (does_mv_b rfl) ?_
    refine wl_guard (j := 1) (pol := true) rfl rfl rfl (by decide) (fun hg => does_mv_i rfl) (by decide) ?_
    refine wl_guard (j := 1) (pol := true) rfl rfl rfl (by decide) (fun hg => does_eq (gv_yes hg) rfl) (by decide) ?_
    refine wd (does_and rfl (fun hp => (gv_yes (and_1 hp)))) ?_
    refine wd (does_as_b rfl) ?_
    refine wl_nil ?_
    refine wc_ret ?_
    refine ⟨_, (rets1 (retOne_tmp rfl)), ?_⟩
    replace S : St A N w w9 [] [] := S.arr [] []
    obtain rfl := Option.some.inj H
    exact ⟨rfl, S⟩
  replace H := if_f hc12 H
  refine wc_seq (wc_region ?_)
  refine wd (does_eq rfl rfl) ?_
  refine wd (does_as_b rfl) ?_
  refine wl_nil ?_
  refine wc_if rfl (fun hc13 => ?_) (fun hc13 => ?_)
  · replace H := if_t hc13 H
    refine wc_seq (wc_region ?_)
    refine wd (does_mv_b rfl) ?_
    refine wd (does_mv_b rfl) ?_
    refine wl_guard (j := 1) (pol := true) rfl rfl rfl (by decide) (fun hg => does_mv_i rfl) (by decide) ?_
    refine wl_guard (j := 1) (pol := true) rfl rfl rfl (by decide) (fun hg => does_eq (gv_yes hg) rfl) (by decide) ?_
    refine wd (does_and rfl (fun hp => (gv_yes (and_1 hp)))) ?_
    refine wd (does_as_b rfl) ?_
    refine wl_nil ?_
    refine wc_ret ?_
    refine ⟨_, (rets1 (retOne_tmp rfl)), ?_⟩
    replace S : St A N w w9 [] [] := S.arr [] []
    obtain rfl := Option.some.inj H
    exact ⟨rfl, S⟩
  replace H := if_f hc13 H
  refine wc_seq (wc_seq (wc_region ?_))
  refine wd (does_eq rfl rfl) ?_
  refine wd (does_as_b rfl) ?_
  refine wl_nil ?_
  obtain ⟨o14, e14, Ho14⟩ := bind_ex H
  replace H := e14; clear e14
  refine wc_cutq [53, 55] (fun fr W => fr 53 = .bool o14 ∧ St A N w W [oB b2 T_Sq (Sq.C a1)] [oT a_0 a0]) ?_ ?_
  · refine wc_if rfl (fun hc15 => ?_) (fun hc15 => ?_)
    · replace H := if_t hc15 H
      refine wc_skip ?_
      obtain rfl := Option.some.inj H
      exact ⟨rfl, (Dif.refl _ _), rfl, S⟩
    · replace H := if_f hc15 H
      refine wc_region ?_
      refine wd (does_eq rfl rfl) ?_
      refine wd (does_as_b rfl) ?_
      refine wl_nil ?_
      obtain rfl := Option.some.inj H
      exact ⟨rfl, (((Dif.refl _ _).upd rfl _).upd rfl _), rfl, S⟩
  rintro g16 u17 ⟨p14_53, S⟩
  have H := Ho14
  refine wc_if p14_53 (fun hc18 => ?_) (fun hc18 => ?_)
  · replace H := if_t hc18 H
    refine wc_seq (wc_region ?_)
    refine wd (does_mv_b rfl) ?_
    refine wd (does_mv_b rfl) ?_
    refine wl_guard (j := 1) (pol := true) rfl rfl rfl (by decide) (fun hg => does_mv_i rfl) (by decide) ?_
    refine wl_guard (j := 1) (pol := true) rfl rfl rfl (by decide) (fun hg => does_eq (gv_yes hg) rfl) (by decide) ?_
    refine wd (does_and rfl (fun hp => (gv_yes (and_1 hp)))) ?_
    refine wd (does_as_b rfl) ?_
    refine wl_nil ?_
    refine wc_ret ?_
    refine ⟨_, (rets1 (retOne_tmp rfl)), ?_⟩
    replace S : St A N w u17 [] [] := S.arr [] []
    obtain rfl := Option.some.inj H
    exact ⟨rfl, S⟩
  replace H := if_f hc18 H
  refine wc_skip ?_
  refine wc_seq (wc_region ?_)
  refine wd (does_mv_i rfl) ?_
  refine wd (does_ne rfl rfl) ?_
  refine wd (does_mv_b rfl) ?_
  refine wl_guard (j := 2) (pol := true) rfl rfl rfl (by decide) (fun hg => does_mv_b rfl) (by decide) ?_
  refine wd (does_and rfl (fun hp => (gv_yes (and_1 hp)))) ?_
  refine wd (does_mv_b rfl) ?_
  refine wl_guard (j := 5) (pol := true) rfl rfl rfl (by decide) (fun hg => does_mv_p rfl) (by decide) ?_
  refine wl_guard (j := 5) (pol := true) rfl rfl rfl (by decide) (fun hg => does_load_agg ag_Sq rfl ((S.blk 0).all _ (Sq.len _)) (Sq.len _)) (by decide) ?_
  refine wl_guard (j := 5) (pol := true) rfl rfl rfl (by decide) (fun hg => does_mv_i rfl) (by decide) ?_
  obtain ⟨r19, er19, H⟩ := bind_ex H
  refine wl_gcall (j := 5) (pol := true) rfl rfl rfl (by decide) (fun hg => does_callg ca_rule_on (cons2 (gv_yes hg) (cons2 (gv_yes hg) (cons2 (gv_yes hg) rfl)))) (by decide) (fun hg => (have ⟨M, SS⟩ := S.lend ((.z 0 rfl .nil)); quiet (rule_on_st SS (if_t (by simpa using hg) er19)) (fun v w' h => ⟨h.1, _, _, h.2⟩))) fun w20 hw20 => ?_
  replace S := S.ext hw20
  refine wl_guard (j := 5) (pol := true) rfl rfl rfl (by decide) (fun hg => does_mv_i rfl) (by decide) ?_
  refine wl_guard (j := 5) (pol := true) rfl rfl rfl (by decide) (fun hg => does_eq (gv_yes hg) (gv_yes hg)) (by decide) ?_
  refine wd (does_and rfl (fun hp => (gv_yes (and_1 hp)))) ?_
  refine wd (does_as_b rfl) ?_
  refine wl_nil ?_
  refine wc_ret ?_
  refine ⟨_, (rets1 (retOne_tmp rfl)), ?_⟩
  replace S : St A N w w20 [] [] := S.arr [] []
  obtain rfl := Option.some.inj H
  exact ⟨rfl, S⟩
theorem rule_with_st {A : Nat → Prop} {N : Oth} {w : World} {a0 : Sq} {a1 : List Int} {s_1 : SlV} (S : St A N w w [] [fS 1 IC s_1 a1]) {r : Sq} (H : rule_with.f a0 a1 = some r) :
    Calls PP F_rule_with #[.agg (Sq.C a0).toArray, s_1.v] w fun e w' => ∃ v, e = .returned v ∧ (v = .agg (Sq.C r).toArray ∧ St A N w w' [] []) := by
  unfold rule_with.f at H
  refine calls_of_wc (n := 18) fn_rule_with rfl rfl (by simp) ?_
  refine wc_seq (wc_region ?_)
  refine wl_box_agg rfl (by decide) fun b2 w1 hw1 => ?_
  replace S : St A N w w1 [oB b2 T_Sq (Sq.C a0)] [fS 1 IC s_1 a1] := S.new hw1
  refine wl_alloc ze_Sq (by decide) fun b4 w3 hw3 => ?_
  replace S : St A N w w3 [oB b4 T_Sq (Sq.C Sq.z), oB b2 T_Sq (Sq.C a0)] [fS 1 IC s_1 a1] := S.new hw3
  refine wl_nil ?_
  refine wc_seq (wc_region ?_)
  refine wd (does_mv_l rfl) ?_
  obtain ⟨r5, er5, H⟩ := bind_ex H
  obtain ⟨B7, MB7, SB7, back⟩ := S.calln 0 ((.z 0 rfl .nil))
  refine wl_call (does_call ca_bits_Of) (by decide) (bits_Of_st SB7 er5) ?_
  rintro _ w6 ⟨rfl, S2⟩
  replace S : St A N w w6 [oB b4 T_Sq (Sq.C Sq.z), oB b2 T_Sq (Sq.C a0)] [fS 1 IC s_1 a1] := back _ _ _ _ S2 rfl
  clear back S2 SB7
  refine wd (does_mv_t rfl) ?_
  refine wd (does_extract rfl rfl) ?_
  refine wd (does_extract rfl rfl) ?_
  refine wl_alloc ze_Bits (by decide) fun b9 w8 hw8 => ?_
  replace S : St A N w w8 [oB b9 T_Bits (Bits.C Bits.z), oB b4 T_Sq (Sq.C Sq.z), oB b2 T_Sq (Sq.C a0)] [fS 1 IC s_1 a1] := S.new hw8
  refine wl_store_agg ag_Bits rfl rfl (S.blk 0) (Bits.len _) (by rw [Bits.len]; decide) (Bits.one _) (store_all (Bits.len _)) fun w10 B hw10 zw10 => ?_
  replace S : St A N w w10 [oB b9 T_Bits (Bits.C r5.1), oB b4 T_Sq (Sq.C Sq.z), oB b2 T_Sq (Sq.C a0)] [fS 1 IC s_1 a1] := S.store 0 B hw10
  clear B
  refine wd (does_as_i rfl) ?_
  refine wl_nil ?_
  refine wc_seq (wc_region ?_)
  refine wd (does_fieldAddr fl_Sq_left rfl (o' := 0) rfl) ?_
  refine wd (does_load_agg ag_Bits rfl ((S.blk 2).cells (Sq.sub_left _)) (Bits.len _)) ?_
  refine wd (does_load_agg ag_Bits rfl ((S.blk 0).all _ (Bits.len _)) (Bits.len _)) ?_
  obtain ⟨r11, er11, H⟩ := bind_ex H
  obtain ⟨B13, MB13, SB13, back⟩ := S.calln 0 ((.nil))
  refine wl_call (does_call ca_bits_Union) (by decide) (bits_Union_st SB13 er11) ?_
  rintro _ w12 ⟨rfl, S2⟩
  replace S : St A N w w12 [oB b9 T_Bits (Bits.C r5.1), oB b4 T_Sq (Sq.C Sq.z), oB b2 T_Sq (Sq.C a0)] [fS 1 IC s_1 a1] := back _ _ _ _ S2 rfl
  clear back S2 SB13
  refine wd (does_fieldAddr fl_Sq_left rfl (o' := 0) rfl) ?_
  refine wl_store_agg ag_Bits rfl rfl (S.blk 2) (Bits.len _) (by rw [Sq.len]; decide) (Bits.one _) (Sq.put_left _ _) fun w14 B hw14 zw14 => ?_
  replace S : St A N w w14 [oB b2 T_Sq (Sq.C ({ a0 with left := r11 })), oB b9 T_Bits (Bits.C r5.1), oB b4 T_Sq (Sq.C Sq.z)] [fS 1 IC s_1 a1] := S.store 2 B hw14
  clear B
  refine wl_nil ?_
  refine wc_seq (wc_region ?_)
  refine wd (does_load_agg ag_Sq rfl ((S.blk 0).all _ (Sq.len _)) (Sq.len _)) ?_
  refine wl_store_agg ag_Sq rfl rfl (S.blk 2) (Sq.len _) (by rw [Sq.len]; decide) (Sq.one _) (store_all (Sq.len _)) fun w15 B hw15 zw15 => ?_
  replace S : St A N w w15 [oB b4 T_Sq (Sq.C ({ a0 with left := r11 })), oB b2 T_Sq (Sq.C ({ a0 with left := r11 })), oB b9 T_Bits (Bits.C r5.1)] [fS 1 IC s_1 a1] := S.store 2 B hw15
  clear B
  refine wl_nil ?_
  refine wc_ret ?_
  refine ⟨_, (rets1 (retOne_agg ag_Sq rfl ((S.blk 0).all _ (Sq.len _)) (Sq.len _))), ?_⟩
  replace S : St A N w w15 [] [] := S.arr [] []
  obtain rfl := Option.some.inj H
  exact ⟨rfl, S⟩
theorem rule_to_st {A : Nat → Prop} {N : Oth} {w : World} {a0 : Sq} {a1 : Int} (S : St A N w w [] []) {r : Sq} (H : rule_to.f a0 a1 = some r) :
    Calls PP F_rule_to #[.agg (Sq.C a0).toArray, .int .i64 a1] w fun e w' => ∃ v, e = .returned v ∧ (v = .agg (Sq.C r).toArray ∧ St A N w w' [] []) := by
  unfold rule_to.f at H
  refine calls_of_wc (n := 8) fn_rule_to rfl rfl (by simp) ?_
  refine wc_seq (wc_region ?_)
  refine wl_box_agg rfl (by decide) fun b2 w1 hw1 => ?_
  replace S : St A N w w1 [oB b2 T_Sq (Sq.C a0)] [] := S.new hw1
  refine wl_alloc ze_Sq (by decide) fun b4 w3 hw3 => ?_
  replace S : St A N w w3 [oB b4 T_Sq (Sq.C Sq.z), oB b2 T_Sq (Sq.C a0)] [] := S.new hw3
  refine wl_nil ?_
  refine wc_seq (wc_region ?_)
  refine wd (does_mv_i rfl) ?_
  refine wd (does_fieldAddr fl_Sq_goal rfl (o' := 16) rfl) ?_
  refine wl_store on_int rfl rfl (S.blk 1) (by rw [Sq.len]; decide) rfl (Sq.set_goal _ _) fun w5 B hw5 zw5 => ?_
  replace S : St A N w w5 [oB b2 T_Sq (Sq.C ({ a0 with goal := a1 })), oB b4 T_Sq (Sq.C Sq.z)] [] := S.store 1 B hw5
  clear B
  refine wl_nil ?_
  refine wc_seq (wc_region ?_)
  refine wd (does_load_agg ag_Sq rfl ((S.blk 0).all _ (Sq.len _)) (Sq.len _)) ?_
  refine wl_store_agg ag_Sq rfl rfl (S.blk 1) (Sq.len _) (by rw [Sq.len]; decide) (Sq.one _) (store_all (Sq.len _)) fun w6 B hw6 zw6 => ?_
  replace S : St A N w w6 [oB b4 T_Sq (Sq.C ({ a0 with goal := a1 })), oB b2 T_Sq (Sq.C ({ a0 with goal := a1 }))] [] := S.store 1 B hw6
  clear B
  refine wl_nil ?_
  refine wc_ret ?_
  refine ⟨_, (rets1 (retOne_agg ag_Sq rfl ((S.blk 0).all _ (Sq.len _)) (Sq.len _))), ?_⟩
  replace S : St A N w w6 [] [] := S.arr [] []
  obtain rfl := Option.some.inj H
  exact ⟨rfl, S⟩
theorem rule_look_st {A : Nat → Prop} {N : Oth} {w : World} {a0 : Tb} {a_0 : Option Addr} {a1 : Sq} (S : St A N w w [] [oT a_0 a0, oTz]) {r : Int} (H : rule_look.f a0 a1 = some r) :
    Calls PP F_rule_look #[.pointer a_0, .agg (Sq.C a1).toArray] w fun e w' => ∃ v, e = .returned v ∧ (v = .int .i64 r ∧ St A N w w' [] []) := by
  unfold rule_look.f at H
  refine calls_of_wc (n := 34) fn_rule_look rfl rfl (by simp) ?_
  refine wc_seq (wc_region ?_)
  refine wl_box_p rfl (by decide) fun b2 w1 hw1 => ?_
  replace S : St A N w w1 [oB b2 T_dictum_formula_has [.pointer a_0]] [oT a_0 a0, oTz] := S.new hw1
  refine wl_box_agg rfl (by decide) fun b4 w3 hw3 => ?_
  replace S : St A N w w3 [oB b4 T_Sq (Sq.C a1), oB b2 T_dictum_formula_has [.pointer a_0]] [oT a_0 a0, oTz] := S.new hw3
  refine wl_alloc ze_api_Errno (by decide) fun b6 w5 hw5 => ?_
  replace S : St A N w w5 [oB b6 T_api_Errno [.int .i64 0], oB b4 T_Sq (Sq.C a1), oB b2 T_dictum_formula_has [.pointer a_0]] [oT a_0 a0, oTz] := S.new hw5
  refine wl_nil ?_
  refine wc_seq (wc_seq (wc_region ?_))
  refine wd (does_load on_dictum_formula_has rfl ((S.blk 2).cell rfl)) ?_
  obtain ⟨r7, er7, H⟩ := bind_ex H
  obtain ⟨B9, MB9, SB9, back⟩ := S.calln 0 ((.z 0 rfl .nil))
  refine wl_call (does_call ca_formula_Table_Not) (by decide) (formula_Table_Not_neg_st SB9 rfl er7) ?_
  rintro _ w8 ⟨rfl, S2⟩
  replace S : St A N w w8 [oB b6 T_api_Errno [.int .i64 0], oB b4 T_Sq (Sq.C a1), oB b2 T_dictum_formula_has [.pointer a_0]] [oT a_0 a0, oTz] := back _ _ _ _ S2 rfl
  clear back S2 SB9
  refine wd (does_mv_t rfl) ?_
  refine wd (does_extract rfl rfl) ?_
  refine wd (does_extract rfl rfl) ?_
  refine wd (does_as_i rfl) ?_
  refine wd (does_as_i rfl) ?_
  refine wl_nil ?_
  refine wc_seq (wc_region ?_)
  refine wd (does_mv_i rfl) ?_
  refine wd (does_eq rfl rfl) ?_
  refine wl_nil ?_
  refine wc_if rfl (fun hc10 => ?_) (fun hc10 => ?_)
  · replace H := if_t hc10 H
    refine wc_seq (wc_region ?_)
    refine wd (does_mv_i rfl) ?_
    refine wl_store on_api_Errno rfl rfl (S.blk 0) (by simp) rfl rfl fun w11 B hw11 zw11 => ?_
    replace S : St A N w w11 [oB b6 T_api_Errno [.int .i64 r7.2], oB b4 T_Sq (Sq.C a1), oB b2 T_dictum_formula_has [.pointer a_0]] [oT a_0 a0, oTz] := S.store 0 B hw11
    clear B
    refine wl_nil ?_
    refine wc_ret ?_
    refine ⟨_, (rets1 (retOne_one on_api_Errno rfl ((S.blk 0).cell rfl))), ?_⟩
    replace S : St A N w w11 [] [] := S.arr [] []
    obtain rfl := Option.some.inj H
    exact ⟨rfl, S⟩
  replace H := if_f hc10 H
  refine wc_skip ?_
  refine wc_seq (wc_seq (wc_region ?_))
  refine wd (does_fieldAddr fl_Sq_left rfl (o' := 0) rfl) ?_
  refine wd (does_load_agg ag_Bits rfl ((S.blk 1).cells (Sq.sub_left _)) (Bits.len _)) ?_
  refine wl_call (does_call ca_bits_All) (by decide) (bits_All_ok _ a1.left) ?_
  rintro _ w12 ⟨c13, rfl, Bc13, hc13, Ec13⟩
  replace S : St A N w w12 [oB b6 T_api_Errno [.int .i64 0], oB b4 T_Sq (Sq.C a1), oB b2 T_dictum_formula_has [.pointer a_0]] [oB c13 T_Bits (Bits.C a1.left), oT a_0 a0, oTz] := S.addZ (b := oB c13 T_Bits (Bits.C a1.left)) (G := (· = c13)) Ec13 ⟨Bc13, fun _ => Iff.rfl⟩ (fun i hi => by rw [hi]; exact hc13)
  refine wl_nil ?_
  refine wc_block ?_
  obtain ⟨hok14, H⟩ := chk_ex H
  obtain ⟨o15, e15, Ho15⟩ := bind_ex H
  clear H
  refine wc_rangeSt (xs := Bits.list a1.left) (enc := fun (x : Nat) => Value.int .i64 (x : Int)) (bd := (fun (x : Nat) (s : Int) => rule_look.b0 a0 (x : Int) s)) (L := (fun (s : Int) (c : Unit) => [oB b6 T_api_Errno [.int .i64 s], oB b4 T_Sq (Sq.C a1), oB b2 T_dictum_formula_has [.pointer a_0]])) (Lr := (fun (s : Int) (c : Unit) => [oB b6 T_api_Errno [.int .i64 s], oB b4 T_Sq (Sq.C a1), oB b2 T_dictum_formula_has [.pointer a_0]])) (Z := [oB c13 T_Bits (Bits.C a1.left), oT a_0 a0, oTz]) () false 0 rfl ca_bits_All_1 (bits_All_1_gives (Bits.okB_ok hok14) c13) (by decide) (fun N' s c W h => ⟨h.blkZ 0, h.tz 2⟩) S e15 ?_ ?_ ?_ ?_
  · rintro i15 x15_0 _ q15 N15 rd u15 H S
    replace S : St A N15 w u15 [oB b6 T_api_Errno [.int .i64 x15_0], oB b4 T_Sq (Sq.C a1), oB b2 T_dictum_formula_has [.pointer a_0]] [oB c13 T_Bits (Bits.C a1.left), oT a_0 a0, oTz] := S
    refine wc_region ?_
    refine wd (does_as_i rfl) ?_
    refine wl_nil ?_
    refine ⟨rfl, S, fun M15 v15 S => ?_⟩
    replace S : St A M15 w v15 [oB b6 T_api_Errno [.int .i64 x15_0], oB b4 T_Sq (Sq.C a1), oB b2 T_dictum_formula_has [.pointer a_0]] [oB c13 T_Bits (Bits.C a1.left), oT a_0 a0, oTz] := S
    replace H : rule_look.b0 a0 (i15 : Int) x15_0 = some q15 := H
    unfold rule_look.b0 at H
    try dsimp only at H
    refine wc_block ?_
    refine wc_seq (wc_region ?_)
    refine wd (does_mv_i rfl) ?_
    refine wd (does_load on_dictum_formula_has rfl ((S.blk 2).cell rfl)) ?_
    obtain ⟨r16, er16, H⟩ := bind_ex H
    obtain ⟨B18, MB18, SB18, back⟩ := S.calln 0 ((.z 1 rfl .nil))
    refine wl_call (does_call ca_formula_Table_Len) (by decide) (formula_Table_Len_st SB18 er16) ?_
    rintro _ w17 ⟨rfl, S2⟩
    replace S : St A M15 w w17 [oB b6 T_api_Errno [.int .i64 x15_0], oB b4 T_Sq (Sq.C a1), oB b2 T_dictum_formula_has [.pointer a_0]] [oB c13 T_Bits (Bits.C a1.left), oT a_0 a0, oTz] := back _ _ _ _ S2 rfl
    clear back S2 SB18
    refine wd (does_ge rfl rfl) ?_
    refine wl_nil ?_
    refine wc_if rfl (fun hc19 => ?_) (fun hc19 => ?_)
    · replace H := if_t hc19 H
      refine wc_seq (wc_region ?_)
      refine wl_store on_api_Errno rfl rfl (S.blk 0) (by simp) rfl rfl fun w20 B hw20 zw20 => ?_
      replace S : St A M15 w w20 [oB b6 T_api_Errno [.int .i64 31], oB b4 T_Sq (Sq.C a1), oB b2 T_dictum_formula_has [.pointer a_0]] [oB c13 T_Bits (Bits.C a1.left), oT a_0 a0, oTz] := S.store 0 B hw20
      clear B
      refine wl_nil ?_
      refine wc_ret ?_
      obtain rfl := Option.some.inj H
      exact ⟨_, rfl, (), S⟩
    replace H := if_f hc19 H
    refine wc_skip ?_
    obtain rfl := Option.some.inj H
    exact ⟨_, rfl, (), S⟩
  · rintro s15 _ B15 w21 rfl S hB15
    replace S : St A (N.done B15) w w21 [oB b6 T_api_Errno [.int .i64 s15], oB b4 T_Sq (Sq.C a1), oB b2 T_dictum_formula_has [.pointer a_0]] [oB c13 T_Bits (Bits.C a1.left), oT a_0 a0, oTz] := S
    have H := Ho15
    dsimp only [fin] at H
    refine wc_seq ?_
    refine wc_seq ?_
    refine wc_quiet 8 (Ext w21) hmix (by kernel_rfl) (by kernel_rfl) (Ext.drawn _) ?_
    refine wq_does (fun v K => does_fieldAddr fl_Sq_goal rfl (o' := 16) rfl) ?_
    refine wq_does (fun v K => does_load on_int rfl (((S.ext K).blk 1).cell (Sq.get_goal _))) ?_
    refine wq_does (fun v K => does_lt rfl rfl) ?_
    refine wq_does (fun v K => does_mv_b rfl) ?_
    refine wq_guard (j := 3) (pol := false) rfl rfl rfl (fun hg v K => does_fieldAddr fl_Sq_goal rfl (o' := 16) rfl) ?_
    refine wq_guard (j := 3) (pol := false) rfl rfl rfl (fun hg v K => does_load on_int (gv_yes hg) (((S.ext K).blk 1).cell (Sq.get_goal _))) ?_
    refine wq_guard (j := 3) (pol := false) rfl rfl rfl (fun hg v K => does_load on_dictum_formula_has rfl (((S.ext K).blk 2).cell rfl)) ?_
    obtain ⟨r22, er22, H⟩ := bind_ex H
    refine wq_gcall (j := 3) (pol := false) rfl rfl rfl (fun hg v => does_callg ca_formula_Table_Len (cons2 (gv_yes hg) rfl)) (fun hg v K => (have ⟨M, SS⟩ := (S.ext K).lend ((.z 1 rfl .nil)); quiet (formula_Table_Len_st SS (if_t (by simpa using hg) er22)) (fun v w' h => ⟨h.1, _, _, h.2⟩))) (fun v v' K h => K.thenExt h) ?_
    refine wq_nil fun w23 K => ?_
    replace S := S.ext K
    clear K
    refine wl_guard (j := 3) (pol := false) rfl rfl rfl (by decide) (fun hg => does_ge (gv_yes hg) (gv_yes hg)) (by decide) ?_
    refine wd (does_or rfl (fun hp => (gv_yes (and_1 hp)))) ?_
    refine wl_nil ?_
    refine wc_if rfl (fun hc24 => ?_) (fun hc24 => ?_)
    · replace H := if_t hc24 H
      refine wc_seq (wc_region ?_)
      refine wl_store on_api_Errno rfl rfl (S.blk 0) (by simp) rfl rfl fun w25 B hw25 zw25 => ?_
      replace S : St A (N.done B15) w w25 [oB b6 T_api_Errno [.int .i64 31], oB b4 T_Sq (Sq.C a1), oB b2 T_dictum_formula_has [.pointer a_0]] [oB c13 T_Bits (Bits.C a1.left), oT a_0 a0, oTz] := S.store 0 B hw25
      clear B
      refine wl_nil ?_
      refine wc_ret ?_
      refine end1 (.inl rfl) (S.take hB15).1 fun w26 hcw26 => ?_
      replace S : St A N w w26 [oB b6 T_api_Errno [.int .i64 31], oB b4 T_Sq (Sq.C a1), oB b2 T_dictum_formula_has [.pointer a_0]] [oB c13 T_Bits (Bits.C a1.left), oT a_0 a0, oTz] := (S.take hB15).2 _ hcw26
      refine ⟨_, (rets1 (retOne_one on_api_Errno rfl ((S.blk 0).cell rfl))), ?_⟩
      replace S : St A N w w26 [] [] := S.arr [] []
      obtain rfl := Option.some.inj H
      exact ⟨rfl, S⟩
    replace H := if_f hc24 H
    refine wc_skip ?_
    refine wc_seq (wc_region ?_)
    refine wl_store on_api_Errno rfl rfl (S.blk 0) (by simp) rfl rfl fun w27 B hw27 zw27 => ?_
    replace S : St A (N.done B15) w w27 [oB b6 T_api_Errno [.int .i64 0], oB b4 T_Sq (Sq.C a1), oB b2 T_dictum_formula_has [.pointer a_0]] [oB c13 T_Bits (Bits.C a1.left), oT a_0 a0, oTz] := S.store 0 B hw27
    clear B
    refine wl_nil ?_
    refine wc_ret ?_
    refine end1 (.inl rfl) (S.take hB15).1 fun w28 hcw28 => ?_
    replace S : St A N w w28 [oB b6 T_api_Errno [.int .i64 0], oB b4 T_Sq (Sq.C a1), oB b2 T_dictum_formula_has [.pointer a_0]] [oB c13 T_Bits (Bits.C a1.left), oT a_0 a0, oTz] := (S.take hB15).2 _ hcw28
    refine ⟨_, (rets1 (retOne_one on_api_Errno rfl ((S.blk 0).cell rfl))), ?_⟩
    replace S : St A N w w28 [] [] := S.arr [] []
    obtain rfl := Option.some.inj H
    exact ⟨rfl, S⟩
  · rintro s15 _ B15 w29 rfl S hB15
    replace S : St A (N.done B15) w w29 [oB b6 T_api_Errno [.int .i64 s15], oB b4 T_Sq (Sq.C a1), oB b2 T_dictum_formula_has [.pointer a_0]] [oB c13 T_Bits (Bits.C a1.left), oT a_0 a0, oTz] := S
    have H := Ho15
    dsimp only [fin] at H
    refine end1 (.inl rfl) (S.take hB15).1 fun w30 hcw30 => ?_
    replace S : St A N w w30 [oB b6 T_api_Errno [.int .i64 s15], oB b4 T_Sq (Sq.C a1), oB b2 T_dictum_formula_has [.pointer a_0]] [oB c13 T_Bits (Bits.C a1.left), oT a_0 a0, oTz] := (S.take hB15).2 _ hcw30
    refine ⟨_, (rets1 (retOne_one on_api_Errno rfl ((S.blk 0).cell rfl))), ?_⟩
    replace S : St A N w w30 [] [] := S.arr [] []
    obtain rfl := Option.some.inj H
    exact ⟨rfl, S⟩
  · intro h; cases h
theorem rule_apply_1_1_st {A : Nat → Prop} {N : Oth} {w : World} {a0 : Int} (S : St A N w w [] []) {r : Bool} (H : rule_apply_1_1.f a0 = some r) :
    Calls PP F_rule_apply_1_1 #[.int .i64 a0] w fun e w' => ∃ v, e = .returned v ∧ (v = .bool r ∧ St A N w w' [] []) := by
  unfold rule_apply_1_1.f at H
  refine calls_of_wc (n := 5) fn_rule_apply_1_1 rfl rfl (by simp) ?_
  refine wc_seq (wc_region ?_)
  refine wd (does_as_b rfl) ?_
  refine wl_nil ?_
  refine wc_seq (wc_region ?_)
  refine wd (does_mv_i rfl) ?_
  refine wd (does_eq rfl rfl) ?_
  refine wd (does_as_b rfl) ?_
  refine wl_nil ?_
  refine wc_ret ?_
  refine ⟨_, (rets1 (retOne_tmp rfl)), ?_⟩
  obtain rfl := Option.some.inj H
  exact ⟨rfl, S⟩
theorem rule_least__rule_apply_1_1_st {A : Nat → Prop} {N : Oth} {w : World} {a0 : Tb} {a_0 : Option Addr} {a1 : Sq} (S : St A N w w [] [oT a_0 a0, oTz]) {r : Fnd × Bool} (H : rule_least__rule_apply_1_1.f a0 a1 = some r) :
    Calls PP F_rule_least #[.pointer a_0, .agg (Sq.C a1).toArray, .func (.func F_rule_apply_1_1) #[] #[]] w fun e w' => ∃ v, e = .returned v ∧ (v = .tuple #[.agg (Fnd.C r.1).toArray, .bool r.2] ∧ St A N w w' [] []) := by
  unfold rule_least__rule_apply_1_1.f at H
  refine calls_of_wc (n := 25) fn_rule_least rfl rfl (by simp) ?_
  refine wc_seq (wc_region ?_)
  refine wl_box_p rfl (by decide) fun b2 w1 hw1 => ?_
  replace S : St A N w w1 [oB b2 T_dictum_formula_has [.pointer a_0]] [oT a_0 a0, oTz] := S.new hw1
  refine wl_box_agg rfl (by decide) fun b4 w3 hw3 => ?_
  replace S : St A N w w3 [oB b4 T_Sq (Sq.C a1), oB b2 T_dictum_formula_has [.pointer a_0]] [oT a_0 a0, oTz] := S.new hw3
  refine wl_box_f rfl (by decide) fun b6 w5 hw5 => ?_
  replace S : St A N w w5 [oB b6 T_func_api_Rule_bool [.func (.func F_rule_apply_1_1) #[] #[]], oB b4 T_Sq (Sq.C a1), oB b2 T_dictum_formula_has [.pointer a_0]] [oT a_0 a0, oTz] := S.new hw5
  refine wl_alloc ze_Fnd (by decide) fun b8 w7 hw7 => ?_
  replace S : St A N w w7 [oB b8 T_Fnd (Fnd.C Fnd.z), oB b6 T_func_api_Rule_bool [.func (.func F_rule_apply_1_1) #[] #[]], oB b4 T_Sq (Sq.C a1), oB b2 T_dictum_formula_has [.pointer a_0]] [oT a_0 a0, oTz] := S.new hw7
  refine wl_alloc ze_bool (by decide) fun b10 w9 hw9 => ?_
  replace S : St A N w w9 [oB b10 T_bool [.bool false], oB b8 T_Fnd (Fnd.C Fnd.z), oB b6 T_func_api_Rule_bool [.func (.func F_rule_apply_1_1) #[] #[]], oB b4 T_Sq (Sq.C a1), oB b2 T_dictum_formula_has [.pointer a_0]] [oT a_0 a0, oTz] := S.new hw9
  refine wl_nil ?_
  refine wc_seq (wc_seq (wc_region ?_))
  refine wd (does_fieldAddr fl_Sq_left rfl (o' := 0) rfl) ?_
  refine wd (does_load_agg ag_Bits rfl ((S.blk 3).cells (Sq.sub_left _)) (Bits.len _)) ?_
  refine wl_call (does_call ca_bits_All) (by decide) (bits_All_ok _ a1.left) ?_
  rintro _ w11 ⟨c12, rfl, Bc12, hc12, Ec12⟩
  replace S : St A N w w11 [oB b10 T_bool [.bool false], oB b8 T_Fnd (Fnd.C Fnd.z), oB b6 T_func_api_Rule_bool [.func (.func F_rule_apply_1_1) #[] #[]], oB b4 T_Sq (Sq.C a1), oB b2 T_dictum_formula_has [.pointer a_0]] [oB c12 T_Bits (Bits.C a1.left), oT a_0 a0, oTz] := S.addZ (b := oB c12 T_Bits (Bits.C a1.left)) (G := (· = c12)) Ec12 ⟨Bc12, fun _ => Iff.rfl⟩ (fun i hi => by rw [hi]; exact hc12)
  refine wl_nil ?_
  refine wc_block ?_
  obtain ⟨hok13, H⟩ := chk_ex H
  obtain ⟨o14, e14, Ho14⟩ := bind_ex H
  clear H
  refine wc_rangeSt (xs := Bits.list a1.left) (enc := fun (x : Nat) => Value.int .i64 (x : Int)) (bd := (fun (x : Nat) (s : Bool × Fnd) => rule_least__rule_apply_1_1.b0 a0 a1 (x : Int) s.1 s.2)) (L := (fun (s : Bool × Fnd) (c : Unit) => [oB b10 T_bool [.bool s.1], oB b8 T_Fnd (Fnd.C s.2), oB b6 T_func_api_Rule_bool [.func (.func F_rule_apply_1_1) #[] #[]], oB b4 T_Sq (Sq.C a1), oB b2 T_dictum_formula_has [.pointer a_0]])) (Lr := (fun (s : Bool × Fnd) (c : Unit) => [oB b10 T_bool [.bool s.1], oB b8 T_Fnd (Fnd.C s.2), oB b6 T_func_api_Rule_bool [.func (.func F_rule_apply_1_1) #[] #[]], oB b4 T_Sq (Sq.C a1), oB b2 T_dictum_formula_has [.pointer a_0]])) (Z := [oB c12 T_Bits (Bits.C a1.left), oT a_0 a0, oTz]) () false 0 rfl ca_bits_All_1 (bits_All_1_gives (Bits.okB_ok hok13) c12) (by decide) (fun N' s c W h => ⟨h.blkZ 0, h.tz 2⟩) S e14 ?_ ?_ ?_ ?_
  · rintro i14 ⟨x14_0, x14_1⟩ _ q14 N14 rd u14 H S
    replace S : St A N14 w u14 [oB b10 T_bool [.bool x14_0], oB b8 T_Fnd (Fnd.C x14_1), oB b6 T_func_api_Rule_bool [.func (.func F_rule_apply_1_1) #[] #[]], oB b4 T_Sq (Sq.C a1), oB b2 T_dictum_formula_has [.pointer a_0]] [oB c12 T_Bits (Bits.C a1.left), oT a_0 a0, oTz] := S
    refine wc_region ?_
    refine wd (does_as_i rfl) ?_
    refine wl_nil ?_
    refine ⟨rfl, S, fun M14 v14 S => ?_⟩
    replace S : St A M14 w v14 [oB b10 T_bool [.bool x14_0], oB b8 T_Fnd (Fnd.C x14_1), oB b6 T_func_api_Rule_bool [.func (.func F_rule_apply_1_1) #[] #[]], oB b4 T_Sq (Sq.C a1), oB b2 T_dictum_formula_has [.pointer a_0]] [oB c12 T_Bits (Bits.C a1.left), oT a_0 a0, oTz] := S
    replace H : rule_least__rule_apply_1_1.b0 a0 a1 (i14 : Int) x14_0 x14_1 = some q14 := H
    unfold rule_least__rule_apply_1_1.b0 at H
    try dsimp only at H
    refine wc_block ?_
    refine wc_seq (wc_region ?_)
    refine wd (does_load on_dictum_formula_has rfl ((S.blk 4).cell rfl)) ?_
    refine wd (does_load_agg ag_Sq rfl ((S.blk 3).all _ (Sq.len _)) (Sq.len _)) ?_
    refine wd (does_mv_i rfl) ?_
    obtain ⟨r15, er15, H⟩ := bind_ex H
    obtain ⟨B17, MB17, SB17, back⟩ := S.calln 0 ((.z 1 rfl .nil))
    refine wl_call (does_call ca_rule_on) (by decide) (rule_on_st SB17 er15) ?_
    rintro _ w16 ⟨rfl, S2⟩
    replace S : St A M14 w w16 [oB b10 T_bool [.bool x14_0], oB b8 T_Fnd (Fnd.C x14_1), oB b6 T_func_api_Rule_bool [.func (.func F_rule_apply_1_1) #[] #[]], oB b4 T_Sq (Sq.C a1), oB b2 T_dictum_formula_has [.pointer a_0]] [oB c12 T_Bits (Bits.C a1.left), oT a_0 a0, oTz] := back _ _ _ _ S2 rfl
    clear back S2 SB17
    refine wd (does_as_i rfl) ?_
    refine wl_nil ?_
    refine wc_seq (wc_region ?_)
    refine wd (does_load on_func_api_Rule_bool rfl ((S.blk 2).cell rfl)) ?_
    refine wd (does_mv_i rfl) ?_
    obtain ⟨r18, er18, H⟩ := bind_ex H
    obtain ⟨B20, MB20, SB20, back⟩ := S.calln 0 ((.nil))
    refine wl_call (does_callv ca_rule_apply_1_1 rfl) (by decide) (rule_apply_1_1_st SB20 er18) ?_
    rintro _ w19 ⟨rfl, S2⟩
    replace S : St A M14 w w19 [oB b10 T_bool [.bool x14_0], oB b8 T_Fnd (Fnd.C x14_1), oB b6 T_func_api_Rule_bool [.func (.func F_rule_apply_1_1) #[] #[]], oB b4 T_Sq (Sq.C a1), oB b2 T_dictum_formula_has [.pointer a_0]] [oB c12 T_Bits (Bits.C a1.left), oT a_0 a0, oTz] := back _ _ _ _ S2 rfl
    clear back S2 SB20
    refine wl_nil ?_
    refine wc_if rfl (fun hc21 => ?_) (fun hc21 => ?_)
    · replace H := if_t hc21 H
      refine wc_seq (wc_region ?_)
      refine wd (does_mv_i rfl) ?_
      refine wd (does_mv_i rfl) ?_
      refine wd (does_build bu_Fnd (Bld.one rfl rfl (by rw [Fnd.len]; decide) (Fnd.set_k _ _) (Bld.one rfl rfl (by rw [Fnd.len]; decide) (Fnd.set_main _ _) Bld.nil))) ?_
      refine wl_store_agg ag_Fnd rfl rfl (S.blk 1) (Fnd.len _) (by rw [Fnd.len]; decide) (Fnd.one _) (store_all (Fnd.len _)) fun w22 B hw22 zw22 => ?_
      replace S : St A M14 w w22 [oB b8 T_Fnd (Fnd.C (⟨r15, (i14 : Int)⟩ : Fnd)), oB b10 T_bool [.bool x14_0], oB b6 T_func_api_Rule_bool [.func (.func F_rule_apply_1_1) #[] #[]], oB b4 T_Sq (Sq.C a1), oB b2 T_dictum_formula_has [.pointer a_0]] [oB c12 T_Bits (Bits.C a1.left), oT a_0 a0, oTz] := S.store 1 B hw22
      clear B
      refine wl_store on_bool rfl rfl (S.blk 1) (by simp) rfl rfl fun w23 B hw23 zw23 => ?_
      replace S : St A M14 w w23 [oB b10 T_bool [.bool true], oB b8 T_Fnd (Fnd.C (⟨r15, (i14 : Int)⟩ : Fnd)), oB b6 T_func_api_Rule_bool [.func (.func F_rule_apply_1_1) #[] #[]], oB b4 T_Sq (Sq.C a1), oB b2 T_dictum_formula_has [.pointer a_0]] [oB c12 T_Bits (Bits.C a1.left), oT a_0 a0, oTz] := S.store 1 B hw23
      clear B
      refine wl_nil ?_
      refine wc_ret ?_
      obtain rfl := Option.some.inj H
      exact ⟨_, rfl, (), S⟩
    replace H := if_f hc21 H
    refine wc_skip ?_
    obtain rfl := Option.some.inj H
    exact ⟨_, rfl, (), S⟩
  · rintro s14 _ B14 w24 rfl S hB14
    replace S : St A (N.done B14) w w24 [oB b10 T_bool [.bool s14.1], oB b8 T_Fnd (Fnd.C s14.2), oB b6 T_func_api_Rule_bool [.func (.func F_rule_apply_1_1) #[] #[]], oB b4 T_Sq (Sq.C a1), oB b2 T_dictum_formula_has [.pointer a_0]] [oB c12 T_Bits (Bits.C a1.left), oT a_0 a0, oTz] := S
    have H := Ho14
    dsimp only [fin] at H
    refine wc_seq (wc_region ?_)
    refine wd (does_build bu_Fnd Bld.nil) ?_
    refine wl_store_agg ag_Fnd rfl rfl (S.blk 1) (Fnd.len _) (by rw [Fnd.len]; decide) (Fnd.one _) (store_all (Fnd.len _)) fun w25 B hw25 zw25 => ?_
    replace S : St A (N.done B14) w w25 [oB b8 T_Fnd (Fnd.C Fnd.z), oB b10 T_bool [.bool s14.1], oB b6 T_func_api_Rule_bool [.func (.func F_rule_apply_1_1) #[] #[]], oB b4 T_Sq (Sq.C a1), oB b2 T_dictum_formula_has [.pointer a_0]] [oB c12 T_Bits (Bits.C a1.left), oT a_0 a0, oTz] := S.store 1 B hw25
    clear B
    refine wl_store on_bool rfl rfl (S.blk 1) (by simp) rfl rfl fun w26 B hw26 zw26 => ?_
    replace S : St A (N.done B14) w w26 [oB b10 T_bool [.bool false], oB b8 T_Fnd (Fnd.C Fnd.z), oB b6 T_func_api_Rule_bool [.func (.func F_rule_apply_1_1) #[] #[]], oB b4 T_Sq (Sq.C a1), oB b2 T_dictum_formula_has [.pointer a_0]] [oB c12 T_Bits (Bits.C a1.left), oT a_0 a0, oTz] := S.store 1 B hw26
    clear B
    refine wl_nil ?_
    refine wc_ret ?_
    refine end1 (.inl rfl) (S.take hB14).1 fun w27 hcw27 => ?_
    replace S : St A N w w27 [oB b10 T_bool [.bool false], oB b8 T_Fnd (Fnd.C Fnd.z), oB b6 T_func_api_Rule_bool [.func (.func F_rule_apply_1_1) #[] #[]], oB b4 T_Sq (Sq.C a1), oB b2 T_dictum_formula_has [.pointer a_0]] [oB c12 T_Bits (Bits.C a1.left), oT a_0 a0, oTz] := (S.take hB14).2 _ hcw27
    refine ⟨_, (rets2 (retOne_agg ag_Fnd rfl ((S.blk 1).all _ (Fnd.len _)) (Fnd.len _)) (retOne_one on_bool rfl ((S.blk 0).cell rfl))), ?_⟩
    replace S : St A N w w27 [] [] := S.arr [] []
    obtain rfl := Option.some.inj H
    exact ⟨rfl, S⟩
  · rintro s14 _ B14 w28 rfl S hB14
    replace S : St A (N.done B14) w w28 [oB b10 T_bool [.bool s14.1], oB b8 T_Fnd (Fnd.C s14.2), oB b6 T_func_api_Rule_bool [.func (.func F_rule_apply_1_1) #[] #[]], oB b4 T_Sq (Sq.C a1), oB b2 T_dictum_formula_has [.pointer a_0]] [oB c12 T_Bits (Bits.C a1.left), oT a_0 a0, oTz] := S
    have H := Ho14
    dsimp only [fin] at H
    refine end1 (.inl rfl) (S.take hB14).1 fun w29 hcw29 => ?_
    replace S : St A N w w29 [oB b10 T_bool [.bool s14.1], oB b8 T_Fnd (Fnd.C s14.2), oB b6 T_func_api_Rule_bool [.func (.func F_rule_apply_1_1) #[] #[]], oB b4 T_Sq (Sq.C a1), oB b2 T_dictum_formula_has [.pointer a_0]] [oB c12 T_Bits (Bits.C a1.left), oT a_0 a0, oTz] := (S.take hB14).2 _ hcw29
    refine ⟨_, (rets2 (retOne_agg ag_Fnd rfl ((S.blk 1).all _ (Fnd.len _)) (Fnd.len _)) (retOne_one on_bool rfl ((S.blk 0).cell rfl))), ?_⟩
    replace S : St A N w w29 [] [] := S.arr [] []
    obtain rfl := Option.some.inj H
    exact ⟨rfl, S⟩
  · intro h; cases h
theorem rule_apply_1_st {A : Nat → Prop} {N : Oth} {w : World} {a0 : Tb} {b_0 : Nat} {a_0_1 : Option Addr} {a1 : Sq} {b_1 : Nat} (S : St A N w w [] [oB b_0 T_dictum_formula_has [.pointer a_0_1], oT a_0_1 a0, oB b_1 T_Sq (Sq.C a1), oTz]) {r : Fnd × Bool} (H : rule_apply_1.f a0 a1 = some r) :
    Calls PP F_rule_apply_1 #[.pointer (some ⟨b_0, 0, none⟩), .pointer (some ⟨b_1, 0, none⟩)] w fun e w' => ∃ v, e = .returned v ∧ (v = .tuple #[.agg (Fnd.C r.1).toArray, .bool r.2] ∧ St A N w w' [] []) := by
  unfold rule_apply_1.f at H
  refine calls_of_wc (n := 9) fn_rule_apply_1 rfl rfl (by simp) ?_
  refine wc_seq (wc_region ?_)
  refine wl_alloc ze_Fnd (by decide) fun b2 w1 hw1 => ?_
  replace S : St A N w w1 [oB b2 T_Fnd (Fnd.C Fnd.z)] [oB b_0 T_dictum_formula_has [.pointer a_0_1], oT a_0_1 a0, oB b_1 T_Sq (Sq.C a1), oTz] := S.new hw1
  refine wd (does_as_b rfl) ?_
  refine wl_nil ?_
  refine wc_seq (wc_region ?_)
  refine wd (does_load on_dictum_formula_has rfl ((S.blkZ 0).cell rfl)) ?_
  refine wd (does_load_agg ag_Sq rfl ((S.blkZ 2).all _ (Sq.len _)) (Sq.len _)) ?_
  obtain ⟨r3, er3, H⟩ := bind_ex H
  obtain ⟨B5, MB5, SB5, back⟩ := S.calln 0 ((.z 1 rfl (.z 3 rfl .nil)))
  refine wl_call (does_call ca_rule_least) (by decide) (rule_least__rule_apply_1_1_st SB5 er3) ?_
  rintro _ w4 ⟨rfl, S2⟩
  replace S : St A N w w4 [oB b2 T_Fnd (Fnd.C Fnd.z)] [oB b_0 T_dictum_formula_has [.pointer a_0_1], oT a_0_1 a0, oB b_1 T_Sq (Sq.C a1), oTz] := back _ _ _ _ S2 rfl
  clear back S2 SB5
  refine wd (does_extract rfl rfl) ?_
  refine wd (does_extract rfl rfl) ?_
  refine wl_store_agg ag_Fnd rfl rfl (S.blk 0) (Fnd.len _) (by rw [Fnd.len]; decide) (Fnd.one _) (store_all (Fnd.len _)) fun w6 B hw6 zw6 => ?_
  replace S : St A N w w6 [oB b2 T_Fnd (Fnd.C r3.1)] [oB b_0 T_dictum_formula_has [.pointer a_0_1], oT a_0_1 a0, oB b_1 T_Sq (Sq.C a1), oTz] := S.store 0 B hw6
  clear B
  refine wd (does_as_b rfl) ?_
  refine wl_nil ?_
  refine wc_ret ?_
  refine ⟨_, (rets2 (retOne_agg ag_Fnd rfl ((S.blk 0).all _ (Fnd.len _)) (Fnd.len _)) (retOne_tmp rfl)), ?_⟩
  replace S : St A N w w6 [] [] := S.arr [] []
  obtain rfl := Option.some.inj H
  exact ⟨rfl, S⟩
theorem rule_apply_2_st {A : Nat → Prop} {N : Oth} {w : World} {a0 : Sq} {b_0 : Nat} (S : St A N w w [] [oB b_0 T_Sq (Sq.C a0)]) {r : Fnd × Bool} (H : rule_apply_2.f a0 = some r) :
    Calls PP F_rule_apply_2 #[.pointer (some ⟨b_0, 0, none⟩)] w fun e w' => ∃ v, e = .returned v ∧ (v = .tuple #[.agg (Fnd.C r.1).toArray, .bool r.2] ∧ St A N w w' [] []) := by
  unfold rule_apply_2.f at H
  refine calls_of_wc (n := 11) fn_rule_apply_2 rfl rfl (by simp) ?_
  refine wc_seq (wc_region ?_)
  refine wl_alloc ze_Fnd (by decide) fun b2 w1 hw1 => ?_
  replace S : St A N w w1 [oB b2 T_Fnd (Fnd.C Fnd.z)] [oB b_0 T_Sq (Sq.C a0)] := S.new hw1
  refine wd (does_as_b rfl) ?_
  refine wl_nil ?_
  refine wc_seq ?_
  refine wc_quiet 8 (Ext w1) hmix (by kernel_rfl) (by kernel_rfl) (Ext.drawn _) ?_
  refine wq_does (fun v K => does_fieldAddr fl_Sq_goal rfl (o' := 16) rfl) ?_
  refine wq_does (fun v K => does_load on_int rfl (((S.ext K).blkZ 0).cell (Sq.get_goal _))) ?_
  refine wq_does (fun v K => does_build bu_Fnd (Bld.one rfl rfl (by rw [Fnd.len]; decide) (Fnd.set_k _ _) (Bld.one rfl rfl (by rw [Fnd.len]; decide) (Fnd.set_main _ _) Bld.nil))) ?_
  refine wq_does (fun v K => does_fieldAddr fl_Sq_left rfl (o' := 0) rfl) ?_
  refine wq_does (fun v K => does_load_agg ag_Bits rfl (((S.ext K).blkZ 0).cells (Sq.sub_left _)) (Bits.len _)) ?_
  refine wq_does (fun v K => does_fieldAddr fl_Sq_goal rfl (o' := 16) rfl) ?_
  refine wq_does (fun v K => does_load on_int rfl (((S.ext K).blkZ 0).cell (Sq.get_goal _))) ?_
  obtain ⟨r3, er3, H⟩ := bind_ex H
  refine wq_call (fun v => does_call ca_bits_Has) (fun v K => (have ⟨M, SS⟩ := (S.ext K).lend ((.nil)); quiet (bits_Has_st SS er3) (fun v w' h => ⟨h.1, _, _, h.2⟩))) (fun v v' K h => K.thenExt h) ?_
  refine wq_nil fun w4 K => ?_
  replace S := S.ext K
  clear K
  refine wl_store_agg ag_Fnd rfl rfl (S.blk 0) (Fnd.len _) (by rw [Fnd.len]; decide) (Fnd.one _) (store_all (Fnd.len _)) fun w5 B hw5 zw5 => ?_
  replace S : St A N w w5 [oB b2 T_Fnd (Fnd.C (⟨2, a0.goal⟩ : Fnd))] [oB b_0 T_Sq (Sq.C a0)] := S.store 0 B hw5
  clear B
  refine wd (does_as_b rfl) ?_
  refine wl_nil ?_
  refine wc_ret ?_
  refine ⟨_, (rets2 (retOne_agg ag_Fnd rfl ((S.blk 0).all _ (Fnd.len _)) (Fnd.len _)) (retOne_tmp rfl)), ?_⟩
  replace S : St A N w w5 [] [] := S.arr [] []
  obtain rfl := Option.some.inj H
  exact ⟨rfl, S⟩
theorem rule_apply_3_1_st {A : Nat → Prop} {N : Oth} {w : World} {a0 : Int} (S : St A N w w [] []) {r : Bool} (H : rule_apply_3_1.f a0 = some r) :
    Calls PP F_rule_apply_3_1 #[.int .i64 a0] w fun e w' => ∃ v, e = .returned v ∧ (v = .bool r ∧ St A N w w' [] []) := by
  unfold rule_apply_3_1.f at H
  refine calls_of_wc (n := 9) fn_rule_apply_3_1 rfl rfl (by simp) ?_
  refine wc_seq (wc_region ?_)
  refine wd (does_as_b rfl) ?_
  refine wl_nil ?_
  refine wc_seq (wc_region ?_)
  refine wd (does_mv_i rfl) ?_
  refine wd (does_ge rfl rfl) ?_
  refine wd (does_mv_b rfl) ?_
  refine wl_guard (j := 2) (pol := true) rfl rfl rfl (by decide) (fun hg => does_mv_i rfl) (by decide) ?_
  refine wl_guard (j := 2) (pol := true) rfl rfl rfl (by decide) (fun hg => does_le (gv_yes hg) rfl) (by decide) ?_
  refine wd (does_and rfl (fun hp => (gv_yes (and_1 hp)))) ?_
  refine wd (does_as_b rfl) ?_
  refine wl_nil ?_
  refine wc_ret ?_
  refine ⟨_, (rets1 (retOne_tmp rfl)), ?_⟩
  obtain rfl := Option.some.inj H
  exact ⟨rfl, S⟩
theorem rule_least__rule_apply_3_1_st {A : Nat → Prop} {N : Oth} {w : World} {a0 : Tb} {a_0 : Option Addr} {a1 : Sq} (S : St A N w w [] [oT a_0 a0, oTz]) {r : Fnd × Bool} (H : rule_least__rule_apply_3_1.f a0 a1 = some r) :
    Calls PP F_rule_least #[.pointer a_0, .agg (Sq.C a1).toArray, .func (.func F_rule_apply_3_1) #[] #[]] w fun e w' => ∃ v, e = .returned v ∧ (v = .tuple #[.agg (Fnd.C r.1).toArray, .bool r.2] ∧ St A N w w' [] []) := by
  unfold rule_least__rule_apply_3_1.f at H
  refine calls_of_wc (n := 25) fn_rule_least rfl rfl (by simp) ?_
  refine wc_seq (wc_region ?_)
  refine wl_box_p rfl (by decide) fun b2 w1 hw1 => ?_
  replace S : St A N w w1 [oB b2 T_dictum_formula_has [.pointer a_0]] [oT a_0 a0, oTz] := S.new hw1
  refine wl_box_agg rfl (by decide) fun b4 w3 hw3 => ?_
  replace S : St A N w w3 [oB b4 T_Sq (Sq.C a1), oB b2 T_dictum_formula_has [.pointer a_0]] [oT a_0 a0, oTz] := S.new hw3
  refine wl_box_f rfl (by decide) fun b6 w5 hw5 => ?_
  replace S : St A N w w5 [oB b6 T_func_api_Rule_bool [.func (.func F_rule_apply_3_1) #[] #[]], oB b4 T_Sq (Sq.C a1), oB b2 T_dictum_formula_has [.pointer a_0]] [oT a_0 a0, oTz] := S.new hw5
  refine wl_alloc ze_Fnd (by decide) fun b8 w7 hw7 => ?_
  replace S : St A N w w7 [oB b8 T_Fnd (Fnd.C Fnd.z), oB b6 T_func_api_Rule_bool [.func (.func F_rule_apply_3_1) #[] #[]], oB b4 T_Sq (Sq.C a1), oB b2 T_dictum_formula_has [.pointer a_0]] [oT a_0 a0, oTz] := S.new hw7
  refine wl_alloc ze_bool (by decide) fun b10 w9 hw9 => ?_
  replace S : St A N w w9 [oB b10 T_bool [.bool false], oB b8 T_Fnd (Fnd.C Fnd.z), oB b6 T_func_api_Rule_bool [.func (.func F_rule_apply_3_1) #[] #[]], oB b4 T_Sq (Sq.C a1), oB b2 T_dictum_formula_has [.pointer a_0]] [oT a_0 a0, oTz] := S.new hw9
  refine wl_nil ?_
  refine wc_seq (wc_seq (wc_region ?_))
  refine wd (does_fieldAddr fl_Sq_left rfl (o' := 0) rfl) ?_
  refine wd (does_load_agg ag_Bits rfl ((S.blk 3).cells (Sq.sub_left _)) (Bits.len _)) ?_
  refine wl_call (does_call ca_bits_All) (by decide) (bits_All_ok _ a1.left) ?_
  rintro _ w11 ⟨c12, rfl, Bc12, hc12, Ec12⟩
  replace S : St A N w w11 [oB b10 T_bool [.bool false], oB b8 T_Fnd (Fnd.C Fnd.z), oB b6 T_func_api_Rule_bool [.func (.func F_rule_apply_3_1) #[] #[]], oB b4 T_Sq (Sq.C a1), oB b2 T_dictum_formula_has [.pointer a_0]] [oB c12 T_Bits (Bits.C a1.left), oT a_0 a0, oTz] := S.addZ (b := oB c12 T_Bits (Bits.C a1.left)) (G := (· = c12)) Ec12 ⟨Bc12, fun _ => Iff.rfl⟩ (fun i hi => by rw [hi]; exact hc12)
  refine wl_nil ?_
  refine wc_block ?_
  obtain ⟨hok13, H⟩ := chk_ex H
  obtain ⟨o14, e14, Ho14⟩ := bind_ex H
  clear H
  refine wc_rangeSt (xs := Bits.list a1.left) (enc := fun (x : Nat) => Value.int .i64 (x : Int)) (bd := (fun (x : Nat) (s : Bool × Fnd) => rule_least__rule_apply_3_1.b0 a0 a1 (x : Int) s.1 s.2)) (L := (fun (s : Bool × Fnd) (c : Unit) => [oB b10 T_bool [.bool s.1], oB b8 T_Fnd (Fnd.C s.2), oB b6 T_func_api_Rule_bool [.func (.func F_rule_apply_3_1) #[] #[]], oB b4 T_Sq (Sq.C a1), oB b2 T_dictum_formula_has [.pointer a_0]])) (Lr := (fun (s : Bool × Fnd) (c : Unit) => [oB b10 T_bool [.bool s.1], oB b8 T_Fnd (Fnd.C s.2), oB b6 T_func_api_Rule_bool [.func (.func F_rule_apply_3_1) #[] #[]], oB b4 T_Sq (Sq.C a1), oB b2 T_dictum_formula_has [.pointer a_0]])) (Z := [oB c12 T_Bits (Bits.C a1.left), oT a_0 a0, oTz]) () false 0 rfl ca_bits_All_1 (bits_All_1_gives (Bits.okB_ok hok13) c12) (by decide) (fun N' s c W h => ⟨h.blkZ 0, h.tz 2⟩) S e14 ?_ ?_ ?_ ?_
  · rintro i14 ⟨x14_0, x14_1⟩ _ q14 N14 rd u14 H S
    replace S : St A N14 w u14 [oB b10 T_bool [.bool x14_0], oB b8 T_Fnd (Fnd.C x14_1), oB b6 T_func_api_Rule_bool [.func (.func F_rule_apply_3_1) #[] #[]], oB b4 T_Sq (Sq.C a1), oB b2 T_dictum_formula_has [.pointer a_0]] [oB c12 T_Bits (Bits.C a1.left), oT a_0 a0, oTz] := S
    refine wc_region ?_
    refine wd (does_as_i rfl) ?_
    refine wl_nil ?_
    refine ⟨rfl, S, fun M14 v14 S => ?_⟩
    replace S : St A M14 w v14 [oB b10 T_bool [.bool x14_0], oB b8 T_Fnd (Fnd.C x14_1), oB b6 T_func_api_Rule_bool [.func (.func F_rule_apply_3_1) #[] #[]], oB b4 T_Sq (Sq.C a1), oB b2 T_dictum_formula_has [.pointer a_0]] [oB c12 T_Bits (Bits.C a1.left), oT a_0 a0, oTz] := S
    replace H : rule_least__rule_apply_3_1.b0 a0 a1 (i14 : Int) x14_0 x14_1 = some q14 := H
    unfold rule_least__rule_apply_3_1.b0 at H
    try dsimp only at H
    refine wc_block ?_
    refine wc_seq (wc_region ?_)
    refine wd (does_load on_dictum_formula_has rfl ((S.blk 4).cell rfl)) ?_
    refine wd (does_load_agg ag_Sq rfl ((S.blk 3).all _ (Sq.len _)) (Sq.len _)) ?_
    refine wd (does_mv_i rfl) ?_
    obtain ⟨r15, er15, H⟩ := bind_ex H
    obtain ⟨B17, MB17, SB17, back⟩ := S.calln 0 ((.z 1 rfl .nil))
    refine wl_call (does_call ca_rule_on) (by decide) (rule_on_st SB17 er15) ?_
    rintro _ w16 ⟨rfl, S2⟩
    replace S : St A M14 w w16 [oB b10 T_bool [.bool x14_0], oB b8 T_Fnd (Fnd.C x14_1), oB b6 T_func_api_Rule_bool [.func (.func F_rule_apply_3_1) #[] #[]], oB b4 T_Sq (Sq.C a1), oB b2 T_dictum_formula_has [.pointer a_0]] [oB c12 T_Bits (Bits.C a1.left), oT a_0 a0, oTz] := back _ _ _ _ S2 rfl
    clear back S2 SB17
    refine wd (does_as_i rfl) ?_
    refine wl_nil ?_
    refine wc_seq (wc_region ?_)
    refine wd (does_load on_func_api_Rule_bool rfl ((S.blk 2).cell rfl)) ?_
    refine wd (does_mv_i rfl) ?_
    obtain ⟨r18, er18, H⟩ := bind_ex H
    obtain ⟨B20, MB20, SB20, back⟩ := S.calln 0 ((.nil))
    refine wl_call (does_callv ca_rule_apply_3_1 rfl) (by decide) (rule_apply_3_1_st SB20 er18) ?_
    rintro _ w19 ⟨rfl, S2⟩
    replace S : St A M14 w w19 [oB b10 T_bool [.bool x14_0], oB b8 T_Fnd (Fnd.C x14_1), oB b6 T_func_api_Rule_bool [.func (.func F_rule_apply_3_1) #[] #[]], oB b4 T_Sq (Sq.C a1), oB b2 T_dictum_formula_has [.pointer a_0]] [oB c12 T_Bits (Bits.C a1.left), oT a_0 a0, oTz] := back _ _ _ _ S2 rfl
    clear back S2 SB20
    refine wl_nil ?_
    refine wc_if rfl (fun hc21 => ?_) (fun hc21 => ?_)
    · replace H := if_t hc21 H
      refine wc_seq (wc_region ?_)
      refine wd (does_mv_i rfl) ?_
      refine wd (does_mv_i rfl) ?_
      refine wd (does_build bu_Fnd (Bld.one rfl rfl (by rw [Fnd.len]; decide) (Fnd.set_k _ _) (Bld.one rfl rfl (by rw [Fnd.len]; decide) (Fnd.set_main _ _) Bld.nil))) ?_
      refine wl_store_agg ag_Fnd rfl rfl (S.blk 1) (Fnd.len _) (by rw [Fnd.len]; decide) (Fnd.one _) (store_all (Fnd.len _)) fun w22 B hw22 zw22 => ?_
      replace S : St A M14 w w22 [oB b8 T_Fnd (Fnd.C (⟨r15, (i14 : Int)⟩ : Fnd)), oB b10 T_bool [.bool x14_0], oB b6 T_func_api_Rule_bool [.func (.func F_rule_apply_3_1) #[] #[]], oB b4 T_Sq (Sq.C a1), oB b2 T_dictum_formula_has [.pointer a_0]] [oB c12 T_Bits (Bits.C a1.left), oT a_0 a0, oTz] := S.store 1 B hw22
      clear B
      refine wl_store on_bool rfl rfl (S.blk 1) (by simp) rfl rfl fun w23 B hw23 zw23 => ?_
      replace S : St A M14 w w23 [oB b10 T_bool [.bool true], oB b8 T_Fnd (Fnd.C (⟨r15, (i14 : Int)⟩ : Fnd)), oB b6 T_func_api_Rule_bool [.func (.func F_rule_apply_3_1) #[] #[]], oB b4 T_Sq (Sq.C a1), oB b2 T_dictum_formula_has [.pointer a_0]] [oB c12 T_Bits (Bits.C a1.left), oT a_0 a0, oTz] := S.store 1 B hw23
      clear B
      refine wl_nil ?_
      refine wc_ret ?_
      obtain rfl := Option.some.inj H
      exact ⟨_, rfl, (), S⟩
    replace H := if_f hc21 H
    refine wc_skip ?_
    obtain rfl := Option.some.inj H
    exact ⟨_, rfl, (), S⟩
  · rintro s14 _ B14 w24 rfl S hB14
    replace S : St A (N.done B14) w w24 [oB b10 T_bool [.bool s14.1], oB b8 T_Fnd (Fnd.C s14.2), oB b6 T_func_api_Rule_bool [.func (.func F_rule_apply_3_1) #[] #[]], oB b4 T_Sq (Sq.C a1), oB b2 T_dictum_formula_has [.pointer a_0]] [oB c12 T_Bits (Bits.C a1.left), oT a_0 a0, oTz] := S
    have H := Ho14
    dsimp only [fin] at H
    refine wc_seq (wc_region ?_)
    refine wd (does_build bu_Fnd Bld.nil) ?_
    refine wl_store_agg ag_Fnd rfl rfl (S.blk 1) (Fnd.len _) (by rw [Fnd.len]; decide) (Fnd.one _) (store_all (Fnd.len _)) fun w25 B hw25 zw25 => ?_
    replace S : St A (N.done B14) w w25 [oB b8 T_Fnd (Fnd.C Fnd.z), oB b10 T_bool [.bool s14.1], oB b6 T_func_api_Rule_bool [.func (.func F_rule_apply_3_1) #[] #[]], oB b4 T_Sq (Sq.C a1), oB b2 T_dictum_formula_has [.pointer a_0]] [oB c12 T_Bits (Bits.C a1.left), oT a_0 a0, oTz] := S.store 1 B hw25
    clear B
    refine wl_store on_bool rfl rfl (S.blk 1) (by simp) rfl rfl fun w26 B hw26 zw26 => ?_
    replace S : St A (N.done B14) w w26 [oB b10 T_bool [.bool false], oB b8 T_Fnd (Fnd.C Fnd.z), oB b6 T_func_api_Rule_bool [.func (.func F_rule_apply_3_1) #[] #[]], oB b4 T_Sq (Sq.C a1), oB b2 T_dictum_formula_has [.pointer a_0]] [oB c12 T_Bits (Bits.C a1.left), oT a_0 a0, oTz] := S.store 1 B hw26
    clear B
    refine wl_nil ?_
    refine wc_ret ?_
    refine end1 (.inl rfl) (S.take hB14).1 fun w27 hcw27 => ?_
    replace S : St A N w w27 [oB b10 T_bool [.bool false], oB b8 T_Fnd (Fnd.C Fnd.z), oB b6 T_func_api_Rule_bool [.func (.func F_rule_apply_3_1) #[] #[]], oB b4 T_Sq (Sq.C a1), oB b2 T_dictum_formula_has [.pointer a_0]] [oB c12 T_Bits (Bits.C a1.left), oT a_0 a0, oTz] := (S.take hB14).2 _ hcw27
    refine ⟨_, (rets2 (retOne_agg ag_Fnd rfl ((S.blk 1).all _ (Fnd.len _)) (Fnd.len _)) (retOne_one on_bool rfl ((S.blk 0).cell rfl))), ?_⟩
    replace S : St A N w w27 [] [] := S.arr [] []
    obtain rfl := Option.some.inj H
    exact ⟨rfl, S⟩
  · rintro s14 _ B14 w28 rfl S hB14
    replace S : St A (N.done B14) w w28 [oB b10 T_bool [.bool s14.1], oB b8 T_Fnd (Fnd.C s14.2), oB b6 T_func_api_Rule_bool [.func (.func F_rule_apply_3_1) #[] #[]], oB b4 T_Sq (Sq.C a1), oB b2 T_dictum_formula_has [.pointer a_0]] [oB c12 T_Bits (Bits.C a1.left), oT a_0 a0, oTz] := S
    have H := Ho14
    dsimp only [fin] at H
    refine end1 (.inl rfl) (S.take hB14).1 fun w29 hcw29 => ?_
    replace S : St A N w w29 [oB b10 T_bool [.bool s14.1], oB b8 T_Fnd (Fnd.C s14.2), oB b6 T_func_api_Rule_bool [.func (.func F_rule_apply_3_1) #[] #[]], oB b4 T_Sq (Sq.C a1), oB b2 T_dictum_formula_has [.pointer a_0]] [oB c12 T_Bits (Bits.C a1.left), oT a_0 a0, oTz] := (S.take hB14).2 _ hcw29
    refine ⟨_, (rets2 (retOne_agg ag_Fnd rfl ((S.blk 1).all _ (Fnd.len _)) (Fnd.len _)) (retOne_one on_bool rfl ((S.blk 0).cell rfl))), ?_⟩
    replace S : St A N w w29 [] [] := S.arr [] []
    obtain rfl := Option.some.inj H
    exact ⟨rfl, S⟩
  · intro h; cases h
theorem rule_apply_3_st {A : Nat → Prop} {N : Oth} {w : World} {a0 : Tb} {b_0 : Nat} {a_0_1 : Option Addr} {a1 : Sq} {b_1 : Nat} (S : St A N w w [] [oB b_0 T_dictum_formula_has [.pointer a_0_1], oT a_0_1 a0, oB b_1 T_Sq (Sq.C a1), oTz]) {r : Fnd × Bool} (H : rule_apply_3.f a0 a1 = some r) :
    Calls PP F_rule_apply_3 #[.pointer (some ⟨b_0, 0, none⟩), .pointer (some ⟨b_1, 0, none⟩)] w fun e w' => ∃ v, e = .returned v ∧ (v = .tuple #[.agg (Fnd.C r.1).toArray, .bool r.2] ∧ St A N w w' [] []) := by
  unfold rule_apply_3.f at H
  refine calls_of_wc (n := 9) fn_rule_apply_3 rfl rfl (by simp) ?_
  refine wc_seq (wc_region ?_)
  refine wl_alloc ze_Fnd (by decide) fun b2 w1 hw1 => ?_
  replace S : St A N w w1 [oB b2 T_Fnd (Fnd.C Fnd.z)] [oB b_0 T_dictum_formula_has [.pointer a_0_1], oT a_0_1 a0, oB b_1 T_Sq (Sq.C a1), oTz] := S.new hw1
  refine wd (does_as_b rfl) ?_
  refine wl_nil ?_
  refine wc_seq (wc_region ?_)
  refine wd (does_load on_dictum_formula_has rfl ((S.blkZ 0).cell rfl)) ?_
  refine wd (does_load_agg ag_Sq rfl ((S.blkZ 2).all _ (Sq.len _)) (Sq.len _)) ?_
  obtain ⟨r3, er3, H⟩ := bind_ex H
  obtain ⟨B5, MB5, SB5, back⟩ := S.calln 0 ((.z 1 rfl (.z 3 rfl .nil)))
  refine wl_call (does_call ca_rule_least) (by decide) (rule_least__rule_apply_3_1_st SB5 er3) ?_
  rintro _ w4 ⟨rfl, S2⟩
  replace S : St A N w w4 [oB b2 T_Fnd (Fnd.C Fnd.z)] [oB b_0 T_dictum_formula_has [.pointer a_0_1], oT a_0_1 a0, oB b_1 T_Sq (Sq.C a1), oTz] := back _ _ _ _ S2 rfl
  clear back S2 SB5
  refine wd (does_extract rfl rfl) ?_
  refine wd (does_extract rfl rfl) ?_
  refine wl_store_agg ag_Fnd rfl rfl (S.blk 0) (Fnd.len _) (by rw [Fnd.len]; decide) (Fnd.one _) (store_all (Fnd.len _)) fun w6 B hw6 zw6 => ?_
  replace S : St A N w w6 [oB b2 T_Fnd (Fnd.C r3.1)] [oB b_0 T_dictum_formula_has [.pointer a_0_1], oT a_0_1 a0, oB b_1 T_Sq (Sq.C a1), oTz] := S.store 0 B hw6
  clear B
  refine wd (does_as_b rfl) ?_
  refine wl_nil ?_
  refine wc_ret ?_
  refine ⟨_, (rets2 (retOne_agg ag_Fnd rfl ((S.blk 0).all _ (Fnd.len _)) (Fnd.len _)) (retOne_tmp rfl)), ?_⟩
  replace S : St A N w w6 [] [] := S.arr [] []
  obtain rfl := Option.some.inj H
  exact ⟨rfl, S⟩
theorem rule_apply_4_st {A : Nat → Prop} {N : Oth} {w : World} {a0 : Sq} {b_0 : Nat} {a1 : Tb} {b_1 : Nat} {a_1_1 : Option Addr} (S : St A N w w [] [oB b_0 T_Sq (Sq.C a0), oB b_1 T_dictum_formula_has [.pointer a_1_1], oT a_1_1 a1]) {r : Fnd × Bool} (H : rule_apply_4.f a0 a1 = some r) :
    Calls PP F_rule_apply_4 #[.pointer (some ⟨b_0, 0, none⟩), .pointer (some ⟨b_1, 0, none⟩)] w fun e w' => ∃ v, e = .returned v ∧ (v = .tuple #[.agg (Fnd.C r.1).toArray, .bool r.2] ∧ St A N w w' [] []) := by
  unfold rule_apply_4.f at H
  refine calls_of_wc (n := 13) fn_rule_apply_4 rfl rfl (by simp) ?_
  refine wc_seq (wc_region ?_)
  refine wl_alloc ze_Fnd (by decide) fun b2 w1 hw1 => ?_
  replace S : St A N w w1 [oB b2 T_Fnd (Fnd.C Fnd.z)] [oB b_0 T_Sq (Sq.C a0), oB b_1 T_dictum_formula_has [.pointer a_1_1], oT a_1_1 a1] := S.new hw1
  refine wd (does_as_b rfl) ?_
  refine wl_nil ?_
  refine wc_seq ?_
  obtain ⟨r3, er3, H⟩ := bind_ex H
  have hSB := S.blk 0
  have SH : ∀ v, Chg (· = b2) w1 v → St A (N.or (· = b2)) w v [] [oB b_0 T_Sq (Sq.C a0), oB b_1 T_dictum_formula_has [.pointer a_1_1], oT a_1_1 a1] := fun v hc => S.awayB 0 (hc := hc)
  refine wc_draw2 10 ⟨fun L v => Chg (· = b2) w1 v ∧ (L 9 = false → Ext w1 v) ∧ (L 9 = true → Blk v b2 T_Fnd (Fnd.C (⟨8, a0.goal⟩ : Fnd))), fun L a c => Chg (· = b2) a c ∧ (L 9 = true → Ext a c), fun i v _ => match i with
    | 0 => v = Value.pointer (some ⟨b_0, 16, none⟩)
    | 1 => v = Value.int .i64 a0.goal
    | 2 => v = Value.agg (Fnd.C (⟨8, a0.goal⟩ : Fnd)).toArray
    | 3 => v = Value.pointer a_1_1
    | 4 => v = Value.pointer (some ⟨b_0, 16, none⟩)
    | 5 => v = Value.int .i64 a0.goal
    | 6 => v = Value.agg (Nd.C r3).toArray
    | 7 => v = Value.int .i64 r3.kind
    | 8 => v = Value.bool (decide (r3.kind = 5))
    | _ => True⟩ hmix (by kernel_rfl) (fun _ _ _ _ _ _ _ hv => hv) ⟨(Ext.drawn _).mono (fun _ _ x => x.elim), fun _ => Ext.drawn _, fun h => by cases h⟩ ⟨?_, ?_, ?_, ?_, ?_, ?_, ?_, ?_, ?_, ?_, trivial⟩ ?_
  · rintro L g v hL hT 
    refine wl_does (does_fieldAddr fl_Sq_goal rfl (o' := 16) rfl) (by decide) (wl_nil (ob2 ⟨hT.1, fun h => hT.2.1 h, fun h => hT.2.2 h⟩ ⟨Chg.refl _ _, fun _ => Ext.refl _⟩ rfl))
  · rintro L g v hL hT hv0
    refine wl_does (does_load on_int hv0 (((SH v hT.1).blkZ 0).cell (Sq.get_goal _))) (by decide) (wl_nil (ob2 ⟨hT.1, fun h => hT.2.1 h, fun h => hT.2.2 h⟩ ⟨Chg.refl _ _, fun _ => Ext.refl _⟩ rfl))
  · rintro L g v hL hT hv1
    refine wl_does (does_buildv (vs := [(0, .int .i64 8), (1, .int .i64 a0.goal)]) bu_Fnd (consP rfl (consP hv1 rfl)) (Bld.one rfl rfl (by rw [Fnd.len]; decide) (Fnd.set_k _ _) (Bld.one rfl rfl (by rw [Fnd.len]; decide) (Fnd.set_main _ _) Bld.nil))) (by decide) (wl_nil (ob2 ⟨hT.1, fun h => hT.2.1 h, fun h => hT.2.2 h⟩ ⟨Chg.refl _ _, fun _ => Ext.refl _⟩ rfl))
  · rintro L g v hL hT 
    refine wl_does (does_load on_dictum_formula_has rfl (((SH v hT.1).blkZ 1).cell rfl)) (by decide) (wl_nil (ob2 ⟨hT.1, fun h => hT.2.1 h, fun h => hT.2.2 h⟩ ⟨Chg.refl _ _, fun _ => Ext.refl _⟩ rfl))
  · rintro L g v hL hT 
    refine wl_does (does_fieldAddr fl_Sq_goal rfl (o' := 16) rfl) (by decide) (wl_nil (ob2 ⟨hT.1, fun h => hT.2.1 h, fun h => hT.2.2 h⟩ ⟨Chg.refl _ _, fun _ => Ext.refl _⟩ rfl))
  · rintro L g v hL hT hv4
    refine wl_does (does_load on_int hv4 (((SH v hT.1).blkZ 0).cell (Sq.get_goal _))) (by decide) (wl_nil (ob2 ⟨hT.1, fun h => hT.2.1 h, fun h => hT.2.2 h⟩ ⟨Chg.refl _ _, fun _ => Ext.refl _⟩ rfl))
  · rintro L g v hL hT hv3 hv5
    refine (have ⟨M, SS⟩ := (SH v hT.1).lend ((.z 2 rfl .nil)); wl_call (does_callg ca_rule_node (cons2 hv3 (cons2 hv5 rfl))) (by decide) (quiet (rule_node_st SS er3) (fun v w' h => ⟨h.1, _, _, h.2⟩)) (by rintro _ v' ⟨rfl, hx⟩; exact wl_nil (ob2 ⟨hT.1.thenExt hx, fun h => (hT.2.1 h).trans hx, fun h => (hT.2.2 h).ext hx⟩ ⟨hx.mono (fun _ _ x => x.elim), fun _ => hx⟩ rfl)))
  · rintro L g v hL hT hv6
    refine wl_does (does_field fv_Nd_kind on_api_Kind hv6 (Nd.get_kind _)) (by decide) (wl_nil (ob2 ⟨hT.1, fun h => hT.2.1 h, fun h => hT.2.2 h⟩ ⟨Chg.refl _ _, fun _ => Ext.refl _⟩ rfl))
  · rintro L g v hL hT hv7
    refine wl_does (does_eq hv7 rfl) (by decide) (wl_nil (ob2 ⟨hT.1, fun h => hT.2.1 h, fun h => hT.2.2 h⟩ ⟨Chg.refl _ _, fun _ => Ext.refl _⟩ rfl))
  · rintro L g v hL hT hv2
    refine wl_store_agg ag_Fnd rfl hv2 (hSB.ext (hT.2.1 hL)) (Fnd.len _) (by rw [Fnd.len]; decide) (Fnd.one _) (store_all (Fnd.len _)) fun v' hb hc _ => wl_nil (ob0 ⟨hT.1.trans hc, fun h => (by cases h), fun _ => hb⟩ ⟨hc, fun h => (by rw [hL] at h; cases h)⟩ (fun _ => trivial))
  rintro L g w4 hLm hT hv5_0 hv5_1 hv5_2 hv5_3 hv5_4 hv5_5 hv5_6 hv5_7 hv5_8 _
  replace S : St A N w w4 [oB b2 T_Fnd (Fnd.C (⟨8, a0.goal⟩ : Fnd))] [oB b_0 T_Sq (Sq.C a0), oB b_1 T_dictum_formula_has [.pointer a_1_1], oT a_1_1 a1] := S.store 0 (hT.2.2 (by rw [hLm]; rfl)) hT.1
  clear SH hSB
  refine wd (does_as_b hv5_8) ?_
  refine wl_nil ?_
  refine wc_ret ?_
  refine ⟨_, (rets2 (retOne_agg ag_Fnd rfl ((S.blk 0).all _ (Fnd.len _)) (Fnd.len _)) (retOne_tmp rfl)), ?_⟩
  replace S : St A N w w4 [] [] := S.arr [] []
  obtain rfl := Option.some.inj H
  exact ⟨rfl, S⟩
theorem rule_apply_5_st {A : Nat → Prop} {N : Oth} {w : World} {a0 : Sq} {b_0 : Nat} {a1 : Tb} {b_1 : Nat} {a_1_1 : Option Addr} (S : St A N w w [] [oB b_0 T_Sq (Sq.C a0), oB b_1 T_dictum_formula_has [.pointer a_1_1], oT a_1_1 a1]) {r : Fnd × Bool} (H : rule_apply_5.f a0 a1 = some r) :
    Calls PP F_rule_apply_5 #[.pointer (some ⟨b_0, 0, none⟩), .pointer (some ⟨b_1, 0, none⟩)] w fun e w' => ∃ v, e = .returned v ∧ (v = .tuple #[.agg (Fnd.C r.1).toArray, .bool r.2] ∧ St A N w w' [] []) := by
  unfold rule_apply_5.f at H
  refine calls_of_wc (n := 13) fn_rule_apply_5 rfl rfl (by simp) ?_
  refine wc_seq (wc_region ?_)
  refine wl_alloc ze_Fnd (by decide) fun b2 w1 hw1 => ?_
  replace S : St A N w w1 [oB b2 T_Fnd (Fnd.C Fnd.z)] [oB b_0 T_Sq (Sq.C a0), oB b_1 T_dictum_formula_has [.pointer a_1_1], oT a_1_1 a1] := S.new hw1
  refine wd (does_as_b rfl) ?_
  refine wl_nil ?_
  refine wc_seq ?_
  obtain ⟨r3, er3, H⟩ := bind_ex H
  have hSB := S.blk 0
  have SH : ∀ v, Chg (· = b2) w1 v → St A (N.or (· = b2)) w v [] [oB b_0 T_Sq (Sq.C a0), oB b_1 T_dictum_formula_has [.pointer a_1_1], oT a_1_1 a1] := fun v hc => S.awayB 0 (hc := hc)
  refine wc_draw2 10 ⟨fun L v => Chg (· = b2) w1 v ∧ (L 9 = false → Ext w1 v) ∧ (L 9 = true → Blk v b2 T_Fnd (Fnd.C (⟨9, a0.goal⟩ : Fnd))), fun L a c => Chg (· = b2) a c ∧ (L 9 = true → Ext a c), fun i v _ => match i with
    | 0 => v = Value.pointer (some ⟨b_0, 16, none⟩)
    | 1 => v = Value.int .i64 a0.goal
    | 2 => v = Value.agg (Fnd.C (⟨9, a0.goal⟩ : Fnd)).toArray
    | 3 => v = Value.pointer a_1_1
    | 4 => v = Value.pointer (some ⟨b_0, 16, none⟩)
    | 5 => v = Value.int .i64 a0.goal
    | 6 => v = Value.agg (Nd.C r3).toArray
    | 7 => v = Value.int .i64 r3.kind
    | 8 => v = Value.bool (decide (r3.kind = 3))
    | _ => True⟩ hmix (by kernel_rfl) (fun _ _ _ _ _ _ _ hv => hv) ⟨(Ext.drawn _).mono (fun _ _ x => x.elim), fun _ => Ext.drawn _, fun h => by cases h⟩ ⟨?_, ?_, ?_, ?_, ?_, ?_, ?_, ?_, ?_, ?_, trivial⟩ ?_
  · rintro L g v hL hT 
    refine wl_does (does_fieldAddr fl_Sq_goal rfl (o' := 16) rfl) (by decide) (wl_nil (ob2 ⟨hT.1, fun h => hT.2.1 h, fun h => hT.2.2 h⟩ ⟨Chg.refl _ _, fun _ => Ext.refl _⟩ rfl))
  · rintro L g v hL hT hv0
    refine wl_does (does_load on_int hv0 (((SH v hT.1).blkZ 0).cell (Sq.get_goal _))) (by decide) (wl_nil (ob2 ⟨hT.1, fun h => hT.2.1 h, fun h => hT.2.2 h⟩ ⟨Chg.refl _ _, fun _ => Ext.refl _⟩ rfl))
  · rintro L g v hL hT hv1
    refine wl_does (does_buildv (vs := [(0, .int .i64 9), (1, .int .i64 a0.goal)]) bu_Fnd (consP rfl (consP hv1 rfl)) (Bld.one rfl rfl (by rw [Fnd.len]; decide) (Fnd.set_k _ _) (Bld.one rfl rfl (by rw [Fnd.len]; decide) (Fnd.set_main _ _) Bld.nil))) (by decide) (wl_nil (ob2 ⟨hT.1, fun h => hT.2.1 h, fun h => hT.2.2 h⟩ ⟨Chg.refl _ _, fun _ => Ext.refl _⟩ rfl))
  · rintro L g v hL hT 
    refine wl_does (does_load on_dictum_formula_has rfl (((SH v hT.1).blkZ 1).cell rfl)) (by decide) (wl_nil (ob2 ⟨hT.1, fun h => hT.2.1 h, fun h => hT.2.2 h⟩ ⟨Chg.refl _ _, fun _ => Ext.refl _⟩ rfl))
  · rintro L g v hL hT 
    refine wl_does (does_fieldAddr fl_Sq_goal rfl (o' := 16) rfl) (by decide) (wl_nil (ob2 ⟨hT.1, fun h => hT.2.1 h, fun h => hT.2.2 h⟩ ⟨Chg.refl _ _, fun _ => Ext.refl _⟩ rfl))
  · rintro L g v hL hT hv4
    refine wl_does (does_load on_int hv4 (((SH v hT.1).blkZ 0).cell (Sq.get_goal _))) (by decide) (wl_nil (ob2 ⟨hT.1, fun h => hT.2.1 h, fun h => hT.2.2 h⟩ ⟨Chg.refl _ _, fun _ => Ext.refl _⟩ rfl))
  · rintro L g v hL hT hv3 hv5
    refine (have ⟨M, SS⟩ := (SH v hT.1).lend ((.z 2 rfl .nil)); wl_call (does_callg ca_rule_node (cons2 hv3 (cons2 hv5 rfl))) (by decide) (quiet (rule_node_st SS er3) (fun v w' h => ⟨h.1, _, _, h.2⟩)) (by rintro _ v' ⟨rfl, hx⟩; exact wl_nil (ob2 ⟨hT.1.thenExt hx, fun h => (hT.2.1 h).trans hx, fun h => (hT.2.2 h).ext hx⟩ ⟨hx.mono (fun _ _ x => x.elim), fun _ => hx⟩ rfl)))
  · rintro L g v hL hT hv6
    refine wl_does (does_field fv_Nd_kind on_api_Kind hv6 (Nd.get_kind _)) (by decide) (wl_nil (ob2 ⟨hT.1, fun h => hT.2.1 h, fun h => hT.2.2 h⟩ ⟨Chg.refl _ _, fun _ => Ext.refl _⟩ rfl))
  · rintro L g v hL hT hv7
    refine wl_does (does_eq hv7 rfl) (by decide) (wl_nil (ob2 ⟨hT.1, fun h => hT.2.1 h, fun h => hT.2.2 h⟩ ⟨Chg.refl _ _, fun _ => Ext.refl _⟩ rfl))
  · rintro L g v hL hT hv2
    refine wl_store_agg ag_Fnd rfl hv2 (hSB.ext (hT.2.1 hL)) (Fnd.len _) (by rw [Fnd.len]; decide) (Fnd.one _) (store_all (Fnd.len _)) fun v' hb hc _ => wl_nil (ob0 ⟨hT.1.trans hc, fun h => (by cases h), fun _ => hb⟩ ⟨hc, fun h => (by rw [hL] at h; cases h)⟩ (fun _ => trivial))
  rintro L g w4 hLm hT hv5_0 hv5_1 hv5_2 hv5_3 hv5_4 hv5_5 hv5_6 hv5_7 hv5_8 _
  replace S : St A N w w4 [oB b2 T_Fnd (Fnd.C (⟨9, a0.goal⟩ : Fnd))] [oB b_0 T_Sq (Sq.C a0), oB b_1 T_dictum_formula_has [.pointer a_1_1], oT a_1_1 a1] := S.store 0 (hT.2.2 (by rw [hLm]; rfl)) hT.1
  clear SH hSB
  refine wd (does_as_b hv5_8) ?_
  refine wl_nil ?_
  refine wc_ret ?_
  refine ⟨_, (rets2 (retOne_agg ag_Fnd rfl ((S.blk 0).all _ (Fnd.len _)) (Fnd.len _)) (retOne_tmp rfl)), ?_⟩
  replace S : St A N w w4 [] [] := S.arr [] []
  obtain rfl := Option.some.inj H
  exact ⟨rfl, S⟩
theorem rule_apply_6_1_st {A : Nat → Prop} {N : Oth} {w : World} {a0 : Int} (S : St A N w w [] []) {r : Bool} (H : rule_apply_6_1.f a0 = some r) :
    Calls PP F_rule_apply_6_1 #[.int .i64 a0] w fun e w' => ∃ v, e = .returned v ∧ (v = .bool r ∧ St A N w w' [] []) := by
  unfold rule_apply_6_1.f at H
  refine calls_of_wc (n := 5) fn_rule_apply_6_1 rfl rfl (by simp) ?_
  refine wc_seq (wc_region ?_)
  refine wd (does_as_b rfl) ?_
  refine wl_nil ?_
  refine wc_seq (wc_region ?_)
  refine wd (does_mv_i rfl) ?_
  refine wd (does_eq rfl rfl) ?_
  refine wd (does_as_b rfl) ?_
  refine wl_nil ?_
  refine wc_ret ?_
  refine ⟨_, (rets1 (retOne_tmp rfl)), ?_⟩
  obtain rfl := Option.some.inj H
  exact ⟨rfl, S⟩
theorem rule_least__rule_apply_6_1_st {A : Nat → Prop} {N : Oth} {w : World} {a0 : Tb} {a_0 : Option Addr} {a1 : Sq} (S : St A N w w [] [oT a_0 a0, oTz]) {r : Fnd × Bool} (H : rule_least__rule_apply_6_1.f a0 a1 = some r) :
    Calls PP F_rule_least #[.pointer a_0, .agg (Sq.C a1).toArray, .func (.func F_rule_apply_6_1) #[] #[]] w fun e w' => ∃ v, e = .returned v ∧ (v = .tuple #[.agg (Fnd.C r.1).toArray, .bool r.2] ∧ St A N w w' [] []) := by
  unfold rule_least__rule_apply_6_1.f at H
  refine calls_of_wc (n := 25) fn_rule_least rfl rfl (by simp) ?_
  refine wc_seq (wc_region ?_)
  refine wl_box_p rfl (by decide) fun b2 w1 hw1 => ?_
  replace S : St A N w w1 [oB b2 T_dictum_formula_has [.pointer a_0]] [oT a_0 a0, oTz] := S.new hw1
  refine wl_box_agg rfl (by decide) fun b4 w3 hw3 => ?_
  replace S : St A N w w3 [oB b4 T_Sq (Sq.C a1), oB b2 T_dictum_formula_has [.pointer a_0]] [oT a_0 a0, oTz] := S.new hw3
  refine wl_box_f rfl (by decide) fun b6 w5 hw5 => ?_
  replace S : St A N w w5 [oB b6 T_func_api_Rule_bool [.func (.func F_rule_apply_6_1) #[] #[]], oB b4 T_Sq (Sq.C a1), oB b2 T_dictum_formula_has [.pointer a_0]] [oT a_0 a0, oTz] := S.new hw5
  refine wl_alloc ze_Fnd (by decide) fun b8 w7 hw7 => ?_
  replace S : St A N w w7 [oB b8 T_Fnd (Fnd.C Fnd.z), oB b6 T_func_api_Rule_bool [.func (.func F_rule_apply_6_1) #[] #[]], oB b4 T_Sq (Sq.C a1), oB b2 T_dictum_formula_has [.pointer a_0]] [oT a_0 a0, oTz] := S.new hw7
  refine wl_alloc ze_bool (by decide) fun b10 w9 hw9 => ?_
  replace S : St A N w w9 [oB b10 T_bool [.bool false], oB b8 T_Fnd (Fnd.C Fnd.z), oB b6 T_func_api_Rule_bool [.func (.func F_rule_apply_6_1) #[] #[]], oB b4 T_Sq (Sq.C a1), oB b2 T_dictum_formula_has [.pointer a_0]] [oT a_0 a0, oTz] := S.new hw9
  refine wl_nil ?_
  refine wc_seq (wc_seq (wc_region ?_))
  refine wd (does_fieldAddr fl_Sq_left rfl (o' := 0) rfl) ?_
  refine wd (does_load_agg ag_Bits rfl ((S.blk 3).cells (Sq.sub_left _)) (Bits.len _)) ?_
  refine wl_call (does_call ca_bits_All) (by decide) (bits_All_ok _ a1.left) ?_
  rintro _ w11 ⟨c12, rfl, Bc12, hc12, Ec12⟩
  replace S : St A N w w11 [oB b10 T_bool [.bool false], oB b8 T_Fnd (Fnd.C Fnd.z), oB b6 T_func_api_Rule_bool [.func (.func F_rule_apply_6_1) #[] #[]], oB b4 T_Sq (Sq.C a1), oB b2 T_dictum_formula_has [.pointer a_0]] [oB c12 T_Bits (Bits.C a1.left), oT a_0 a0, oTz] := S.addZ (b := oB c12 T_Bits (Bits.C a1.left)) (G := (· = c12)) Ec12 ⟨Bc12, fun _ => Iff.rfl⟩ (fun i hi => by rw [hi]; exact hc12)
  refine wl_nil ?_
  refine wc_block ?_
  obtain ⟨hok13, H⟩ := chk_ex H
  obtain ⟨o14, e14, Ho14⟩ := bind_ex H
  clear H
  refine wc_rangeSt (xs := Bits.list a1.left) (enc := fun (x : Nat) => Value.int .i64 (x : Int)) (bd := (fun (x : Nat) (s : Bool × Fnd) => rule_least__rule_apply_6_1.b0 a0 a1 (x : Int) s.1 s.2)) (L := (fun (s : Bool × Fnd) (c : Unit) => [oB b10 T_bool [.bool s.1], oB b8 T_Fnd (Fnd.C s.2), oB b6 T_func_api_Rule_bool [.func (.func F_rule_apply_6_1) #[] #[]], oB b4 T_Sq (Sq.C a1), oB b2 T_dictum_formula_has [.pointer a_0]])) (Lr := (fun (s : Bool × Fnd) (c : Unit) => [oB b10 T_bool [.bool s.1], oB b8 T_Fnd (Fnd.C s.2), oB b6 T_func_api_Rule_bool [.func (.func F_rule_apply_6_1) #[] #[]], oB b4 T_Sq (Sq.C a1), oB b2 T_dictum_formula_has [.pointer a_0]])) (Z := [oB c12 T_Bits (Bits.C a1.left), oT a_0 a0, oTz]) () false 0 rfl ca_bits_All_1 (bits_All_1_gives (Bits.okB_ok hok13) c12) (by decide) (fun N' s c W h => ⟨h.blkZ 0, h.tz 2⟩) S e14 ?_ ?_ ?_ ?_
  · rintro i14 ⟨x14_0, x14_1⟩ _ q14 N14 rd u14 H S
    replace S : St A N14 w u14 [oB b10 T_bool [.bool x14_0], oB b8 T_Fnd (Fnd.C x14_1), oB b6 T_func_api_Rule_bool [.func (.func F_rule_apply_6_1) #[] #[]], oB b4 T_Sq (Sq.C a1), oB b2 T_dictum_formula_has [.pointer a_0]] [oB c12 T_Bits (Bits.C a1.left), oT a_0 a0, oTz] := S
    refine wc_region ?_
    refine wd (does_as_i rfl) ?_
    refine wl_nil ?_
    refine ⟨rfl, S, fun M14 v14 S => ?_⟩
    replace S : St A M14 w v14 [oB b10 T_bool [.bool x14_0], oB b8 T_Fnd (Fnd.C x14_1), oB b6 T_func_api_Rule_bool [.func (.func F_rule_apply_6_1) #[] #[]], oB b4 T_Sq (Sq.C a1), oB b2 T_dictum_formula_has [.pointer a_0]] [oB c12 T_Bits (Bits.C a1.left), oT a_0 a0, oTz] := S
    replace H : rule_least__rule_apply_6_1.b0 a0 a1 (i14 : Int) x14_0 x14_1 = some q14 := H
    unfold rule_least__rule_apply_6_1.b0 at H
    try dsimp only at H
    refine wc_block ?_
    refine wc_seq (wc_region ?_)
    refine wd (does_load on_dictum_formula_has rfl ((S.blk 4).cell rfl)) ?_
    refine wd (does_load_agg ag_Sq rfl ((S.blk 3).all _ (Sq.len _)) (Sq.len _)) ?_
    refine wd (does_mv_i rfl) ?_
    obtain ⟨r15, er15, H⟩ := bind_ex H
    obtain ⟨B17, MB17, SB17, back⟩ := S.calln 0 ((.z 1 rfl .nil))
    refine wl_call (does_call ca_rule_on) (by decide) (rule_on_st SB17 er15) ?_
    rintro _ w16 ⟨rfl, S2⟩
    replace S : St A M14 w w16 [oB b10 T_bool [.bool x14_0], oB b8 T_Fnd (Fnd.C x14_1), oB b6 T_func_api_Rule_bool [.func (.func F_rule_apply_6_1) #[] #[]], oB b4 T_Sq (Sq.C a1), oB b2 T_dictum_formula_has [.pointer a_0]] [oB c12 T_Bits (Bits.C a1.left), oT a_0 a0, oTz] := back _ _ _ _ S2 rfl
    clear back S2 SB17
    refine wd (does_as_i rfl) ?_
    refine wl_nil ?_
    refine wc_seq (wc_region ?_)
    refine wd (does_load on_func_api_Rule_bool rfl ((S.blk 2).cell rfl)) ?_
    refine wd (does_mv_i rfl) ?_
    obtain ⟨r18, er18, H⟩ := bind_ex H
    obtain ⟨B20, MB20, SB20, back⟩ := S.calln 0 ((.nil))
    refine wl_call (does_callv ca_rule_apply_6_1 rfl) (by decide) (rule_apply_6_1_st SB20 er18) ?_
    rintro _ w19 ⟨rfl, S2⟩
    replace S : St A M14 w w19 [oB b10 T_bool [.bool x14_0], oB b8 T_Fnd (Fnd.C x14_1), oB b6 T_func_api_Rule_bool [.func (.func F_rule_apply_6_1) #[] #[]], oB b4 T_Sq (Sq.C a1), oB b2 T_dictum_formula_has [.pointer a_0]] [oB c12 T_Bits (Bits.C a1.left), oT a_0 a0, oTz] := back _ _ _ _ S2 rfl
    clear back S2 SB20
    refine wl_nil ?_
    refine wc_if rfl (fun hc21 => ?_) (fun hc21 => ?_)
    · replace H := if_t hc21 H
      refine wc_seq (wc_region ?_)
      refine wd (does_mv_i rfl) ?_
      refine wd (does_mv_i rfl) ?_
      refine wd (does_build bu_Fnd (Bld.one rfl rfl (by rw [Fnd.len]; decide) (Fnd.set_k _ _) (Bld.one rfl rfl (by rw [Fnd.len]; decide) (Fnd.set_main _ _) Bld.nil))) ?_
      refine wl_store_agg ag_Fnd rfl rfl (S.blk 1) (Fnd.len _) (by rw [Fnd.len]; decide) (Fnd.one _) (store_all (Fnd.len _)) fun w22 B hw22 zw22 => ?_
      replace S : St A M14 w w22 [oB b8 T_Fnd (Fnd.C (⟨r15, (i14 : Int)⟩ : Fnd)), oB b10 T_bool [.bool x14_0], oB b6 T_func_api_Rule_bool [.func (.func F_rule_apply_6_1) #[] #[]], oB b4 T_Sq (Sq.C a1), oB b2 T_dictum_formula_has [.pointer a_0]] [oB c12 T_Bits (Bits.C a1.left), oT a_0 a0, oTz] := S.store 1 B hw22
      clear B
      refine wl_store on_bool rfl rfl (S.blk 1) (by simp) rfl rfl fun w23 B hw23 zw23 => ?_
      replace S : St A M14 w w23 [oB b10 T_bool [.bool true], oB b8 T_Fnd (Fnd.C (⟨r15, (i14 : Int)⟩ : Fnd)), oB b6 T_func_api_Rule_bool [.func (.func F_rule_apply_6_1) #[] #[]], oB b4 T_Sq (Sq.C a1), oB b2 T_dictum_formula_has [.pointer a_0]] [oB c12 T_Bits (Bits.C a1.left), oT a_0 a0, oTz] := S.store 1 B hw23
      clear B
      refine wl_nil ?_
      refine wc_ret ?_
      obtain rfl := Option.some.inj H
      exact ⟨_, rfl, (), S⟩
    replace H := if_f hc21 H
    refine wc_skip ?_
    obtain rfl := Option.some.inj H
    exact ⟨_, rfl, (), S⟩
  · rintro s14 _ B14 w24 rfl S hB14
    replace S : St A (N.done B14) w w24 [oB b10 T_bool [.bool s14.1], oB b8 T_Fnd (Fnd.C s14.2), oB b6 T_func_api_Rule_bool [.func (.func F_rule_apply_6_1) #[] #[]], oB b4 T_Sq (Sq.C a1), oB b2 T_dictum_formula_has [.pointer a_0]] [oB c12 T_Bits (Bits.C a1.left), oT a_0 a0, oTz] := S
    have H := Ho14
    dsimp only [fin] at H
    refine wc_seq (wc_region ?_)
    refine wd (does_build bu_Fnd Bld.nil) ?_
    refine wl_store_agg ag_Fnd rfl rfl (S.blk 1) (Fnd.len _) (by rw [Fnd.len]; decide) (Fnd.one _) (store_all (Fnd.len _)) fun w25 B hw25 zw25 => ?_
    replace S : St A (N.done B14) w w25 [oB b8 T_Fnd (Fnd.C Fnd.z), oB b10 T_bool [.bool s14.1], oB b6 T_func_api_Rule_bool [.func (.func F_rule_apply_6_1) #[] #[]], oB b4 T_Sq (Sq.C a1), oB b2 T_dictum_formula_has [.pointer a_0]] [oB c12 T_Bits (Bits.C a1.left), oT a_0 a0, oTz] := S.store 1 B hw25
    clear B
    refine wl_store on_bool rfl rfl (S.blk 1) (by simp) rfl rfl fun w26 B hw26 zw26 => ?_
    replace S : St A (N.done B14) w w26 [oB b10 T_bool [.bool false], oB b8 T_Fnd (Fnd.C Fnd.z), oB b6 T_func_api_Rule_bool [.func (.func F_rule_apply_6_1) #[] #[]], oB b4 T_Sq (Sq.C a1), oB b2 T_dictum_formula_has [.pointer a_0]] [oB c12 T_Bits (Bits.C a1.left), oT a_0 a0, oTz] := S.store 1 B hw26
    clear B
    refine wl_nil ?_
    refine wc_ret ?_
    refine end1 (.inl rfl) (S.take hB14).1 fun w27 hcw27 => ?_
    replace S : St A N w w27 [oB b10 T_bool [.bool false], oB b8 T_Fnd (Fnd.C Fnd.z), oB b6 T_func_api_Rule_bool [.func (.func F_rule_apply_6_1) #[] #[]], oB b4 T_Sq (Sq.C a1), oB b2 T_dictum_formula_has [.pointer a_0]] [oB c12 T_Bits (Bits.C a1.left), oT a_0 a0, oTz] := (S.take hB14).2 _ hcw27
    refine ⟨_, (rets2 (retOne_agg ag_Fnd rfl ((S.blk 1).all _ (Fnd.len _)) (Fnd.len _)) (retOne_one on_bool rfl ((S.blk 0).cell rfl))), ?_⟩
    replace S : St A N w w27 [] [] := S.arr [] []
    obtain rfl := Option.some.inj H
    exact ⟨rfl, S⟩
  · rintro s14 _ B14 w28 rfl S hB14
    replace S : St A (N.done B14) w w28 [oB b10 T_bool [.bool s14.1], oB b8 T_Fnd (Fnd.C s14.2), oB b6 T_func_api_Rule_bool [.func (.func F_rule_apply_6_1) #[] #[]], oB b4 T_Sq (Sq.C a1), oB b2 T_dictum_formula_has [.pointer a_0]] [oB c12 T_Bits (Bits.C a1.left), oT a_0 a0, oTz] := S
    have H := Ho14
    dsimp only [fin] at H
    refine end1 (.inl rfl) (S.take hB14).1 fun w29 hcw29 => ?_
    replace S : St A N w w29 [oB b10 T_bool [.bool s14.1], oB b8 T_Fnd (Fnd.C s14.2), oB b6 T_func_api_Rule_bool [.func (.func F_rule_apply_6_1) #[] #[]], oB b4 T_Sq (Sq.C a1), oB b2 T_dictum_formula_has [.pointer a_0]] [oB c12 T_Bits (Bits.C a1.left), oT a_0 a0, oTz] := (S.take hB14).2 _ hcw29
    refine ⟨_, (rets2 (retOne_agg ag_Fnd rfl ((S.blk 1).all _ (Fnd.len _)) (Fnd.len _)) (retOne_one on_bool rfl ((S.blk 0).cell rfl))), ?_⟩
    replace S : St A N w w29 [] [] := S.arr [] []
    obtain rfl := Option.some.inj H
    exact ⟨rfl, S⟩
  · intro h; cases h
theorem rule_apply_6_st {A : Nat → Prop} {N : Oth} {w : World} {a0 : Tb} {b_0 : Nat} {a_0_1 : Option Addr} {a1 : Sq} {b_1 : Nat} (S : St A N w w [] [oB b_0 T_dictum_formula_has [.pointer a_0_1], oT a_0_1 a0, oB b_1 T_Sq (Sq.C a1), oTz]) {r : Fnd × Bool} (H : rule_apply_6.f a0 a1 = some r) :
    Calls PP F_rule_apply_6 #[.pointer (some ⟨b_0, 0, none⟩), .pointer (some ⟨b_1, 0, none⟩)] w fun e w' => ∃ v, e = .returned v ∧ (v = .tuple #[.agg (Fnd.C r.1).toArray, .bool r.2] ∧ St A N w w' [] []) := by
  unfold rule_apply_6.f at H
  refine calls_of_wc (n := 9) fn_rule_apply_6 rfl rfl (by simp) ?_
  refine wc_seq (wc_region ?_)
  refine wl_alloc ze_Fnd (by decide) fun b2 w1 hw1 => ?_
  replace S : St A N w w1 [oB b2 T_Fnd (Fnd.C Fnd.z)] [oB b_0 T_dictum_formula_has [.pointer a_0_1], oT a_0_1 a0, oB b_1 T_Sq (Sq.C a1), oTz] := S.new hw1
  refine wd (does_as_b rfl) ?_
  refine wl_nil ?_
  refine wc_seq (wc_region ?_)
  refine wd (does_load on_dictum_formula_has rfl ((S.blkZ 0).cell rfl)) ?_
  refine wd (does_load_agg ag_Sq rfl ((S.blkZ 2).all _ (Sq.len _)) (Sq.len _)) ?_
  obtain ⟨r3, er3, H⟩ := bind_ex H
  obtain ⟨B5, MB5, SB5, back⟩ := S.calln 0 ((.z 1 rfl (.z 3 rfl .nil)))
  refine wl_call (does_call ca_rule_least) (by decide) (rule_least__rule_apply_6_1_st SB5 er3) ?_
  rintro _ w4 ⟨rfl, S2⟩
  replace S : St A N w w4 [oB b2 T_Fnd (Fnd.C Fnd.z)] [oB b_0 T_dictum_formula_has [.pointer a_0_1], oT a_0_1 a0, oB b_1 T_Sq (Sq.C a1), oTz] := back _ _ _ _ S2 rfl
  clear back S2 SB5
  refine wd (does_extract rfl rfl) ?_
  refine wd (does_extract rfl rfl) ?_
  refine wl_store_agg ag_Fnd rfl rfl (S.blk 0) (Fnd.len _) (by rw [Fnd.len]; decide) (Fnd.one _) (store_all (Fnd.len _)) fun w6 B hw6 zw6 => ?_
  replace S : St A N w w6 [oB b2 T_Fnd (Fnd.C r3.1)] [oB b_0 T_dictum_formula_has [.pointer a_0_1], oT a_0_1 a0, oB b_1 T_Sq (Sq.C a1), oTz] := S.store 0 B hw6
  clear B
  refine wd (does_as_b rfl) ?_
  refine wl_nil ?_
  refine wc_ret ?_
  refine ⟨_, (rets2 (retOne_agg ag_Fnd rfl ((S.blk 0).all _ (Fnd.len _)) (Fnd.len _)) (retOne_tmp rfl)), ?_⟩
  replace S : St A N w w6 [] [] := S.arr [] []
  obtain rfl := Option.some.inj H
  exact ⟨rfl, S⟩
theorem rule_apply_st {A : Nat → Prop} {N : Oth} {w : World} {a0 : Tb} {a_0 : Option Addr} {a1 : Sq} (S : St A N w w [] [oT a_0 a0, oTz]) {r : Fnd} (H : rule_apply.f a0 a1 = some r) :
    Calls PP F_rule_apply #[.pointer a_0, .agg (Sq.C a1).toArray] w fun e w' => ∃ v, e = .returned v ∧ (v = .agg (Fnd.C r).toArray ∧ St A N w w' [] []) := by
  unfold rule_apply.f at H
  refine calls_of_wc (n := 32) fn_rule_apply rfl rfl (by simp) ?_
  refine wc_seq (wc_region ?_)
  refine wl_box_p rfl (by decide) fun b2 w1 hw1 => ?_
  replace S : St A N w w1 [oB b2 T_dictum_formula_has [.pointer a_0]] [oT a_0 a0, oTz] := S.new hw1
  refine wl_box_agg rfl (by decide) fun b4 w3 hw3 => ?_
  replace S : St A N w w3 [oB b4 T_Sq (Sq.C a1), oB b2 T_dictum_formula_has [.pointer a_0]] [oT a_0 a0, oTz] := S.new hw3
  refine wl_alloc ze_Fnd (by decide) fun b6 w5 hw5 => ?_
  replace S : St A N w w5 [oB b6 T_Fnd (Fnd.C Fnd.z), oB b4 T_Sq (Sq.C a1), oB b2 T_dictum_formula_has [.pointer a_0]] [oT a_0 a0, oTz] := S.new hw5
  refine wl_nil ?_
  refine wc_seq (wc_region ?_)
  refine wd (does_funcl) ?_
  refine wd (does_funcl) ?_
  refine wd (does_funcl) ?_
  refine wd (does_funcl) ?_
  refine wd (does_funcl) ?_
  refine wd (does_funcl) ?_
  refine wl_lits (C := FC) (l := [FnV.mk (.func F_rule_apply_1) #[] #[.pointer (some ⟨b2, 0, none⟩), .pointer (some ⟨b4, 0, none⟩)], FnV.mk (.func F_rule_apply_2) #[] #[.pointer (some ⟨b4, 0, none⟩)], FnV.mk (.func F_rule_apply_3) #[] #[.pointer (some ⟨b2, 0, none⟩), .pointer (some ⟨b4, 0, none⟩)], FnV.mk (.func F_rule_apply_4) #[] #[.pointer (some ⟨b4, 0, none⟩), .pointer (some ⟨b2, 0, none⟩)], FnV.mk (.func F_rule_apply_5) #[] #[.pointer (some ⟨b4, 0, none⟩), .pointer (some ⟨b2, 0, none⟩)], FnV.mk (.func F_rule_apply_6) #[] #[.pointer (some ⟨b2, 0, none⟩), .pointer (some ⟨b4, 0, none⟩)]]) (vs := [.func (.func F_rule_apply_1) #[] #[.pointer (some ⟨b2, 0, none⟩), .pointer (some ⟨b4, 0, none⟩)], .func (.func F_rule_apply_2) #[] #[.pointer (some ⟨b4, 0, none⟩)], .func (.func F_rule_apply_3) #[] #[.pointer (some ⟨b2, 0, none⟩), .pointer (some ⟨b4, 0, none⟩)], .func (.func F_rule_apply_4) #[] #[.pointer (some ⟨b4, 0, none⟩), .pointer (some ⟨b2, 0, none⟩)], .func (.func F_rule_apply_5) #[] #[.pointer (some ⟨b4, 0, none⟩), .pointer (some ⟨b2, 0, none⟩)], .func (.func F_rule_apply_6) #[] #[.pointer (some ⟨b2, 0, none⟩), .pointer (some ⟨b4, 0, none⟩)]]) sl_L_func_rule_found_bool el_func_rule_found_bool.zero rfl rfl (fun _ _ => rfl) (by decide) rfl (by decide) fun b8 w7 s9 hBw7 hw7 => ?_
  replace S : St A N w w7 [oS T_func_rule_found_bool 1 FC s9 ([FnV.mk (.func F_rule_apply_1) #[] #[.pointer (some ⟨b2, 0, none⟩), .pointer (some ⟨b4, 0, none⟩)], FnV.mk (.func F_rule_apply_2) #[] #[.pointer (some ⟨b4, 0, none⟩)], FnV.mk (.func F_rule_apply_3) #[] #[.pointer (some ⟨b2, 0, none⟩), .pointer (some ⟨b4, 0, none⟩)], FnV.mk (.func F_rule_apply_4) #[] #[.pointer (some ⟨b4, 0, none⟩), .pointer (some ⟨b2, 0, none⟩)], FnV.mk (.func F_rule_apply_5) #[] #[.pointer (some ⟨b4, 0, none⟩), .pointer (some ⟨b2, 0, none⟩)], FnV.mk (.func F_rule_apply_6) #[] #[.pointer (some ⟨b2, 0, none⟩), .pointer (some ⟨b4, 0, none⟩)]]), oB b6 T_Fnd (Fnd.C Fnd.z), oB b4 T_Sq (Sq.C a1), oB b2 T_dictum_formula_has [.pointer a_0]] [oT a_0 a0, oTz] := S.lit hBw7 hw7 (by simp)
  refine wd (does_as_l rfl) ?_
  refine wl_nil ?_
  refine wc_seq (wc_seq (wc_region ?_))
  refine wd (does_mv_l rfl) ?_
  refine wd (does_lenR sl_L_func_rule_found_bool rfl (S.rdO 0)) ?_
  refine wd (does_mv_i rfl) ?_
  refine wl_nil ?_
  refine wc_block ?_
  refine wc_rounds 7 ?_
  refine rounds_s ?_
  refine wc_seq (wc_region ?_)
  refine wd (does_lt rfl rfl) ?_
  refine wl_nil ?_
  refine wc_seq ?_
  refine wc_true rfl ?_
  refine wc_skip ?_
  refine wc_seq ?_
  refine wc_block ?_
  refine wc_seq (wc_region ?_)
  refine wd (does_indexR sl_L_func_rule_found_bool rfl rfl (S.rdO 0) (by decide) (by simp)) ?_
  refine wd (does_load on_func_rule_found_bool rfl ((S.rdO 0).one (at_some FnV.nil (And.intro (by decide) (by simp))) rfl)) ?_
  refine wd (does_as_f rfl) ?_
  refine wl_nil ?_
  refine wc_seq (wc_region ?_)
  refine wd (does_mv_f rfl) ?_
  obtain ⟨r12, er12, H⟩ := bind_ex H
  obtain ⟨B14, MB14, SB14, back⟩ := S.calln 0 ((.o 3 rfl (.z 0 rfl (.o 2 rfl (.z 1 rfl .nil)))))
  refine wl_call (does_callv ca_rule_apply_1 rfl) (by decide) (rule_apply_1_st SB14 er12) ?_
  rintro _ w13 ⟨rfl, S2⟩
  replace S : St A N w w13 [oS T_func_rule_found_bool 1 FC s9 ([FnV.mk (.func F_rule_apply_1) #[] #[.pointer (some ⟨b2, 0, none⟩), .pointer (some ⟨b4, 0, none⟩)], FnV.mk (.func F_rule_apply_2) #[] #[.pointer (some ⟨b4, 0, none⟩)], FnV.mk (.func F_rule_apply_3) #[] #[.pointer (some ⟨b2, 0, none⟩), .pointer (some ⟨b4, 0, none⟩)], FnV.mk (.func F_rule_apply_4) #[] #[.pointer (some ⟨b4, 0, none⟩), .pointer (some ⟨b2, 0, none⟩)], FnV.mk (.func F_rule_apply_5) #[] #[.pointer (some ⟨b4, 0, none⟩), .pointer (some ⟨b2, 0, none⟩)], FnV.mk (.func F_rule_apply_6) #[] #[.pointer (some ⟨b2, 0, none⟩), .pointer (some ⟨b4, 0, none⟩)]]), oB b6 T_Fnd (Fnd.C Fnd.z), oB b4 T_Sq (Sq.C a1), oB b2 T_dictum_formula_has [.pointer a_0]] [oT a_0 a0, oTz] := back _ _ _ _ S2 rfl
  clear back S2 SB14
  refine wd (does_mv_t rfl) ?_
  refine wd (does_extract rfl rfl) ?_
  refine wd (does_extract rfl rfl) ?_
  refine wl_alloc ze_Fnd (by decide) fun b16 w15 hw15 => ?_
  replace S : St A N w w15 [oB b16 T_Fnd (Fnd.C Fnd.z), oS T_func_rule_found_bool 1 FC s9 ([FnV.mk (.func F_rule_apply_1) #[] #[.pointer (some ⟨b2, 0, none⟩), .pointer (some ⟨b4, 0, none⟩)], FnV.mk (.func F_rule_apply_2) #[] #[.pointer (some ⟨b4, 0, none⟩)], FnV.mk (.func F_rule_apply_3) #[] #[.pointer (some ⟨b2, 0, none⟩), .pointer (some ⟨b4, 0, none⟩)], FnV.mk (.func F_rule_apply_4) #[] #[.pointer (some ⟨b4, 0, none⟩), .pointer (some ⟨b2, 0, none⟩)], FnV.mk (.func F_rule_apply_5) #[] #[.pointer (some ⟨b4, 0, none⟩), .pointer (some ⟨b2, 0, none⟩)], FnV.mk (.func F_rule_apply_6) #[] #[.pointer (some ⟨b2, 0, none⟩), .pointer (some ⟨b4, 0, none⟩)]]), oB b6 T_Fnd (Fnd.C Fnd.z), oB b4 T_Sq (Sq.C a1), oB b2 T_dictum_formula_has [.pointer a_0]] [oT a_0 a0, oTz] := S.new hw15
  refine wl_store_agg ag_Fnd rfl rfl (S.blk 0) (Fnd.len _) (by rw [Fnd.len]; decide) (Fnd.one _) (store_all (Fnd.len _)) fun w17 B hw17 zw17 => ?_
  replace S : St A N w w17 [oB b16 T_Fnd (Fnd.C r12.1), oS T_func_rule_found_bool 1 FC s9 ([FnV.mk (.func F_rule_apply_1) #[] #[.pointer (some ⟨b2, 0, none⟩), .pointer (some ⟨b4, 0, none⟩)], FnV.mk (.func F_rule_apply_2) #[] #[.pointer (some ⟨b4, 0, none⟩)], FnV.mk (.func F_rule_apply_3) #[] #[.pointer (some ⟨b2, 0, none⟩), .pointer (some ⟨b4, 0, none⟩)], FnV.mk (.func F_rule_apply_4) #[] #[.pointer (some ⟨b4, 0, none⟩), .pointer (some ⟨b2, 0, none⟩)], FnV.mk (.func F_rule_apply_5) #[] #[.pointer (some ⟨b4, 0, none⟩), .pointer (some ⟨b2, 0, none⟩)], FnV.mk (.func F_rule_apply_6) #[] #[.pointer (some ⟨b2, 0, none⟩), .pointer (some ⟨b4, 0, none⟩)]]), oB b6 T_Fnd (Fnd.C Fnd.z), oB b4 T_Sq (Sq.C a1), oB b2 T_dictum_formula_has [.pointer a_0]] [oT a_0 a0, oTz] := S.store 0 B hw17
  clear B
  refine wd (does_as_b rfl) ?_
  refine wl_nil ?_
  refine wc_seq (wc_region ?_)
  refine wd (does_mv_b rfl) ?_
  refine wl_nil ?_
  refine wc_if rfl (fun hc18 => ?_) (fun hc18 => ?_)
  · replace H := if_t hc18 H
    refine wc_seq (wc_region ?_)
    refine wd (does_load_agg ag_Fnd rfl ((S.blk 0).all _ (Fnd.len _)) (Fnd.len _)) ?_
    refine wl_store_agg ag_Fnd rfl rfl (S.blk 2) (Fnd.len _) (by rw [Fnd.len]; decide) (Fnd.one _) (store_all (Fnd.len _)) fun w19 B hw19 zw19 => ?_
    replace S : St A N w w19 [oB b6 T_Fnd (Fnd.C r12.1), oB b16 T_Fnd (Fnd.C r12.1), oS T_func_rule_found_bool 1 FC s9 ([FnV.mk (.func F_rule_apply_1) #[] #[.pointer (some ⟨b2, 0, none⟩), .pointer (some ⟨b4, 0, none⟩)], FnV.mk (.func F_rule_apply_2) #[] #[.pointer (some ⟨b4, 0, none⟩)], FnV.mk (.func F_rule_apply_3) #[] #[.pointer (some ⟨b2, 0, none⟩), .pointer (some ⟨b4, 0, none⟩)], FnV.mk (.func F_rule_apply_4) #[] #[.pointer (some ⟨b4, 0, none⟩), .pointer (some ⟨b2, 0, none⟩)], FnV.mk (.func F_rule_apply_5) #[] #[.pointer (some ⟨b4, 0, none⟩), .pointer (some ⟨b2, 0, none⟩)], FnV.mk (.func F_rule_apply_6) #[] #[.pointer (some ⟨b2, 0, none⟩), .pointer (some ⟨b4, 0, none⟩)]]), oB b4 T_Sq (Sq.C a1), oB b2 T_dictum_formula_has [.pointer a_0]] [oT a_0 a0, oTz] := S.store 2 B hw19
    clear B
    refine wl_nil ?_
    refine wc_ret ?_
    refine ⟨_, (rets1 (retOne_agg ag_Fnd rfl ((S.blk 0).all _ (Fnd.len _)) (Fnd.len _))), ?_⟩
    replace S : St A N w w19 [] [] := S.arr [] []
    obtain rfl := Option.some.inj H
    exact ⟨rfl, S⟩
  replace H := if_f hc18 H
  refine wc_skip ?_
  refine wc_region ?_
  refine wd (does_addc rfl rfl (c := 1) rfl (by decide) (by decide)) ?_
  refine wd (does_mv_i rfl) ?_
  refine wl_nil ?_
  refine ⟨rfl, ?_⟩
  refine rounds_s ?_
  refine wc_seq (wc_region ?_)
  refine wd (does_lt rfl rfl) ?_
  refine wl_nil ?_
  refine wc_seq ?_
  refine wc_true rfl ?_
  refine wc_skip ?_
  refine wc_seq ?_
  refine wc_block ?_
  refine wc_seq (wc_region ?_)
  refine wd (does_indexR sl_L_func_rule_found_bool rfl rfl (S.rdO 1) (by decide) (by simp)) ?_
  refine wd (does_load on_func_rule_found_bool rfl ((S.rdO 1).one (at_some FnV.nil (And.intro (by decide) (by simp))) rfl)) ?_
  refine wd (does_as_f rfl) ?_
  refine wl_nil ?_
  refine wc_seq (wc_region ?_)
  refine wd (does_mv_f rfl) ?_
  obtain ⟨r22, er22, H⟩ := bind_ex H
  obtain ⟨B24, MB24, SB24, back⟩ := S.calln 0 ((.o 3 rfl .nil))
  refine wl_call (does_callv ca_rule_apply_2 rfl) (by decide) (rule_apply_2_st SB24 er22) ?_
  rintro _ w23 ⟨rfl, S2⟩
  replace S : St A N w w23 [oB b16 T_Fnd (Fnd.C r12.1), oS T_func_rule_found_bool 1 FC s9 ([FnV.mk (.func F_rule_apply_1) #[] #[.pointer (some ⟨b2, 0, none⟩), .pointer (some ⟨b4, 0, none⟩)], FnV.mk (.func F_rule_apply_2) #[] #[.pointer (some ⟨b4, 0, none⟩)], FnV.mk (.func F_rule_apply_3) #[] #[.pointer (some ⟨b2, 0, none⟩), .pointer (some ⟨b4, 0, none⟩)], FnV.mk (.func F_rule_apply_4) #[] #[.pointer (some ⟨b4, 0, none⟩), .pointer (some ⟨b2, 0, none⟩)], FnV.mk (.func F_rule_apply_5) #[] #[.pointer (some ⟨b4, 0, none⟩), .pointer (some ⟨b2, 0, none⟩)], FnV.mk (.func F_rule_apply_6) #[] #[.pointer (some ⟨b2, 0, none⟩), .pointer (some ⟨b4, 0, none⟩)]]), oB b6 T_Fnd (Fnd.C Fnd.z), oB b4 T_Sq (Sq.C a1), oB b2 T_dictum_formula_has [.pointer a_0]] [oT a_0 a0, oTz] := back _ _ _ _ S2 rfl
  clear back S2 SB24
  refine wd (does_mv_t rfl) ?_
  refine wd (does_extract rfl rfl) ?_
  refine wd (does_extract rfl rfl) ?_
  refine wl_alloc ze_Fnd (by decide) fun b26 w25 hw25 => ?_
  replace S : St A N w w25 [oB b26 T_Fnd (Fnd.C Fnd.z), oB b16 T_Fnd (Fnd.C r12.1), oS T_func_rule_found_bool 1 FC s9 ([FnV.mk (.func F_rule_apply_1) #[] #[.pointer (some ⟨b2, 0, none⟩), .pointer (some ⟨b4, 0, none⟩)], FnV.mk (.func F_rule_apply_2) #[] #[.pointer (some ⟨b4, 0, none⟩)], FnV.mk (.func F_rule_apply_3) #[] #[.pointer (some ⟨b2, 0, none⟩), .pointer (some ⟨b4, 0, none⟩)], FnV.mk (.func F_rule_apply_4) #[] #[.pointer (some ⟨b4, 0, none⟩), .pointer (some ⟨b2, 0, none⟩)], FnV.mk (.func F_rule_apply_5) #[] #[.pointer (some ⟨b4, 0, none⟩), .pointer (some ⟨b2, 0, none⟩)], FnV.mk (.func F_rule_apply_6) #[] #[.pointer (some ⟨b2, 0, none⟩), .pointer (some ⟨b4, 0, none⟩)]]), oB b6 T_Fnd (Fnd.C Fnd.z), oB b4 T_Sq (Sq.C a1), oB b2 T_dictum_formula_has [.pointer a_0]] [oT a_0 a0, oTz] := S.new hw25
  refine wl_store_agg ag_Fnd rfl rfl (S.blk 0) (Fnd.len _) (by rw [Fnd.len]; decide) (Fnd.one _) (store_all (Fnd.len _)) fun w27 B hw27 zw27 => ?_
  replace S : St A N w w27 [oB b26 T_Fnd (Fnd.C r22.1), oB b16 T_Fnd (Fnd.C r12.1), oS T_func_rule_found_bool 1 FC s9 ([FnV.mk (.func F_rule_apply_1) #[] #[.pointer (some ⟨b2, 0, none⟩), .pointer (some ⟨b4, 0, none⟩)], FnV.mk (.func F_rule_apply_2) #[] #[.pointer (some ⟨b4, 0, none⟩)], FnV.mk (.func F_rule_apply_3) #[] #[.pointer (some ⟨b2, 0, none⟩), .pointer (some ⟨b4, 0, none⟩)], FnV.mk (.func F_rule_apply_4) #[] #[.pointer (some ⟨b4, 0, none⟩), .pointer (some ⟨b2, 0, none⟩)], FnV.mk (.func F_rule_apply_5) #[] #[.pointer (some ⟨b4, 0, none⟩), .pointer (some ⟨b2, 0, none⟩)], FnV.mk (.func F_rule_apply_6) #[] #[.pointer (some ⟨b2, 0, none⟩), .pointer (some ⟨b4, 0, none⟩)]]), oB b6 T_Fnd (Fnd.C Fnd.z), oB b4 T_Sq (Sq.C a1), oB b2 T_dictum_formula_has [.pointer a_0]] [oT a_0 a0, oTz] := S.store 0 B hw27
  clear B
  refine wd (does_as_b rfl) ?_
  refine wl_nil ?_
  refine wc_seq (wc_region ?_)
  refine wd (does_mv_b rfl) ?_
  refine wl_nil ?_
  refine wc_if rfl (fun hc28 => ?_) (fun hc28 => ?_)
  · replace H := if_t hc28 H
    refine wc_seq (wc_region ?_)
    refine wd (does_load_agg ag_Fnd rfl ((S.blk 0).all _ (Fnd.len _)) (Fnd.len _)) ?_
    refine wl_store_agg ag_Fnd rfl rfl (S.blk 3) (Fnd.len _) (by rw [Fnd.len]; decide) (Fnd.one _) (store_all (Fnd.len _)) fun w29 B hw29 zw29 => ?_
    replace S : St A N w w29 [oB b6 T_Fnd (Fnd.C r22.1), oB b26 T_Fnd (Fnd.C r22.1), oB b16 T_Fnd (Fnd.C r12.1), oS T_func_rule_found_bool 1 FC s9 ([FnV.mk (.func F_rule_apply_1) #[] #[.pointer (some ⟨b2, 0, none⟩), .pointer (some ⟨b4, 0, none⟩)], FnV.mk (.func F_rule_apply_2) #[] #[.pointer (some ⟨b4, 0, none⟩)], FnV.mk (.func F_rule_apply_3) #[] #[.pointer (some ⟨b2, 0, none⟩), .pointer (some ⟨b4, 0, none⟩)], FnV.mk (.func F_rule_apply_4) #[] #[.pointer (some ⟨b4, 0, none⟩), .pointer (some ⟨b2, 0, none⟩)], FnV.mk (.func F_rule_apply_5) #[] #[.pointer (some ⟨b4, 0, none⟩), .pointer (some ⟨b2, 0, none⟩)], FnV.mk (.func F_rule_apply_6) #[] #[.pointer (some ⟨b2, 0, none⟩), .pointer (some ⟨b4, 0, none⟩)]]), oB b4 T_Sq (Sq.C a1), oB b2 T_dictum_formula_has [.pointer a_0]] [oT a_0 a0, oTz] := S.store 3 B hw29
    clear B
    refine wl_nil ?_
    refine wc_ret ?_
    refine ⟨_, (rets1 (retOne_agg ag_Fnd rfl ((S.blk 0).all _ (Fnd.len _)) (Fnd.len _))), ?_⟩
    replace S : St A N w w29 [] [] := S.arr [] []
    obtain rfl := Option.some.inj H
    exact ⟨rfl, S⟩
  replace H := if_f hc28 H
  refine wc_skip ?_
  refine wc_region ?_
  refine wd (does_addc rfl rfl (c := 2) rfl (by decide) (by decide)) ?_
  refine wd (does_mv_i rfl) ?_
  refine wl_nil ?_
  refine ⟨rfl, ?_⟩
  refine rounds_s ?_
  refine wc_seq (wc_region ?_)
  refine wd (does_lt rfl rfl) ?_
  refine wl_nil ?_
  refine wc_seq ?_
  refine wc_true rfl ?_
  refine wc_skip ?_
  refine wc_seq ?_
  refine wc_block ?_
  refine wc_seq (wc_region ?_)
  refine wd (does_indexR sl_L_func_rule_found_bool rfl rfl (S.rdO 2) (by decide) (by simp)) ?_
  refine wd (does_load on_func_rule_found_bool rfl ((S.rdO 2).one (at_some FnV.nil (And.intro (by decide) (by simp))) rfl)) ?_
  refine wd (does_as_f rfl) ?_
  refine wl_nil ?_
  refine wc_seq (wc_region ?_)
  refine wd (does_mv_f rfl) ?_
  obtain ⟨r32, er32, H⟩ := bind_ex H
  obtain ⟨B34, MB34, SB34, back⟩ := S.calln 0 ((.o 5 rfl (.z 0 rfl (.o 4 rfl (.z 1 rfl .nil)))))
  refine wl_call (does_callv ca_rule_apply_3 rfl) (by decide) (rule_apply_3_st SB34 er32) ?_
  rintro _ w33 ⟨rfl, S2⟩
  replace S : St A N w w33 [oB b26 T_Fnd (Fnd.C r22.1), oB b16 T_Fnd (Fnd.C r12.1), oS T_func_rule_found_bool 1 FC s9 ([FnV.mk (.func F_rule_apply_1) #[] #[.pointer (some ⟨b2, 0, none⟩), .pointer (some ⟨b4, 0, none⟩)], FnV.mk (.func F_rule_apply_2) #[] #[.pointer (some ⟨b4, 0, none⟩)], FnV.mk (.func F_rule_apply_3) #[] #[.pointer (some ⟨b2, 0, none⟩), .pointer (some ⟨b4, 0, none⟩)], FnV.mk (.func F_rule_apply_4) #[] #[.pointer (some ⟨b4, 0, none⟩), .pointer (some ⟨b2, 0, none⟩)], FnV.mk (.func F_rule_apply_5) #[] #[.pointer (some ⟨b4, 0, none⟩), .pointer (some ⟨b2, 0, none⟩)], FnV.mk (.func F_rule_apply_6) #[] #[.pointer (some ⟨b2, 0, none⟩), .pointer (some ⟨b4, 0, none⟩)]]), oB b6 T_Fnd (Fnd.C Fnd.z), oB b4 T_Sq (Sq.C a1), oB b2 T_dictum_formula_has [.pointer a_0]] [oT a_0 a0, oTz] := back _ _ _ _ S2 rfl
  clear back S2 SB34
  refine wd (does_mv_t rfl) ?_
  refine wd (does_extract rfl rfl) ?_
  refine wd (does_extract rfl rfl) ?_
  refine wl_alloc ze_Fnd (by decide) fun b36 w35 hw35 => ?_
  replace S : St A N w w35 [oB b36 T_Fnd (Fnd.C Fnd.z), oB b26 T_Fnd (Fnd.C r22.1), oB b16 T_Fnd (Fnd.C r12.1), oS T_func_rule_found_bool 1 FC s9 ([FnV.mk (.func F_rule_apply_1) #[] #[.pointer (some ⟨b2, 0, none⟩), .pointer (some ⟨b4, 0, none⟩)], FnV.mk (.func F_rule_apply_2) #[] #[.pointer (some ⟨b4, 0, none⟩)], FnV.mk (.func F_rule_apply_3) #[] #[.pointer (some ⟨b2, 0, none⟩), .pointer (some ⟨b4, 0, none⟩)], FnV.mk (.func F_rule_apply_4) #[] #[.pointer (some ⟨b4, 0, none⟩), .pointer (some ⟨b2, 0, none⟩)], FnV.mk (.func F_rule_apply_5) #[] #[.pointer (some ⟨b4, 0, none⟩), .pointer (some ⟨b2, 0, none⟩)], FnV.mk (.func F_rule_apply_6) #[] #[.pointer (some ⟨b2, 0, none⟩), .pointer (some ⟨b4, 0, none⟩)]]), oB b6 T_Fnd (Fnd.C Fnd.z), oB b4 T_Sq (Sq.C a1), oB b2 T_dictum_formula_has [.pointer a_0]] [oT a_0 a0, oTz] := S.new hw35
  refine wl_store_agg ag_Fnd rfl rfl (S.blk 0) (Fnd.len _) (by rw [Fnd.len]; decide) (Fnd.one _) (store_all (Fnd.len _)) fun w37 B hw37 zw37 => ?_
  replace S : St A N w w37 [oB b36 T_Fnd (Fnd.C r32.1), oB b26 T_Fnd (Fnd.C r22.1), oB b16 T_Fnd (Fnd.C r12.1), oS T_func_rule_found_bool 1 FC s9 ([FnV.mk (.func F_rule_apply_1) #[] #[.pointer (some ⟨b2, 0, none⟩), .pointer (some ⟨b4, 0, none⟩)], FnV.mk (.func F_rule_apply_2) #[] #[.pointer (some ⟨b4, 0, none⟩)], FnV.mk (.func F_rule_apply_3) #[] #[.pointer (some ⟨b2, 0, none⟩), .pointer (some ⟨b4, 0, none⟩)], FnV.mk (.func F_rule_apply_4) #[] #[.pointer (some ⟨b4, 0, none⟩), .pointer (some ⟨b2, 0, none⟩)], FnV.mk (.func F_rule_apply_5) #[] #[.pointer (some ⟨b4, 0, none⟩), .pointer (some ⟨b2, 0, none⟩)], FnV.mk (.func F_rule_apply_6) #[] #[.pointer (some ⟨b2, 0, none⟩), .pointer (some ⟨b4, 0, none⟩)]]), oB b6 T_Fnd (Fnd.C Fnd.z), oB b4 T_Sq (Sq.C a1), oB b2 T_dictum_formula_has [.pointer a_0]] [oT a_0 a0, oTz] := S.store 0 B hw37
  clear B
  refine wd (does_as_b rfl) ?_
  refine wl_nil ?_
  refine wc_seq (wc_region ?_)
  refine wd (does_mv_b rfl) ?_
  refine wl_nil ?_
  refine wc_if rfl (fun hc38 => ?_) (fun hc38 => ?_)
  · replace H := if_t hc38 H
    refine wc_seq (wc_region ?_)
    refine wd (does_load_agg ag_Fnd rfl ((S.blk 0).all _ (Fnd.len _)) (Fnd.len _)) ?_
    refine wl_store_agg ag_Fnd rfl rfl (S.blk 4) (Fnd.len _) (by rw [Fnd.len]; decide) (Fnd.one _) (store_all (Fnd.len _)) fun w39 B hw39 zw39 => ?_
    replace S : St A N w w39 [oB b6 T_Fnd (Fnd.C r32.1), oB b36 T_Fnd (Fnd.C r32.1), oB b26 T_Fnd (Fnd.C r22.1), oB b16 T_Fnd (Fnd.C r12.1), oS T_func_rule_found_bool 1 FC s9 ([FnV.mk (.func F_rule_apply_1) #[] #[.pointer (some ⟨b2, 0, none⟩), .pointer (some ⟨b4, 0, none⟩)], FnV.mk (.func F_rule_apply_2) #[] #[.pointer (some ⟨b4, 0, none⟩)], FnV.mk (.func F_rule_apply_3) #[] #[.pointer (some ⟨b2, 0, none⟩), .pointer (some ⟨b4, 0, none⟩)], FnV.mk (.func F_rule_apply_4) #[] #[.pointer (some ⟨b4, 0, none⟩), .pointer (some ⟨b2, 0, none⟩)], FnV.mk (.func F_rule_apply_5) #[] #[.pointer (some ⟨b4, 0, none⟩), .pointer (some ⟨b2, 0, none⟩)], FnV.mk (.func F_rule_apply_6) #[] #[.pointer (some ⟨b2, 0, none⟩), .pointer (some ⟨b4, 0, none⟩)]]), oB b4 T_Sq (Sq.C a1), oB b2 T_dictum_formula_has [.pointer a_0]] [oT a_0 a0, oTz] := S.store 4 B hw39
    clear B
    refine wl_nil ?_
    refine wc_ret ?_
    refine ⟨_, (rets1 (retOne_agg ag_Fnd rfl ((S.blk 0).all _ (Fnd.len _)) (Fnd.len _))), ?_⟩
    replace S : St A N w w39 [] [] := S.arr [] []
    obtain rfl := Option.some.inj H
    exact ⟨rfl, S⟩
  replace H := if_f hc38 H
  refine wc_skip ?_
  refine wc_region ?_
  refine wd (does_addc rfl rfl (c := 3) rfl (by decide) (by decide)) ?_
  refine wd (does_mv_i rfl) ?_
  refine wl_nil ?_
  refine ⟨rfl, ?_⟩
  refine rounds_s ?_
  refine wc_seq (wc_region ?_)
  refine wd (does_lt rfl rfl) ?_
  refine wl_nil ?_
  refine wc_seq ?_
  refine wc_true rfl ?_
  refine wc_skip ?_
  refine wc_seq ?_
  refine wc_block ?_
  refine wc_seq (wc_region ?_)
  refine wd (does_indexR sl_L_func_rule_found_bool rfl rfl (S.rdO 3) (by decide) (by simp)) ?_
  refine wd (does_load on_func_rule_found_bool rfl ((S.rdO 3).one (at_some FnV.nil (And.intro (by decide) (by simp))) rfl)) ?_
  refine wd (does_as_f rfl) ?_
  refine wl_nil ?_
  refine wc_seq (wc_region ?_)
  refine wd (does_mv_f rfl) ?_
  obtain ⟨r42, er42, H⟩ := bind_ex H
  obtain ⟨B44, MB44, SB44, back⟩ := S.calln 0 ((.o 5 rfl (.o 6 rfl (.z 0 rfl .nil))))
  refine wl_call (does_callv ca_rule_apply_4 rfl) (by decide) (rule_apply_4_st SB44 er42) ?_
  rintro _ w43 ⟨rfl, S2⟩
  replace S : St A N w w43 [oB b36 T_Fnd (Fnd.C r32.1), oB b26 T_Fnd (Fnd.C r22.1), oB b16 T_Fnd (Fnd.C r12.1), oS T_func_rule_found_bool 1 FC s9 ([FnV.mk (.func F_rule_apply_1) #[] #[.pointer (some ⟨b2, 0, none⟩), .pointer (some ⟨b4, 0, none⟩)], FnV.mk (.func F_rule_apply_2) #[] #[.pointer (some ⟨b4, 0, none⟩)], FnV.mk (.func F_rule_apply_3) #[] #[.pointer (some ⟨b2, 0, none⟩), .pointer (some ⟨b4, 0, none⟩)], FnV.mk (.func F_rule_apply_4) #[] #[.pointer (some ⟨b4, 0, none⟩), .pointer (some ⟨b2, 0, none⟩)], FnV.mk (.func F_rule_apply_5) #[] #[.pointer (some ⟨b4, 0, none⟩), .pointer (some ⟨b2, 0, none⟩)], FnV.mk (.func F_rule_apply_6) #[] #[.pointer (some ⟨b2, 0, none⟩), .pointer (some ⟨b4, 0, none⟩)]]), oB b6 T_Fnd (Fnd.C Fnd.z), oB b4 T_Sq (Sq.C a1), oB b2 T_dictum_formula_has [.pointer a_0]] [oT a_0 a0, oTz] := back _ _ _ _ S2 rfl
  clear back S2 SB44
  refine wd (does_mv_t rfl) ?_
  refine wd (does_extract rfl rfl) ?_
  refine wd (does_extract rfl rfl) ?_
  refine wl_alloc ze_Fnd (by decide) fun b46 w45 hw45 => ?_
  replace S : St A N w w45 [oB b46 T_Fnd (Fnd.C Fnd.z), oB b36 T_Fnd (Fnd.C r32.1), oB b26 T_Fnd (Fnd.C r22.1), oB b16 T_Fnd (Fnd.C r12.1), oS T_func_rule_found_bool 1 FC s9 ([FnV.mk (.func F_rule_apply_1) #[] #[.pointer (some ⟨b2, 0, none⟩), .pointer (some ⟨b4, 0, none⟩)], FnV.mk (.func F_rule_apply_2) #[] #[.pointer (some ⟨b4, 0, none⟩)], FnV.mk (.func F_rule_apply_3) #[] #[.pointer (some ⟨b2, 0, none⟩), .pointer (some ⟨b4, 0, none⟩)], FnV.mk (.func F_rule_apply_4) #[] #[.pointer (some ⟨b4, 0, none⟩), .pointer (some ⟨b2, 0, none⟩)], FnV.mk (.func F_rule_apply_5) #[] #[.pointer (some ⟨b4, 0, none⟩), .pointer (some ⟨b2, 0, none⟩)], FnV.mk (.func F_rule_apply_6) #[] #[.pointer (some ⟨b2, 0, none⟩), .pointer (some ⟨b4, 0, none⟩)]]), oB b6 T_Fnd (Fnd.C Fnd.z), oB b4 T_Sq (Sq.C a1), oB b2 T_dictum_formula_has [.pointer a_0]] [oT a_0 a0, oTz] := S.new hw45
  refine wl_store_agg ag_Fnd rfl rfl (S.blk 0) (Fnd.len _) (by rw [Fnd.len]; decide) (Fnd.one _) (store_all (Fnd.len _)) fun w47 B hw47 zw47 => ?_
  replace S : St A N w w47 [oB b46 T_Fnd (Fnd.C r42.1), oB b36 T_Fnd (Fnd.C r32.1), oB b26 T_Fnd (Fnd.C r22.1), oB b16 T_Fnd (Fnd.C r12.1), oS T_func_rule_found_bool 1 FC s9 ([FnV.mk (.func F_rule_apply_1) #[] #[.pointer (some ⟨b2, 0, none⟩), .pointer (some ⟨b4, 0, none⟩)], FnV.mk (.func F_rule_apply_2) #[] #[.pointer (some ⟨b4, 0, none⟩)], FnV.mk (.func F_rule_apply_3) #[] #[.pointer (some ⟨b2, 0, none⟩), .pointer (some ⟨b4, 0, none⟩)], FnV.mk (.func F_rule_apply_4) #[] #[.pointer (some ⟨b4, 0, none⟩), .pointer (some ⟨b2, 0, none⟩)], FnV.mk (.func F_rule_apply_5) #[] #[.pointer (some ⟨b4, 0, none⟩), .pointer (some ⟨b2, 0, none⟩)], FnV.mk (.func F_rule_apply_6) #[] #[.pointer (some ⟨b2, 0, none⟩), .pointer (some ⟨b4, 0, none⟩)]]), oB b6 T_Fnd (Fnd.C Fnd.z), oB b4 T_Sq (Sq.C a1), oB b2 T_dictum_formula_has [.pointer a_0]] [oT a_0 a0, oTz] := S.store 0 B hw47
  clear B
  refine wd (does_as_b rfl) ?_
  refine wl_nil ?_
  refine wc_seq (wc_region ?_)
  refine wd (does_mv_b rfl) ?_
  refine wl_nil ?_
  refine wc_if rfl (fun hc48 => ?_) (fun hc48 => ?_)
  · replace H := if_t hc48 H
    refine wc_seq (wc_region ?_)
    refine wd (does_load_agg ag_Fnd rfl ((S.blk 0).all _ (Fnd.len _)) (Fnd.len _)) ?_
    refine wl_store_agg ag_Fnd rfl rfl (S.blk 5) (Fnd.len _) (by rw [Fnd.len]; decide) (Fnd.one _) (store_all (Fnd.len _)) fun w49 B hw49 zw49 => ?_
    replace S : St A N w w49 [oB b6 T_Fnd (Fnd.C r42.1), oB b46 T_Fnd (Fnd.C r42.1), oB b36 T_Fnd (Fnd.C r32.1), oB b26 T_Fnd (Fnd.C r22.1), oB b16 T_Fnd (Fnd.C r12.1), oS T_func_rule_found_bool 1 FC s9 ([FnV.mk (.func F_rule_apply_1) #[] #[.pointer (some ⟨b2, 0, none⟩), .pointer (some ⟨b4, 0, none⟩)], FnV.mk (.func F_rule_apply_2) #[] #[.pointer (some ⟨b4, 0, none⟩)], FnV.mk (.func F_rule_apply_3) #[] #[.pointer (some ⟨b2, 0, none⟩), .pointer (some ⟨b4, 0, none⟩)], FnV.mk (.func F_rule_apply_4) #[] #[.pointer (some ⟨b4, 0, none⟩), .pointer (some ⟨b2, 0, none⟩)], FnV.mk (.func F_rule_apply_5) #[] #[.pointer (some ⟨b4, 0, none⟩), .pointer (some ⟨b2, 0, none⟩)], FnV.mk (.func F_rule_apply_6) #[] #[.pointer (some ⟨b2, 0, none⟩), .pointer (some ⟨b4, 0, none⟩)]]), oB b4 T_Sq (Sq.C a1), oB b2 T_dictum_formula_has [.pointer a_0]] [oT a_0 a0, oTz] := S.store 5 B hw49
    clear B
    refine wl_nil ?_
    refine wc_ret ?_
    refine ⟨_, (rets1 (retOne_agg ag_Fnd rfl ((S.blk 0).all _ (Fnd.len _)) (Fnd.len _))), ?_⟩
    replace S : St A N w w49 [] [] := S.arr [] []
    obtain rfl := Option.some.inj H
    exact ⟨rfl, S⟩
  replace H := if_f hc48 H
  refine wc_skip ?_
  refine wc_region ?_
  refine wd (does_addc rfl rfl (c := 4) rfl (by decide) (by decide)) ?_
  refine wd (does_mv_i rfl) ?_
  refine wl_nil ?_
  refine ⟨rfl, ?_⟩
  refine rounds_s ?_
  refine wc_seq (wc_region ?_)
  refine wd (does_lt rfl rfl) ?_
  refine wl_nil ?_
  refine wc_seq ?_
  refine wc_true rfl ?_
  refine wc_skip ?_
  refine wc_seq ?_
  refine wc_block ?_
  refine wc_seq (wc_region ?_)
  refine wd (does_indexR sl_L_func_rule_found_bool rfl rfl (S.rdO 4) (by decide) (by simp)) ?_
  refine wd (does_load on_func_rule_found_bool rfl ((S.rdO 4).one (at_some FnV.nil (And.intro (by decide) (by simp))) rfl)) ?_
  refine wd (does_as_f rfl) ?_
  refine wl_nil ?_
  refine wc_seq (wc_region ?_)
  refine wd (does_mv_f rfl) ?_
  obtain ⟨r52, er52, H⟩ := bind_ex H
  obtain ⟨B54, MB54, SB54, back⟩ := S.calln 0 ((.o 6 rfl (.o 7 rfl (.z 0 rfl .nil))))
  refine wl_call (does_callv ca_rule_apply_5 rfl) (by decide) (rule_apply_5_st SB54 er52) ?_
  rintro _ w53 ⟨rfl, S2⟩
  replace S : St A N w w53 [oB b46 T_Fnd (Fnd.C r42.1), oB b36 T_Fnd (Fnd.C r32.1), oB b26 T_Fnd (Fnd.C r22.1), oB b16 T_Fnd (Fnd.C r12.1), oS T_func_rule_found_bool 1 FC s9 ([FnV.mk (.func F_rule_apply_1) #[] #[.pointer (some ⟨b2, 0, none⟩), .pointer (some ⟨b4, 0, none⟩)], FnV.mk (.func F_rule_apply_2) #[] #[.pointer (some ⟨b4, 0, none⟩)], FnV.mk (.func F_rule_apply_3) #[] #[.pointer (some ⟨b2, 0, none⟩), .pointer (some ⟨b4, 0, none⟩)], FnV.mk (.func F_rule_apply_4) #[] #[.pointer (some ⟨b4, 0, none⟩), .pointer (some ⟨b2, 0, none⟩)], FnV.mk (.func F_rule_apply_5) #[] #[.pointer (some ⟨b4, 0, none⟩), .pointer (some ⟨b2, 0, none⟩)], FnV.mk (.func F_rule_apply_6) #[] #[.pointer (some ⟨b2, 0, none⟩), .pointer (some ⟨b4, 0, none⟩)]]), oB b6 T_Fnd (Fnd.C Fnd.z), oB b4 T_Sq (Sq.C a1), oB b2 T_dictum_formula_has [.pointer a_0]] [oT a_0 a0, oTz] := back _ _ _ _ S2 rfl
  clear back S2 SB54
  refine wd (does_mv_t rfl) ?_
  refine wd (does_extract rfl rfl) ?_
  refine wd (does_extract rfl rfl) ?_
  refine wl_alloc ze_Fnd (by decide) fun b56 w55 hw55 => ?_
  replace S : St A N w w55 [oB b56 T_Fnd (Fnd.C Fnd.z), oB b46 T_Fnd (Fnd.C r42.1), oB b36 T_Fnd (Fnd.C r32.1), oB b26 T_Fnd (Fnd.C r22.1), oB b16 T_Fnd (Fnd.C r12.1), oS T_func_rule_found_bool 1 FC s9 ([FnV.mk (.func F_rule_apply_1) #[] #[.pointer (some ⟨b2, 0, none⟩), .pointer (some ⟨b4, 0, none⟩)], FnV.mk (.func F_rule_apply_2) #[] #[.pointer (some ⟨b4, 0, none⟩)], FnV.mk (.func F_rule_apply_3) #[] #[.pointer (some ⟨b2, 0, none⟩), .pointer (some ⟨b4, 0, none⟩)], FnV.mk (.func F_rule_apply_4) #[] #[.pointer (some ⟨b4, 0, none⟩), .pointer (some ⟨b2, 0, none⟩)], FnV.mk (.func F_rule_apply_5) #[] #[.pointer (some ⟨b4, 0, none⟩), .pointer (some ⟨b2, 0, none⟩)], FnV.mk (.func F_rule_apply_6) #[] #[.pointer (some ⟨b2, 0, none⟩), .pointer (some ⟨b4, 0, none⟩)]]), oB b6 T_Fnd (Fnd.C Fnd.z), oB b4 T_Sq (Sq.C a1), oB b2 T_dictum_formula_has [.pointer a_0]] [oT a_0 a0, oTz] := S.new hw55
  refine wl_store_agg ag_Fnd rfl rfl (S.blk 0) (Fnd.len _) (by rw [Fnd.len]; decide) (Fnd.one _) (store_all (Fnd.len _)) fun w57 B hw57 zw57 => ?_
  replace S : St A N w w57 [oB b56 T_Fnd (Fnd.C r52.1), oB b46 T_Fnd (Fnd.C r42.1), oB b36 T_Fnd (Fnd.C r32.1), oB b26 T_Fnd (Fnd.C r22.1), oB b16 T_Fnd (Fnd.C r12.1), oS T_func_rule_found_bool 1 FC s9 ([FnV.mk (.func F_rule_apply_1) #[] #[.pointer (some ⟨b2, 0, none⟩), .pointer (some ⟨b4, 0, none⟩)], FnV.mk (.func F_rule_apply_2) #[] #[.pointer (some ⟨b4, 0, none⟩)], FnV.mk (.func F_rule_apply_3) #[] #[.pointer (some ⟨b2, 0, none⟩), .pointer (some ⟨b4, 0, none⟩)], FnV.mk (.func F_rule_apply_4) #[] #[.pointer (some ⟨b4, 0, none⟩), .pointer (some ⟨b2, 0, none⟩)], FnV.mk (.func F_rule_apply_5) #[] #[.pointer (some ⟨b4, 0, none⟩), .pointer (some ⟨b2, 0, none⟩)], FnV.mk (.func F_rule_apply_6) #[] #[.pointer (some ⟨b2, 0, none⟩), .pointer (some ⟨b4, 0, none⟩)]]), oB b6 T_Fnd (Fnd.C Fnd.z), oB b4 T_Sq (Sq.C a1), oB b2 T_dictum_formula_has [.pointer a_0]] [oT a_0 a0, oTz] := S.store 0 B hw57
  clear B
  refine wd (does_as_b rfl) ?_
  refine wl_nil ?_
  refine wc_seq (wc_region ?_)
  refine wd (does_mv_b rfl) ?_
  refine wl_nil ?_
  refine wc_if rfl (fun hc58 => ?_) (fun hc58 => ?_)
  · replace H := if_t hc58 H
    refine wc_seq (wc_region ?_)
    refine wd (does_load_agg ag_Fnd rfl ((S.blk 0).all _ (Fnd.len _)) (Fnd.len _)) ?_
    refine wl_store_agg ag_Fnd rfl rfl (S.blk 6) (Fnd.len _) (by rw [Fnd.len]; decide) (Fnd.one _) (store_all (Fnd.len _)) fun w59 B hw59 zw59 => ?_
    replace S : St A N w w59 [oB b6 T_Fnd (Fnd.C r52.1), oB b56 T_Fnd (Fnd.C r52.1), oB b46 T_Fnd (Fnd.C r42.1), oB b36 T_Fnd (Fnd.C r32.1), oB b26 T_Fnd (Fnd.C r22.1), oB b16 T_Fnd (Fnd.C r12.1), oS T_func_rule_found_bool 1 FC s9 ([FnV.mk (.func F_rule_apply_1) #[] #[.pointer (some ⟨b2, 0, none⟩), .pointer (some ⟨b4, 0, none⟩)], FnV.mk (.func F_rule_apply_2) #[] #[.pointer (some ⟨b4, 0, none⟩)], FnV.mk (.func F_rule_apply_3) #[] #[.pointer (some ⟨b2, 0, none⟩), .pointer (some ⟨b4, 0, none⟩)], FnV.mk (.func F_rule_apply_4) #[] #[.pointer (some ⟨b4, 0, none⟩), .pointer (some ⟨b2, 0, none⟩)], FnV.mk (.func F_rule_apply_5) #[] #[.pointer (some ⟨b4, 0, none⟩), .pointer (some ⟨b2, 0, none⟩)], FnV.mk (.func F_rule_apply_6) #[] #[.pointer (some ⟨b2, 0, none⟩), .pointer (some ⟨b4, 0, none⟩)]]), oB b4 T_Sq (Sq.C a1), oB b2 T_dictum_formula_has [.pointer a_0]] [oT a_0 a0, oTz] := S.store 6 B hw59
    clear B
    refine wl_nil ?_
    refine wc_ret ?_
    refine ⟨_, (rets1 (retOne_agg ag_Fnd rfl ((S.blk 0).all _ (Fnd.len _)) (Fnd.len _))), ?_⟩
    replace S : St A N w w59 [] [] := S.arr [] []
    obtain rfl := Option.some.inj H
    exact ⟨rfl, S⟩
  replace H := if_f hc58 H
  refine wc_skip ?_
  refine wc_region ?_
  refine wd (does_addc rfl rfl (c := 5) rfl (by decide) (by decide)) ?_
  refine wd (does_mv_i rfl) ?_
  refine wl_nil ?_
  refine ⟨rfl, ?_⟩
  refine rounds_s ?_
  refine wc_seq (wc_region ?_)
  refine wd (does_lt rfl rfl) ?_
  refine wl_nil ?_
  refine wc_seq ?_
  refine wc_true rfl ?_
  refine wc_skip ?_
  refine wc_seq ?_
  refine wc_block ?_
  refine wc_seq (wc_region ?_)
  refine wd (does_indexR sl_L_func_rule_found_bool rfl rfl (S.rdO 5) (by decide) (by simp)) ?_
  refine wd (does_load on_func_rule_found_bool rfl ((S.rdO 5).one (at_some FnV.nil (And.intro (by decide) (by simp))) rfl)) ?_
  refine wd (does_as_f rfl) ?_
  refine wl_nil ?_
  refine wc_seq (wc_region ?_)
  refine wd (does_mv_f rfl) ?_
  obtain ⟨r62, er62, H⟩ := bind_ex H
  obtain ⟨B64, MB64, SB64, back⟩ := S.calln 0 ((.o 8 rfl (.z 0 rfl (.o 7 rfl (.z 1 rfl .nil)))))
  refine wl_call (does_callv ca_rule_apply_6 rfl) (by decide) (rule_apply_6_st SB64 er62) ?_
  rintro _ w63 ⟨rfl, S2⟩
  replace S : St A N w w63 [oB b56 T_Fnd (Fnd.C r52.1), oB b46 T_Fnd (Fnd.C r42.1), oB b36 T_Fnd (Fnd.C r32.1), oB b26 T_Fnd (Fnd.C r22.1), oB b16 T_Fnd (Fnd.C r12.1), oS T_func_rule_found_bool 1 FC s9 ([FnV.mk (.func F_rule_apply_1) #[] #[.pointer (some ⟨b2, 0, none⟩), .pointer (some ⟨b4, 0, none⟩)], FnV.mk (.func F_rule_apply_2) #[] #[.pointer (some ⟨b4, 0, none⟩)], FnV.mk (.func F_rule_apply_3) #[] #[.pointer (some ⟨b2, 0, none⟩), .pointer (some ⟨b4, 0, none⟩)], FnV.mk (.func F_rule_apply_4) #[] #[.pointer (some ⟨b4, 0, none⟩), .pointer (some ⟨b2, 0, none⟩)], FnV.mk (.func F_rule_apply_5) #[] #[.pointer (some ⟨b4, 0, none⟩), .pointer (some ⟨b2, 0, none⟩)], FnV.mk (.func F_rule_apply_6) #[] #[.pointer (some ⟨b2, 0, none⟩), .pointer (some ⟨b4, 0, none⟩)]]), oB b6 T_Fnd (Fnd.C Fnd.z), oB b4 T_Sq (Sq.C a1), oB b2 T_dictum_formula_has [.pointer a_0]] [oT a_0 a0, oTz] := back _ _ _ _ S2 rfl
  clear back S2 SB64
  refine wd (does_mv_t rfl) ?_
  refine wd (does_extract rfl rfl) ?_
  refine wd (does_extract rfl rfl) ?_
  refine wl_alloc ze_Fnd (by decide) fun b66 w65 hw65 => ?_
  replace S : St A N w w65 [oB b66 T_Fnd (Fnd.C Fnd.z), oB b56 T_Fnd (Fnd.C r52.1), oB b46 T_Fnd (Fnd.C r42.1), oB b36 T_Fnd (Fnd.C r32.1), oB b26 T_Fnd (Fnd.C r22.1), oB b16 T_Fnd (Fnd.C r12.1), oS T_func_rule_found_bool 1 FC s9 ([FnV.mk (.func F_rule_apply_1) #[] #[.pointer (some ⟨b2, 0, none⟩), .pointer (some ⟨b4, 0, none⟩)], FnV.mk (.func F_rule_apply_2) #[] #[.pointer (some ⟨b4, 0, none⟩)], FnV.mk (.func F_rule_apply_3) #[] #[.pointer (some ⟨b2, 0, none⟩), .pointer (some ⟨b4, 0, none⟩)], FnV.mk (.func F_rule_apply_4) #[] #[.pointer (some ⟨b4, 0, none⟩), .pointer (some ⟨b2, 0, none⟩)], FnV.mk (.func F_rule_apply_5) #[] #[.pointer (some ⟨b4, 0, none⟩), .pointer (some ⟨b2, 0, none⟩)], FnV.mk (.func F_rule_apply_6) #[] #[.pointer (some ⟨b2, 0, none⟩), .pointer (some ⟨b4, 0, none⟩)]]), oB b6 T_Fnd (Fnd.C Fnd.z), oB b4 T_Sq (Sq.C a1), oB b2 T_dictum_formula_has [.pointer a_0]] [oT a_0 a0, oTz] := S.new hw65
  refine wl_store_agg ag_Fnd rfl rfl (S.blk 0) (Fnd.len _) (by rw [Fnd.len]; decide) (Fnd.one _) (store_all (Fnd.len _)) fun w67 B hw67 zw67 => ?_
  replace S : St A N w w67 [oB b66 T_Fnd (Fnd.C r62.1), oB b56 T_Fnd (Fnd.C r52.1), oB b46 T_Fnd (Fnd.C r42.1), oB b36 T_Fnd (Fnd.C r32.1), oB b26 T_Fnd (Fnd.C r22.1), oB b16 T_Fnd (Fnd.C r12.1), oS T_func_rule_found_bool 1 FC s9 ([FnV.mk (.func F_rule_apply_1) #[] #[.pointer (some ⟨b2, 0, none⟩), .pointer (some ⟨b4, 0, none⟩)], FnV.mk (.func F_rule_apply_2) #[] #[.pointer (some ⟨b4, 0, none⟩)], FnV.mk (.func F_rule_apply_3) #[] #[.pointer (some ⟨b2, 0, none⟩), .pointer (some ⟨b4, 0, none⟩)], FnV.mk (.func F_rule_apply_4) #[] #[.pointer (some ⟨b4, 0, none⟩), .pointer (some ⟨b2, 0, none⟩)], FnV.mk (.func F_rule_apply_5) #[] #[.pointer (some ⟨b4, 0, none⟩), .pointer (some ⟨b2, 0, none⟩)], FnV.mk (.func F_rule_apply_6) #[] #[.pointer (some ⟨b2, 0, none⟩), .pointer (some ⟨b4, 0, none⟩)]]), oB b6 T_Fnd (Fnd.C Fnd.z), oB b4 T_Sq (Sq.C a1), oB b2 T_dictum_formula_has [.pointer a_0]] [oT a_0 a0, oTz] := S.store 0 B hw67
  clear B
  refine wd (does_as_b rfl) ?_
  refine wl_nil ?_
  refine wc_seq (wc_region ?_)
  refine wd (does_mv_b rfl) ?_
  refine wl_nil ?_
  refine wc_if rfl (fun hc68 => ?_) (fun hc68 => ?_)
  · replace H := if_t hc68 H
    refine wc_seq (wc_region ?_)
    refine wd (does_load_agg ag_Fnd rfl ((S.blk 0).all _ (Fnd.len _)) (Fnd.len _)) ?_
    refine wl_store_agg ag_Fnd rfl rfl (S.blk 7) (Fnd.len _) (by rw [Fnd.len]; decide) (Fnd.one _) (store_all (Fnd.len _)) fun w69 B hw69 zw69 => ?_
    replace S : St A N w w69 [oB b6 T_Fnd (Fnd.C r62.1), oB b66 T_Fnd (Fnd.C r62.1), oB b56 T_Fnd (Fnd.C r52.1), oB b46 T_Fnd (Fnd.C r42.1), oB b36 T_Fnd (Fnd.C r32.1), oB b26 T_Fnd (Fnd.C r22.1), oB b16 T_Fnd (Fnd.C r12.1), oS T_func_rule_found_bool 1 FC s9 ([FnV.mk (.func F_rule_apply_1) #[] #[.pointer (some ⟨b2, 0, none⟩), .pointer (some ⟨b4, 0, none⟩)], FnV.mk (.func F_rule_apply_2) #[] #[.pointer (some ⟨b4, 0, none⟩)], FnV.mk (.func F_rule_apply_3) #[] #[.pointer (some ⟨b2, 0, none⟩), .pointer (some ⟨b4, 0, none⟩)], FnV.mk (.func F_rule_apply_4) #[] #[.pointer (some ⟨b4, 0, none⟩), .pointer (some ⟨b2, 0, none⟩)], FnV.mk (.func F_rule_apply_5) #[] #[.pointer (some ⟨b4, 0, none⟩), .pointer (some ⟨b2, 0, none⟩)], FnV.mk (.func F_rule_apply_6) #[] #[.pointer (some ⟨b2, 0, none⟩), .pointer (some ⟨b4, 0, none⟩)]]), oB b4 T_Sq (Sq.C a1), oB b2 T_dictum_formula_has [.pointer a_0]] [oT a_0 a0, oTz] := S.store 7 B hw69
    clear B
    refine wl_nil ?_
    refine wc_ret ?_
    refine ⟨_, (rets1 (retOne_agg ag_Fnd rfl ((S.blk 0).all _ (Fnd.len _)) (Fnd.len _))), ?_⟩
    replace S : St A N w w69 [] [] := S.arr [] []
    obtain rfl := Option.some.inj H
    exact ⟨rfl, S⟩
  replace H := if_f hc68 H
  refine wc_skip ?_
  refine wc_region ?_
  refine wd (does_addc rfl rfl (c := 6) rfl (by decide) (by decide)) ?_
  refine wd (does_mv_i rfl) ?_
  refine wl_nil ?_
  refine ⟨rfl, ?_⟩
  refine rounds_s ?_
  refine wc_seq (wc_region ?_)
  refine wd (does_lt rfl rfl) ?_
  refine wl_nil ?_
  refine wc_seq ?_
  refine wc_false rfl ?_
  refine wc_exit ?_
  refine wc_seq (wc_region ?_)
  refine wd (does_build bu_Fnd (Bld.one rfl rfl (by rw [Fnd.len]; decide) (Fnd.set_k _ _) (Bld.one rfl rfl (by rw [Fnd.len]; decide) (Fnd.set_main _ _) Bld.nil))) ?_
  refine wl_store_agg ag_Fnd rfl rfl (S.blk 7) (Fnd.len _) (by rw [Fnd.len]; decide) (Fnd.one _) (store_all (Fnd.len _)) fun w71 B hw71 zw71 => ?_
  replace S : St A N w w71 [oB b6 T_Fnd (Fnd.C (⟨14, 0⟩ : Fnd)), oB b66 T_Fnd (Fnd.C r62.1), oB b56 T_Fnd (Fnd.C r52.1), oB b46 T_Fnd (Fnd.C r42.1), oB b36 T_Fnd (Fnd.C r32.1), oB b26 T_Fnd (Fnd.C r22.1), oB b16 T_Fnd (Fnd.C r12.1), oS T_func_rule_found_bool 1 FC s9 ([FnV.mk (.func F_rule_apply_1) #[] #[.pointer (some ⟨b2, 0, none⟩), .pointer (some ⟨b4, 0, none⟩)], FnV.mk (.func F_rule_apply_2) #[] #[.pointer (some ⟨b4, 0, none⟩)], FnV.mk (.func F_rule_apply_3) #[] #[.pointer (some ⟨b2, 0, none⟩), .pointer (some ⟨b4, 0, none⟩)], FnV.mk (.func F_rule_apply_4) #[] #[.pointer (some ⟨b4, 0, none⟩), .pointer (some ⟨b2, 0, none⟩)], FnV.mk (.func F_rule_apply_5) #[] #[.pointer (some ⟨b4, 0, none⟩), .pointer (some ⟨b2, 0, none⟩)], FnV.mk (.func F_rule_apply_6) #[] #[.pointer (some ⟨b2, 0, none⟩), .pointer (some ⟨b4, 0, none⟩)]]), oB b4 T_Sq (Sq.C a1), oB b2 T_dictum_formula_has [.pointer a_0]] [oT a_0 a0, oTz] := S.store 7 B hw71
  clear B
  refine wl_nil ?_
  refine wc_ret ?_
  refine ⟨_, (rets1 (retOne_agg ag_Fnd rfl ((S.blk 0).all _ (Fnd.len _)) (Fnd.len _))), ?_⟩
  replace S : St A N w w71 [] [] := S.arr [] []
  obtain rfl := Option.some.inj H
  exact ⟨rfl, S⟩
theorem rule_Apply_st {A : Nat → Prop} {N : Oth} {w : World} {a0 : Tb} {a_0 : Option Addr} {a1 : Sq} (S : St A N w w [] [oT a_0 a0, oTz]) {r : Int × Int × Int} (H : rule_Apply.f a0 a1 = some r) :
    Calls PP F_rule_Apply #[.pointer a_0, .agg (Sq.C a1).toArray] w fun e w' => ∃ v, e = .returned v ∧ (v = .tuple #[.int .i64 r.1, .int .i64 r.2.1, .int .i64 r.2.2] ∧ St A N w w' [] []) := by
  unfold rule_Apply.f at H
  refine calls_of_wc (n := 22) fn_rule_Apply rfl rfl (by simp) ?_
  refine wc_seq (wc_region ?_)
  refine wl_box_agg rfl (by decide) fun b2 w1 hw1 => ?_
  replace S : St A N w w1 [oB b2 T_Sq (Sq.C a1)] [oT a_0 a0, oTz] := S.new hw1
  refine wd (does_as_i rfl) ?_
  refine wd (does_as_i rfl) ?_
  refine wd (does_as_i rfl) ?_
  refine wl_nil ?_
  refine wc_seq (wc_seq (wc_region ?_))
  refine wd (does_mv_p rfl) ?_
  refine wd (does_load_agg ag_Sq rfl ((S.blk 0).all _ (Sq.len _)) (Sq.len _)) ?_
  obtain ⟨r3, er3, H⟩ := bind_ex H
  obtain ⟨B5, MB5, SB5, back⟩ := S.calln 0 ((.z 0 rfl (.z 1 rfl .nil)))
  refine wl_call (does_call ca_rule_look) (by decide) (rule_look_st SB5 er3) ?_
  rintro _ w4 ⟨rfl, S2⟩
  replace S : St A N w w4 [oB b2 T_Sq (Sq.C a1)] [oT a_0 a0, oTz] := back _ _ _ _ S2 rfl
  clear back S2 SB5
  refine wd (does_as_i rfl) ?_
  refine wl_nil ?_
  refine wc_seq (wc_region ?_)
  refine wd (does_mv_i rfl) ?_
  refine wd (does_ne rfl rfl) ?_
  refine wl_nil ?_
  refine wc_if rfl (fun hc6 => ?_) (fun hc6 => ?_)
  · replace H := if_t hc6 H
    refine wc_seq (wc_region ?_)
    refine wd (does_mv_i rfl) ?_
    refine wd (does_as_i rfl) ?_
    refine wd (does_as_i rfl) ?_
    refine wd (does_as_i rfl) ?_
    refine wl_nil ?_
    refine wc_ret ?_
    refine ⟨_, (rets3 (retOne_tmp rfl) (retOne_tmp rfl) (retOne_tmp rfl)), ?_⟩
    replace S : St A N w w4 [] [] := S.arr [] []
    obtain rfl := Option.some.inj H
    exact ⟨rfl, S⟩
  replace H := if_f hc6 H
  refine wc_skip ?_
  refine wc_seq (wc_region ?_)
  refine wd (does_mv_p rfl) ?_
  refine wd (does_load_agg ag_Sq rfl ((S.blk 0).all _ (Sq.len _)) (Sq.len _)) ?_
  obtain ⟨r7, er7, H⟩ := bind_ex H
  obtain ⟨B9, MB9, SB9, back⟩ := S.calln 0 ((.z 0 rfl (.z 1 rfl .nil)))
  refine wl_call (does_call ca_rule_apply) (by decide) (rule_apply_st SB9 er7) ?_
  rintro _ w8 ⟨rfl, S2⟩
  replace S : St A N w w8 [oB b2 T_Sq (Sq.C a1)] [oT a_0 a0, oTz] := back _ _ _ _ S2 rfl
  clear back S2 SB9
  refine wl_alloc ze_Fnd (by decide) fun b11 w10 hw10 => ?_
  replace S : St A N w w10 [oB b11 T_Fnd (Fnd.C Fnd.z), oB b2 T_Sq (Sq.C a1)] [oT a_0 a0, oTz] := S.new hw10
  refine wl_store_agg ag_Fnd rfl rfl (S.blk 0) (Fnd.len _) (by rw [Fnd.len]; decide) (Fnd.one _) (store_all (Fnd.len _)) fun w12 B hw12 zw12 => ?_
  replace S : St A N w w12 [oB b11 T_Fnd (Fnd.C r7), oB b2 T_Sq (Sq.C a1)] [oT a_0 a0, oTz] := S.store 0 B hw12
  clear B
  refine wl_nil ?_
  refine wc_seq ?_
  refine wc_quiet 5 (Ext w12) hmix (by kernel_rfl) (by kernel_rfl) (Ext.drawn _) ?_
  refine wq_does (fun v K => does_fieldAddr fl_Fnd_k rfl (o' := 0) rfl) ?_
  refine wq_does (fun v K => does_load on_api_Rule rfl (((S.ext K).blk 0).cell (Fnd.get_k _))) ?_
  refine wq_does (fun v K => does_fieldAddr fl_Fnd_main rfl (o' := 1) rfl) ?_
  refine wq_does (fun v K => does_load on_int rfl (((S.ext K).blk 0).cell (Fnd.get_main _))) ?_
  refine wq_does (fun v K => does_as_i rfl) ?_
  refine wq_nil fun w13 K => ?_
  replace S := S.ext K
  clear K
  refine wd (does_as_i rfl) ?_
  refine wd (does_as_i rfl) ?_
  refine wl_nil ?_
  refine wc_ret ?_
  refine ⟨_, (rets3 (retOne_tmp rfl) (retOne_tmp rfl) (retOne_tmp rfl)), ?_⟩
  replace S : St A N w w13 [] [] := S.arr [] []
  obtain rfl := Option.some.inj H
  exact ⟨rfl, S⟩
theorem rule_Choices_st {A : Nat → Prop} {N : Oth} {w : World} {a0 : Tb} {a_0 : Option Addr} {a1 : Sq} (S : St A N w w [] [oT a_0 a0, oTz]) {r : List Int × List Int × Int} (H : rule_Choices.f a0 a1 = some r) :
    Calls PP F_rule_Choices #[.pointer a_0, .agg (Sq.C a1).toArray] w fun e w' => ∃ v, e = .returned v ∧ (∃ so0 : SlV, ∃ so1 : SlV, v = .tuple #[so0.v, so1.v, .int .i64 r.2.2] ∧ St A N w w' [oS T_api_Rule 1 IC so0 r.1, oS T_int 1 IC so1 r.2.1] []) := by
  unfold rule_Choices.f at H
  refine calls_of_wc (n := 56) fn_rule_Choices rfl rfl (by simp) ?_
  refine wc_seq (wc_region ?_)
  refine wl_box_p rfl (by decide) fun b2 w1 hw1 => ?_
  replace S : St A N w w1 [oB b2 T_dictum_formula_has [.pointer a_0]] [oT a_0 a0, oTz] := S.new hw1
  refine wl_box_agg rfl (by decide) fun b4 w3 hw3 => ?_
  replace S : St A N w w3 [oB b4 T_Sq (Sq.C a1), oB b2 T_dictum_formula_has [.pointer a_0]] [oT a_0 a0, oTz] := S.new hw3
  refine wd (does_as_nil) ?_
  refine wd (does_as_nil) ?_
  refine wd (does_as_i rfl) ?_
  refine wl_nil ?_
  refine wc_seq (wc_seq (wc_region ?_))
  refine wd (does_load on_dictum_formula_has rfl ((S.blk 1).cell rfl)) ?_
  refine wd (does_load_agg ag_Sq rfl ((S.blk 0).all _ (Sq.len _)) (Sq.len _)) ?_
  obtain ⟨r5, er5, H⟩ := bind_ex H
  obtain ⟨B7, MB7, SB7, back⟩ := S.calln 0 ((.z 0 rfl (.z 1 rfl .nil)))
  refine wl_call (does_call ca_rule_look) (by decide) (rule_look_st SB7 er5) ?_
  rintro _ w6 ⟨rfl, S2⟩
  replace S : St A N w w6 [oB b4 T_Sq (Sq.C a1), oB b2 T_dictum_formula_has [.pointer a_0]] [oT a_0 a0, oTz] := back _ _ _ _ S2 rfl
  clear back S2 SB7
  refine wd (does_as_i rfl) ?_
  refine wl_nil ?_
  refine wc_seq (wc_region ?_)
  refine wd (does_mv_i rfl) ?_
  refine wd (does_ne rfl rfl) ?_
  refine wl_nil ?_
  refine wc_if rfl (fun hc8 => ?_) (fun hc8 => ?_)
  · replace H := if_t hc8 H
    refine wc_seq (wc_region ?_)
    refine wd (does_mv_i rfl) ?_
    refine wd (does_as_nil) ?_
    refine wd (does_as_nil) ?_
    refine wd (does_as_i rfl) ?_
    refine wl_nil ?_
    refine wc_ret ?_
    replace S := S.nil T_api_Rule 1 IC
    replace S : St A N w w6 [oS T_int 1 IC SlV.nil ([] : List Int), oS T_api_Rule 1 IC SlV.nil ([] : List Int), oB b4 T_Sq (Sq.C a1), oB b2 T_dictum_formula_has [.pointer a_0]] [oT a_0 a0, oTz] := S.nil T_int 1 IC
    refine ⟨_, (rets3 (retOne_tmp rfl) (retOne_tmp rfl) (retOne_tmp rfl)), ?_⟩
    replace S : St A N w w6 [oS T_api_Rule 1 IC SlV.nil ([] : List Int), oS T_int 1 IC SlV.nil ([] : List Int)] [] := S.arr [1, 0] []
    obtain rfl := Option.some.inj H
    exact ⟨SlV.nil, SlV.nil, rfl, S⟩
  replace H := if_f hc8 H
  refine wc_skip ?_
  refine wc_seq (wc_region ?_)
  refine wl_alloc zs_L_api_Rule (by decide) fun b10 w9 hw9 => ?_
  replace S : St A N w w9 [oB b10 T_L_api_Rule [SlV.nil.v], oB b4 T_Sq (Sq.C a1), oB b2 T_dictum_formula_has [.pointer a_0]] [oT a_0 a0, oTz] := S.new hw9
  refine wl_nil ?_
  refine wc_seq (wc_region ?_)
  refine wl_alloc zs_L_int (by decide) fun b12 w11 hw11 => ?_
  replace S : St A N w w11 [oB b12 T_L_int [SlV.nil.v], oB b10 T_L_api_Rule [SlV.nil.v], oB b4 T_Sq (Sq.C a1), oB b2 T_dictum_formula_has [.pointer a_0]] [oT a_0 a0, oTz] := S.new hw11
  refine wl_nil ?_
  refine wc_seq (wc_seq (wc_region ?_))
  refine wd (does_load on_dictum_formula_has rfl ((S.blk 3).cell rfl)) ?_
  refine wd (does_load_agg ag_Sq rfl ((S.blk 2).all _ (Sq.len _)) (Sq.len _)) ?_
  obtain ⟨r13, er13, H⟩ := bind_ex H
  obtain ⟨B15, MB15, SB15, back⟩ := S.calln 0 ((.z 0 rfl (.z 1 rfl .nil)))
  refine wl_call (does_call ca_rule_apply) (by decide) (rule_apply_st SB15 er13) ?_
  rintro _ w14 ⟨rfl, S2⟩
  replace S : St A N w w14 [oB b12 T_L_int [SlV.nil.v], oB b10 T_L_api_Rule [SlV.nil.v], oB b4 T_Sq (Sq.C a1), oB b2 T_dictum_formula_has [.pointer a_0]] [oT a_0 a0, oTz] := back _ _ _ _ S2 rfl
  clear back S2 SB15
  refine wd (does_field fv_Fnd_k on_api_Rule rfl (Fnd.get_k _)) ?_
  refine wd (does_ne rfl rfl) ?_
  refine wl_nil ?_
  refine wc_if rfl (fun hc16 => ?_) (fun hc16 => ?_)
  · replace H := if_t hc16 H
    refine wc_seq (wc_region ?_)
    refine wd (does_as_nil) ?_
    refine wd (does_as_nil) ?_
    refine wd (does_as_i rfl) ?_
    refine wl_nil ?_
    refine wc_ret ?_
    replace S := S.nil T_api_Rule 1 IC
    replace S : St A N w w14 [oS T_int 1 IC SlV.nil ([] : List Int), oS T_api_Rule 1 IC SlV.nil ([] : List Int), oB b12 T_L_int [SlV.nil.v], oB b10 T_L_api_Rule [SlV.nil.v], oB b4 T_Sq (Sq.C a1), oB b2 T_dictum_formula_has [.pointer a_0]] [oT a_0 a0, oTz] := S.nil T_int 1 IC
    refine ⟨_, (rets3 (retOne_tmp rfl) (retOne_tmp rfl) (retOne_tmp rfl)), ?_⟩
    replace S : St A N w w14 [oS T_api_Rule 1 IC SlV.nil ([] : List Int), oS T_int 1 IC SlV.nil ([] : List Int)] [] := S.arr [1, 0] []
    obtain rfl := Option.some.inj H
    exact ⟨SlV.nil, SlV.nil, rfl, S⟩
  replace H := if_f hc16 H
  refine wc_skip ?_
  refine wc_seq (wc_seq (wc_region ?_))
  refine wd (does_load on_dictum_formula_has rfl ((S.blk 3).cell rfl)) ?_
  refine wd (does_fieldAddr fl_Sq_goal rfl (o' := 16) rfl) ?_
  refine wd (does_load on_int rfl ((S.blk 2).cell (Sq.get_goal _))) ?_
  obtain ⟨r17, er17, H⟩ := bind_ex H
  obtain ⟨B19, MB19, SB19, back⟩ := S.calln 0 ((.z 0 rfl .nil))
  refine wl_call (does_call ca_rule_node) (by decide) (rule_node_st SB19 er17) ?_
  rintro _ w18 ⟨rfl, S2⟩
  replace S : St A N w w18 [oB b12 T_L_int [SlV.nil.v], oB b10 T_L_api_Rule [SlV.nil.v], oB b4 T_Sq (Sq.C a1), oB b2 T_dictum_formula_has [.pointer a_0]] [oT a_0 a0, oTz] := back _ _ _ _ S2 rfl
  clear back S2 SB19
  refine wd (does_field fv_Nd_kind on_api_Kind rfl (Nd.get_kind _)) ?_
  refine wd (does_eq rfl rfl) ?_
  refine wl_nil ?_
  replace S := S.nil T_int 1 IC
  replace S : St A N w w18 [oS T_api_Rule 1 IC SlV.nil ([] : List Int), oS T_int 1 IC SlV.nil ([] : List Int), oB b12 T_L_int [SlV.nil.v], oB b10 T_L_api_Rule [SlV.nil.v], oB b4 T_Sq (Sq.C a1), oB b2 T_dictum_formula_has [.pointer a_0]] [oT a_0 a0, oTz] := S.nil T_api_Rule 1 IC
  obtain ⟨o20, e20, Ho20⟩ := bind_ex H
  replace H := e20; clear e20
  refine wc_cutq [28, 29, 30, 31, 32, 33, 34, 35, 36, 37] (fun fr W => ∃ s21 : SlV, ∃ s22 : SlV, St A N w W [oS T_api_Rule 1 IC s22 o20.2, oS T_int 1 IC s21 o20.1, oB b12 T_L_int [s21.v], oB b10 T_L_api_Rule [s22.v], oB b4 T_Sq (Sq.C a1), oB b2 T_dictum_formula_has [.pointer a_0]] [oT a_0 a0, oTz]) ?_ ?_
  · refine wc_if rfl (fun hc23 => ?_) (fun hc23 => ?_)
    · replace H := if_t hc23 H
      refine wc_seq (wc_region ?_)
      refine wd (does_load on_L_api_Rule rfl ((S.blk 3).cell rfl)) ?_
      refine wl_lits (C := IC) (l := [11, 12]) (vs := [.int .i64 11, .int .i64 12]) sl_L_api_Rule el_api_Rule.zero rfl rfl (fun _ _ => rfl) (by decide) rfl (by decide) fun b25 w24 s26 hBw24 hw24 => ?_
      replace S : St A N w w24 [oS T_api_Rule 1 IC s26 ([11, 12]), oS T_api_Rule 1 IC SlV.nil ([] : List Int), oS T_int 1 IC SlV.nil ([] : List Int), oB b12 T_L_int [SlV.nil.v], oB b10 T_L_api_Rule [SlV.nil.v], oB b4 T_Sq (Sq.C a1), oB b2 T_dictum_formula_has [.pointer a_0]] [oT a_0 a0, oTz] := S.lit hBw24 hw24 (by simp)
      obtain ⟨ha29, H⟩ := chk_ex H
      have ha29 := of_decide_eq_true ha29
      refine wl_appends (C := IC) sl_L_api_Rule el_api_Rule rfl rfl (S.sl 1) (S.rdO 0) (by simp) (fun a _ v hv => by rw [List.mem_singleton.1 hv]; rfl) ha29 (by omega) (by decide) fun s28 w27 O hw27 gw27 => ?_
      replace S : St A N w w27 [oS T_api_Rule 1 IC s28 (([] : List Int) ++ [11, 12]), oS T_api_Rule 1 IC s26 ([11, 12]), oS T_int 1 IC SlV.nil ([] : List Int), oB b12 T_L_int [SlV.nil.v], oB b10 T_L_api_Rule [SlV.nil.v], oB b4 T_Sq (Sq.C a1), oB b2 T_dictum_formula_has [.pointer a_0]] [oT a_0 a0, oTz] := S.push 1 O (by first | (simp; done) | (simp; omega)) hw27 gw27
      clear O
      refine wl_store on_L_api_Rule rfl rfl (S.blk 4) (by simp) (SlV.one _ _ rfl) rfl fun w30 B hw30 zw30 => ?_
      replace S : St A N w w30 [oB b10 T_L_api_Rule [s28.v], oS T_api_Rule 1 IC s28 (([] : List Int) ++ [11, 12]), oS T_api_Rule 1 IC s26 ([11, 12]), oS T_int 1 IC SlV.nil ([] : List Int), oB b12 T_L_int [SlV.nil.v], oB b4 T_Sq (Sq.C a1), oB b2 T_dictum_formula_has [.pointer a_0]] [oT a_0 a0, oTz] := S.store 4 B hw30
      clear B
      refine wl_nil ?_
      refine wc_region ?_
      refine wd (does_load on_L_int rfl ((S.blk 4).cell rfl)) ?_
      refine wd (does_fieldAddr fl_Sq_goal rfl (o' := 16) rfl) ?_
      refine wd (does_load on_int rfl ((S.blk 5).cell (Sq.get_goal _))) ?_
      refine wd (does_fieldAddr fl_Sq_goal rfl (o' := 16) rfl) ?_
      refine wd (does_load on_int rfl ((S.blk 5).cell (Sq.get_goal _))) ?_
      refine wl_lits (C := IC) (l := [a1.goal, a1.goal]) (vs := [.int .i64 a1.goal, .int .i64 a1.goal]) sl_L_int el_int.zero rfl rfl (fun _ _ => rfl) (by decide) rfl (by decide) fun b32 w31 s33 hBw31 hw31 => ?_
      replace S : St A N w w31 [oS T_int 1 IC s33 ([a1.goal, a1.goal]), oB b10 T_L_api_Rule [s28.v], oS T_api_Rule 1 IC s28 (([] : List Int) ++ [11, 12]), oS T_api_Rule 1 IC s26 ([11, 12]), oS T_int 1 IC SlV.nil ([] : List Int), oB b12 T_L_int [SlV.nil.v], oB b4 T_Sq (Sq.C a1), oB b2 T_dictum_formula_has [.pointer a_0]] [oT a_0 a0, oTz] := S.lit hBw31 hw31 (by simp)
      obtain ⟨ha36, H⟩ := chk_ex H
      have ha36 := of_decide_eq_true ha36
      refine wl_appends (C := IC) sl_L_int el_int rfl rfl (S.sl 4) (S.rdO 0) (by simp) (fun a _ v hv => by rw [List.mem_singleton.1 hv]; rfl) ha36 (by omega) (by decide) fun s35 w34 O hw34 gw34 => ?_
      replace S : St A N w w34 [oS T_int 1 IC s35 (([] : List Int) ++ [a1.goal, a1.goal]), oS T_int 1 IC s33 ([a1.goal, a1.goal]), oB b10 T_L_api_Rule [s28.v], oS T_api_Rule 1 IC s28 (([] : List Int) ++ [11, 12]), oS T_api_Rule 1 IC s26 ([11, 12]), oB b12 T_L_int [SlV.nil.v], oB b4 T_Sq (Sq.C a1), oB b2 T_dictum_formula_has [.pointer a_0]] [oT a_0 a0, oTz] := S.push 4 O (by first | (simp; done) | (simp; omega)) hw34 gw34
      clear O
      refine wl_store on_L_int rfl rfl (S.blk 5) (by simp) (SlV.one _ _ rfl) rfl fun w37 B hw37 zw37 => ?_
      replace S : St A N w w37 [oB b12 T_L_int [s35.v], oS T_int 1 IC s35 (([] : List Int) ++ [a1.goal, a1.goal]), oS T_int 1 IC s33 ([a1.goal, a1.goal]), oB b10 T_L_api_Rule [s28.v], oS T_api_Rule 1 IC s28 (([] : List Int) ++ [11, 12]), oS T_api_Rule 1 IC s26 ([11, 12]), oB b4 T_Sq (Sq.C a1), oB b2 T_dictum_formula_has [.pointer a_0]] [oT a_0 a0, oTz] := S.store 5 B hw37
      clear B
      refine wl_nil ?_
      replace S : St A N w w37 [oS T_api_Rule 1 IC s28 (([] : List Int) ++ [11, 12]), oS T_int 1 IC s35 (([] : List Int) ++ [a1.goal, a1.goal]), oB b12 T_L_int [s35.v], oB b10 T_L_api_Rule [s28.v], oB b4 T_Sq (Sq.C a1), oB b2 T_dictum_formula_has [.pointer a_0]] [oT a_0 a0, oTz] := S.arr [4, 1, 0, 3, 6, 7] [0, 1]
      obtain rfl := Option.some.inj H
      exact ⟨rfl, (((((((((((Dif.refl _ _).upd rfl _).upd rfl _).upd rfl _).upd rfl _).upd rfl _).upd rfl _).upd rfl _).upd rfl _).upd rfl _).upd rfl _), s35, s28, S⟩
    · replace H := if_f hc23 H
      refine wc_skip ?_
      obtain rfl := Option.some.inj H
      exact ⟨rfl, (Dif.refl _ _), SlV.nil, SlV.nil, S⟩
  rintro g38 u39 ⟨s21, s22, S⟩
  have H := Ho20
  refine wc_seq (wc_seq (wc_region ?_))
  refine wd (does_fieldAddr fl_Sq_left rfl (o' := 0) rfl) ?_
  refine wd (does_load_agg ag_Bits rfl ((S.blk 4).cells (Sq.sub_left _)) (Bits.len _)) ?_
  refine wl_call (does_call ca_bits_All) (by decide) (bits_All_ok _ a1.left) ?_
  rintro _ w40 ⟨c41, rfl, Bc41, hc41, Ec41⟩
  replace S : St A N w w40 [oS T_api_Rule 1 IC s22 o20.2, oS T_int 1 IC s21 o20.1, oB b12 T_L_int [s21.v], oB b10 T_L_api_Rule [s22.v], oB b4 T_Sq (Sq.C a1), oB b2 T_dictum_formula_has [.pointer a_0]] [oB c41 T_Bits (Bits.C a1.left), oT a_0 a0, oTz] := S.addZ (b := oB c41 T_Bits (Bits.C a1.left)) (G := (· = c41)) Ec41 ⟨Bc41, fun _ => Iff.rfl⟩ (fun i hi => by rw [hi]; exact hc41)
  refine wl_nil ?_
  refine wc_block ?_
  obtain ⟨hok42, H⟩ := chk_ex H
  obtain ⟨o43, e43, Ho43⟩ := bind_ex H
  clear H
  refine wc_rangeSt (xs := Bits.list a1.left) (enc := fun (x : Nat) => Value.int .i64 (x : Int)) (bd := (fun (x : Nat) (s : List Int × List Int) => rule_Choices.b0 a0 a1 (x : Int) s.1 s.2)) (L := (fun (s : List Int × List Int) (c : SlV × SlV) => [oS T_api_Rule 1 IC c.2 s.2, oS T_int 1 IC c.1 s.1, oB b12 T_L_int [c.1.v], oB b10 T_L_api_Rule [c.2.v], oB b4 T_Sq (Sq.C a1), oB b2 T_dictum_formula_has [.pointer a_0]])) (Lr := (fun (_ : Empty) (_ : Unit) => [])) (Z := [oB c41 T_Bits (Bits.C a1.left), oT a_0 a0, oTz]) (s21, s22) false 0 rfl ca_bits_All_1 (bits_All_1_gives (Bits.okB_ok hok42) c41) (by decide) (fun N' s c W h => ⟨h.blkZ 0, h.tz 2⟩) S e43 ?_ ?_ ?_ ?_
  · rintro i43 ⟨x43_0, x43_1⟩ ⟨s44, s45⟩ q43 N43 rd u43 H S
    replace S : St A N43 w u43 [oS T_api_Rule 1 IC s45 x43_1, oS T_int 1 IC s44 x43_0, oB b12 T_L_int [s44.v], oB b10 T_L_api_Rule [s45.v], oB b4 T_Sq (Sq.C a1), oB b2 T_dictum_formula_has [.pointer a_0]] [oB c41 T_Bits (Bits.C a1.left), oT a_0 a0, oTz] := S
    refine wc_region ?_
    refine wd (does_as_i rfl) ?_
    refine wl_nil ?_
    refine ⟨rfl, S, fun M43 v43 S => ?_⟩
    replace S : St A M43 w v43 [oS T_api_Rule 1 IC s45 x43_1, oS T_int 1 IC s44 x43_0, oB b12 T_L_int [s44.v], oB b10 T_L_api_Rule [s45.v], oB b4 T_Sq (Sq.C a1), oB b2 T_dictum_formula_has [.pointer a_0]] [oB c41 T_Bits (Bits.C a1.left), oT a_0 a0, oTz] := S
    replace H : rule_Choices.b0 a0 a1 (i43 : Int) x43_0 x43_1 = some q43 := H
    unfold rule_Choices.b0 at H
    try dsimp only at H
    refine wc_block ?_
    refine wc_seq (wc_region ?_)
    refine wd (does_load on_dictum_formula_has rfl ((S.blk 5).cell rfl)) ?_
    refine wd (does_load_agg ag_Sq rfl ((S.blk 4).all _ (Sq.len _)) (Sq.len _)) ?_
    refine wd (does_mv_i rfl) ?_
    obtain ⟨r46, er46, H⟩ := bind_ex H
    obtain ⟨B48, MB48, SB48, back⟩ := S.calln 0 ((.z 1 rfl .nil))
    refine wl_call (does_call ca_rule_on) (by decide) (rule_on_st SB48 er46) ?_
    rintro _ w47 ⟨rfl, S2⟩
    replace S : St A M43 w w47 [oS T_api_Rule 1 IC s45 x43_1, oS T_int 1 IC s44 x43_0, oB b12 T_L_int [s44.v], oB b10 T_L_api_Rule [s45.v], oB b4 T_Sq (Sq.C a1), oB b2 T_dictum_formula_has [.pointer a_0]] [oB c41 T_Bits (Bits.C a1.left), oT a_0 a0, oTz] := back _ _ _ _ S2 rfl
    clear back S2 SB48
    refine wd (does_eq rfl rfl) ?_
    refine wl_nil ?_
    refine wc_if rfl (fun hc49 => ?_) (fun hc49 => ?_)
    · replace H := if_t hc49 H
      refine wc_seq (wc_region ?_)
      refine wd (does_load on_L_api_Rule rfl ((S.blk 3).cell rfl)) ?_
      refine wl_lits (C := IC) (l := [13]) (vs := [.int .i64 13]) sl_L_api_Rule el_api_Rule.zero rfl rfl (fun _ _ => rfl) (by decide) rfl (by decide) fun b51 w50 s52 hBw50 hw50 => ?_
      replace S : St A M43 w w50 [oS T_api_Rule 1 IC s52 ([13]), oS T_api_Rule 1 IC s45 x43_1, oS T_int 1 IC s44 x43_0, oB b12 T_L_int [s44.v], oB b10 T_L_api_Rule [s45.v], oB b4 T_Sq (Sq.C a1), oB b2 T_dictum_formula_has [.pointer a_0]] [oB c41 T_Bits (Bits.C a1.left), oT a_0 a0, oTz] := S.lit hBw50 hw50 (by simp)
      obtain ⟨ha55, H⟩ := chk_ex H
      have ha55 := of_decide_eq_true ha55
      refine wl_appends (C := IC) sl_L_api_Rule el_api_Rule rfl rfl (S.sl 1) (S.rdO 0) (by simp) (fun a _ v hv => by rw [List.mem_singleton.1 hv]; rfl) ha55 (by omega) (by decide) fun s54 w53 O hw53 gw53 => ?_
      replace S : St A M43 w w53 [oS T_api_Rule 1 IC s54 (x43_1 ++ [13]), oS T_api_Rule 1 IC s52 ([13]), oS T_int 1 IC s44 x43_0, oB b12 T_L_int [s44.v], oB b10 T_L_api_Rule [s45.v], oB b4 T_Sq (Sq.C a1), oB b2 T_dictum_formula_has [.pointer a_0]] [oB c41 T_Bits (Bits.C a1.left), oT a_0 a0, oTz] := S.push 1 O (by first | (simp; done) | (simp; omega)) hw53 gw53
      clear O
      refine wl_store on_L_api_Rule rfl rfl (S.blk 4) (by simp) (SlV.one _ _ rfl) rfl fun w56 B hw56 zw56 => ?_
      replace S : St A M43 w w56 [oB b10 T_L_api_Rule [s54.v], oS T_api_Rule 1 IC s54 (x43_1 ++ [13]), oS T_api_Rule 1 IC s52 ([13]), oS T_int 1 IC s44 x43_0, oB b12 T_L_int [s44.v], oB b4 T_Sq (Sq.C a1), oB b2 T_dictum_formula_has [.pointer a_0]] [oB c41 T_Bits (Bits.C a1.left), oT a_0 a0, oTz] := S.store 4 B hw56
      clear B
      refine wl_nil ?_
      refine wc_region ?_
      refine wd (does_load on_L_int rfl ((S.blk 4).cell rfl)) ?_
      refine wd (does_mv_i rfl) ?_
      refine wl_lits (C := IC) (l := [(i43 : Int)]) (vs := [.int .i64 (i43 : Int)]) sl_L_int el_int.zero rfl rfl (fun _ _ => rfl) (by decide) rfl (by decide) fun b58 w57 s59 hBw57 hw57 => ?_
      replace S : St A M43 w w57 [oS T_int 1 IC s59 ([(i43 : Int)]), oB b10 T_L_api_Rule [s54.v], oS T_api_Rule 1 IC s54 (x43_1 ++ [13]), oS T_api_Rule 1 IC s52 ([13]), oS T_int 1 IC s44 x43_0, oB b12 T_L_int [s44.v], oB b4 T_Sq (Sq.C a1), oB b2 T_dictum_formula_has [.pointer a_0]] [oB c41 T_Bits (Bits.C a1.left), oT a_0 a0, oTz] := S.lit hBw57 hw57 (by simp)
      obtain ⟨ha62, H⟩ := chk_ex H
      have ha62 := of_decide_eq_true ha62
      refine wl_appends (C := IC) sl_L_int el_int rfl rfl (S.sl 4) (S.rdO 0) (by simp) (fun a _ v hv => by rw [List.mem_singleton.1 hv]; rfl) ha62 (by omega) (by decide) fun s61 w60 O hw60 gw60 => ?_
      replace S : St A M43 w w60 [oS T_int 1 IC s61 (x43_0 ++ [(i43 : Int)]), oS T_int 1 IC s59 ([(i43 : Int)]), oB b10 T_L_api_Rule [s54.v], oS T_api_Rule 1 IC s54 (x43_1 ++ [13]), oS T_api_Rule 1 IC s52 ([13]), oB b12 T_L_int [s44.v], oB b4 T_Sq (Sq.C a1), oB b2 T_dictum_formula_has [.pointer a_0]] [oB c41 T_Bits (Bits.C a1.left), oT a_0 a0, oTz] := S.push 4 O (by first | (simp; done) | (simp; omega)) hw60 gw60
      clear O
      refine wl_store on_L_int rfl rfl (S.blk 5) (by simp) (SlV.one _ _ rfl) rfl fun w63 B hw63 zw63 => ?_
      replace S : St A M43 w w63 [oB b12 T_L_int [s61.v], oS T_int 1 IC s61 (x43_0 ++ [(i43 : Int)]), oS T_int 1 IC s59 ([(i43 : Int)]), oB b10 T_L_api_Rule [s54.v], oS T_api_Rule 1 IC s54 (x43_1 ++ [13]), oS T_api_Rule 1 IC s52 ([13]), oB b4 T_Sq (Sq.C a1), oB b2 T_dictum_formula_has [.pointer a_0]] [oB c41 T_Bits (Bits.C a1.left), oT a_0 a0, oTz] := S.store 5 B hw63
      clear B
      refine wl_nil ?_
      replace S : St A M43 w w63 [oS T_api_Rule 1 IC s54 (x43_1 ++ [13]), oS T_int 1 IC s61 (x43_0 ++ [(i43 : Int)]), oB b12 T_L_int [s61.v], oB b10 T_L_api_Rule [s54.v], oB b4 T_Sq (Sq.C a1), oB b2 T_dictum_formula_has [.pointer a_0]] [oB c41 T_Bits (Bits.C a1.left), oT a_0 a0, oTz] := S.arr [4, 1, 0, 3, 6, 7] [0, 1, 2]
      obtain rfl := Option.some.inj H
      exact ⟨_, rfl, (s61, s54), S⟩
    · replace H := if_f hc49 H
      refine wc_skip ?_
      obtain rfl := Option.some.inj H
      exact ⟨_, rfl, (s44, s45), S⟩
  · rintro s43 ⟨s65, s66⟩ B43 w64 rfl S hB43
    replace S : St A (N.done B43) w w64 [oS T_api_Rule 1 IC s66 s43.2, oS T_int 1 IC s65 s43.1, oB b12 T_L_int [s65.v], oB b10 T_L_api_Rule [s66.v], oB b4 T_Sq (Sq.C a1), oB b2 T_dictum_formula_has [.pointer a_0]] [oB c41 T_Bits (Bits.C a1.left), oT a_0 a0, oTz] := S
    have H := Ho43
    dsimp only [fin] at H
    refine wc_seq ?_
    refine wc_quiet 3 (Ext w64) hmix (by kernel_rfl) (by kernel_rfl) (Ext.drawn _) ?_
    refine wq_does (fun v K => does_load on_L_api_Rule rfl (((S.ext K).blk 3).cell rfl)) ?_
    refine wq_does (fun v K => does_load on_L_int rfl (((S.ext K).blk 2).cell rfl)) ?_
    refine wq_does (fun v K => does_as_l rfl) ?_
    refine wq_nil fun w67 K => ?_
    replace S := S.ext K
    clear K
    refine wd (does_as_l rfl) ?_
    refine wd (does_as_i rfl) ?_
    refine wl_nil ?_
    refine wc_ret ?_
    refine end1 (.inl rfl) (S.take hB43).1 fun w68 hcw68 => ?_
    replace S : St A N w w68 [oS T_api_Rule 1 IC s66 s43.2, oS T_int 1 IC s65 s43.1, oB b12 T_L_int [s65.v], oB b10 T_L_api_Rule [s66.v], oB b4 T_Sq (Sq.C a1), oB b2 T_dictum_formula_has [.pointer a_0]] [oB c41 T_Bits (Bits.C a1.left), oT a_0 a0, oTz] := (S.take hB43).2 _ hcw68
    refine ⟨_, (rets3 (retOne_tmp rfl) (retOne_tmp rfl) (retOne_tmp rfl)), ?_⟩
    replace S : St A N w w68 [oS T_api_Rule 1 IC s66 s43.2, oS T_int 1 IC s65 s43.1] [] := S.arr [0, 1] []
    obtain rfl := Option.some.inj H
    exact ⟨s66, s65, rfl, S⟩
  · intro r; exact r.elim
  · intro h; cases h
end Go.Proofs.YtjjkhjieegmphaaDoor
end
section
namespace Go.Proofs.YtjjkhjieegmphaaDoor
open Gw Go.RowKit
theorem rule_pair_1_st {A : Nat → Prop} {N : Oth} {w : World} {a0 : List Int} {s_0 : SlV} {a1 : Int} {b_1 : Nat} {a2 : Int} {b_2 : Nat} (S : St A N w w [] [fS 1 IC s_0 a0, oB b_1 T_int [.int .i64 a1], oB b_2 T_int [.int .i64 a2]]) {r : Int × Int} (H : rule_pair_1.f a0 a1 a2 = some r) :
    Calls PP F_rule_pair_1 #[s_0.v, .pointer (some ⟨b_1, 0, none⟩), .pointer (some ⟨b_2, 0, none⟩)] w fun e w' => ∃ v, e = .returned v ∧ (v = .tuple #[.int .i64 r.1, .int .i64 r.2] ∧ St A N w w' [] []) := by
  unfold rule_pair_1.f at H
  refine calls_of_wc (n := 8) fn_rule_pair_1 rfl rfl (by simp) ?_
  refine wc_seq (wc_region ?_)
  refine wd (does_as_i rfl) ?_
  refine wd (does_as_i rfl) ?_
  refine wl_nil ?_
  refine wc_seq ?_
  refine wc_quiet 3 (Ext w) hmix (by kernel_rfl) (by kernel_rfl) (Ext.drawn _) ?_
  refine wq_does (fun v K => does_load on_int rfl (((S.ext K).blkZ 1).cell rfl)) ?_
  refine wq_does (fun v K => does_load on_int rfl (((S.ext K).blkZ 2).cell rfl)) ?_
  refine wq_does (fun v K => does_as_i rfl) ?_
  refine wq_nil fun w1 K => ?_
  replace S := S.ext K
  clear K
  refine wd (does_as_i rfl) ?_
  refine wl_nil ?_
  refine wc_ret ?_
  refine ⟨_, (rets2 (retOne_tmp rfl) (retOne_tmp rfl)), ?_⟩
  replace S : St A N w w1 [] [] := S.arr [] []
  obtain rfl := Option.some.inj H
  exact ⟨rfl, S⟩
theorem rule_pair_st {A : Nat → Prop} {N : Oth} {w : World} {a0 : Int} {a1 : Int} (S : St A N w w [] []) {r : Int × Int} (H : rule_pair.f a0 a1 = some r) :
    Calls PP F_rule_pair #[.int .i64 a0, .int .i64 a1] w fun e w' => ∃ v, e = .returned v ∧ (∃ bo0 : Nat, ∃ bo1 : Nat, v = .func (.func F_rule_pair_1) #[] #[.pointer (some ⟨bo0, 0, none⟩), .pointer (some ⟨bo1, 0, none⟩)] ∧ (w.heap.size ≤ bo0 ∧ w.heap.size ≤ bo1) ∧ St A N w w' [] [oB bo0 T_int [.int .i64 r.1], oB bo1 T_int [.int .i64 r.2]]) := by
  unfold rule_pair.f at H
  refine calls_of_wc (n := 6) fn_rule_pair rfl rfl (by simp) ?_
  refine wc_seq (wc_region ?_)
  refine wl_box_i rfl (by decide) fun b2 w1 hw1 => ?_
  have lb2 : w.heap.size ≤ b2 := by have := S.size; have := hw1.at_; omega
  replace S : St A N w w1 [oB b2 T_int [.int .i64 a0]] [] := S.new hw1
  refine wl_box_i rfl (by decide) fun b4 w3 hw3 => ?_
  have lb4 : w.heap.size ≤ b4 := by have := S.size; have := hw3.at_; omega
  replace S : St A N w w3 [oB b4 T_int [.int .i64 a1], oB b2 T_int [.int .i64 a0]] [] := S.new hw3
  refine wd (does_assign rfl) ?_
  refine wl_nil ?_
  refine wc_seq (wc_region ?_)
  refine wd (does_funcl) ?_
  refine wd (does_as_f rfl) ?_
  refine wl_nil ?_
  refine wc_ret ?_
  replace S : St A N w w3 [oB b4 T_int [.int .i64 a1]] [oB b2 T_int [.int .i64 a0]] := S.frzB 1
  replace S : St A N w w3 [] [oB b4 T_int [.int .i64 a1], oB b2 T_int [.int .i64 a0]] := S.frzB 0
  refine ⟨_, (rets1 (retOne_tmp rfl)), ?_⟩
  replace S : St A N w w3 [] [oB b2 T_int [.int .i64 a0], oB b4 T_int [.int .i64 a1]] := S.arr [] [1, 0]
  obtain rfl := Option.some.inj H
  exact ⟨b2, b4, rfl, ⟨lb2, lb4⟩, S⟩
theorem rule_premises_1_st {A : Nat → Prop} {N : Oth} {w : World} {a0 : List Int} {s_0 : SlV} {a1 : Nd} {b_1 : Nat} (S : St A N w w [] [fS 1 IC s_0 a0, oB b_1 T_Nd (Nd.C a1)]) {r : Int × Int} (H : rule_premises_1.f a0 a1 = some r) :
    Calls PP F_rule_premises_1 #[s_0.v, .pointer (some ⟨b_1, 0, none⟩)] w fun e w' => ∃ v, e = .returned v ∧ (v = .tuple #[.int .i64 r.1, .int .i64 r.2] ∧ St A N w w' [] []) := by
  unfold rule_premises_1.f at H
  refine calls_of_wc (n := 10) fn_rule_premises_1 rfl rfl (by simp) ?_
  refine wc_seq (wc_region ?_)
  refine wd (does_as_i rfl) ?_
  refine wd (does_as_i rfl) ?_
  refine wl_nil ?_
  refine wc_seq ?_
  refine wc_quiet 6 (Ext w) hmix (by kernel_rfl) (by kernel_rfl) (Ext.drawn _) ?_
  refine wq_does (fun v K => does_fieldAddr fl_Nd_l rfl (o' := 2) rfl) ?_
  refine wq_does (fun v K => does_load on_int rfl (((S.ext K).blkZ 1).cell (Nd.get_l _))) ?_
  refine wq_does (fun v K => does_mv_l rfl) ?_
  obtain ⟨hi1, H⟩ := chk_ex H
  refine wq_does (fun v K => does_indexR sl_L_int rfl rfl ((S.ext K).rd 0) (inb_ex hi1).1 (inb_ex hi1).2) ?_
  refine wq_does (fun v K => does_load on_int rfl (((S.ext K).rd 0).one (at_some (0 : Int) (inb_ex hi1)) rfl)) ?_
  refine wq_does (fun v K => does_as_i rfl) ?_
  refine wq_nil fun w2 K => ?_
  replace S := S.ext K
  clear K
  refine wd (does_as_i rfl) ?_
  refine wl_nil ?_
  refine wc_ret ?_
  refine ⟨_, (rets2 (retOne_tmp rfl) (retOne_tmp rfl)), ?_⟩
  replace S : St A N w w2 [] [] := S.arr [] []
  obtain rfl := Option.some.inj H
  exact ⟨rfl, S⟩
theorem rule_imps__rule_pair_1__rule_premises_1_st {A : Nat → Prop} {N : Oth} {w : World} {a0 : Tb} {a_0 : Option Addr} {a1_0 : Int} {a1_1 : Int} {a1_2 : Nd} {s_1 : SlV} {b_1_1 : Nat} {b_1_2 : Nat} {b_1_3 : Nat} (S : St A N w w [oT a_0 a0] [fS 1 FC s_1 ([FnV.mk (.func F_rule_pair_1) #[] #[.pointer (some ⟨b_1_1, 0, none⟩), .pointer (some ⟨b_1_2, 0, none⟩)], FnV.mk (.func F_rule_premises_1) #[] #[.pointer (some ⟨b_1_3, 0, none⟩)]]), oB b_1_1 T_int [.int .i64 a1_0], oB b_1_2 T_int [.int .i64 a1_1], oB b_1_3 T_Nd (Nd.C a1_2)]) {r : Tb × List Int × Int} (H : rule_imps__rule_pair_1__rule_premises_1.f a0 a1_0 a1_1 a1_2 = some r) :
    Calls PP F_rule_imps #[.pointer a_0, s_1.v] w fun e w' => ∃ v, e = .returned v ∧ (∃ so0 : SlV, v = .tuple #[so0.v, .int .i64 r.2.2] ∧ St A N w w' [oT a_0 r.1, oS T_int 1 IC so0 r.2.1] []) := by
  unfold rule_imps__rule_pair_1__rule_premises_1.f at H
  refine calls_of_wc (n := 41) fn_rule_imps rfl rfl (by simp) ?_
  refine wc_seq (wc_region ?_)
  refine wd (does_as_nil) ?_
  refine wd (does_as_i rfl) ?_
  refine wl_nil ?_
  refine wc_seq (wc_region ?_)
  refine wd (does_as_nil) ?_
  refine wl_nil ?_
  refine wc_seq (wc_seq (wc_region ?_))
  refine wd (does_mv_l rfl) ?_
  refine wd (does_lenR sl_L_func_L_int_int_int rfl (S.rd 0)) ?_
  refine wd (does_mv_i rfl) ?_
  refine wl_nil ?_
  refine wc_block ?_
  refine wc_rounds 3 ?_
  refine rounds_s ?_
  refine wc_seq (wc_region ?_)
  refine wd (does_lt rfl rfl) ?_
  refine wl_nil ?_
  refine wc_seq ?_
  refine wc_true rfl ?_
  refine wc_skip ?_
  refine wc_seq ?_
  refine wc_block ?_
  refine wc_seq (wc_region ?_)
  refine wd (does_indexR sl_L_func_L_int_int_int rfl rfl (S.rd 0) (by decide) (by simp)) ?_
  refine wd (does_load on_func_L_int_int_int rfl ((S.rd 0).one (at_some FnV.nil (And.intro (by decide) (by simp))) rfl)) ?_
  refine wd (does_as_f rfl) ?_
  refine wl_nil ?_
  refine wc_seq (wc_region ?_)
  refine wd (does_mv_f rfl) ?_
  refine wd (does_mv_l rfl) ?_
  replace S : St A N w w [oT a_0 a0] [fS 1 IC SlV.nil ([]), fS 1 FC s_1 ([FnV.mk (.func F_rule_pair_1) #[] #[.pointer (some ⟨b_1_1, 0, none⟩), .pointer (some ⟨b_1_2, 0, none⟩)], FnV.mk (.func F_rule_premises_1) #[] #[.pointer (some ⟨b_1_3, 0, none⟩)]]), oB b_1_1 T_int [.int .i64 a1_0], oB b_1_2 T_int [.int .i64 a1_1], oB b_1_3 T_Nd (Nd.C a1_2)] := S.nilZ 1 IC
  obtain ⟨r3, er3, H⟩ := bind_ex H
  obtain ⟨B5, MB5, SB5, back⟩ := S.calln 0 ((.z 0 rfl (.z 2 rfl (.z 3 rfl .nil))))
  refine wl_call (does_callv ca_rule_pair_1 rfl) (by decide) (rule_pair_1_st SB5 er3) ?_
  rintro _ w4 ⟨rfl, S2⟩
  replace S : St A N w w4 [oT a_0 a0] [fS 1 IC SlV.nil ([]), fS 1 FC s_1 ([FnV.mk (.func F_rule_pair_1) #[] #[.pointer (some ⟨b_1_1, 0, none⟩), .pointer (some ⟨b_1_2, 0, none⟩)], FnV.mk (.func F_rule_premises_1) #[] #[.pointer (some ⟨b_1_3, 0, none⟩)]]), oB b_1_1 T_int [.int .i64 a1_0], oB b_1_2 T_int [.int .i64 a1_1], oB b_1_3 T_Nd (Nd.C a1_2)] := back _ _ _ _ S2 rfl
  clear back S2 SB5
  refine wd (does_mv_t rfl) ?_
  refine wd (does_extract rfl rfl) ?_
  refine wd (does_extract rfl rfl) ?_
  refine wd (does_as_i rfl) ?_
  refine wd (does_as_i rfl) ?_
  refine wl_nil ?_
  refine wc_seq (wc_region ?_)
  refine wd (does_mv_p rfl) ?_
  refine wd (does_mv_i rfl) ?_
  refine wd (does_mv_i rfl) ?_
  obtain ⟨r6, er6, H⟩ := bind_ex H
  obtain ⟨B8, MB8, SB8, back⟩ := S.calln 1 ((.nil))
  refine wl_call (does_call ca_formula_Table_Imp) (by decide) (formula_Table_Imp_st SB8 er6) ?_
  rintro _ w7 ⟨rfl, S2⟩
  replace S : St A N w w7 [oT a_0 r6.1] [fS 1 IC SlV.nil ([]), fS 1 FC s_1 ([FnV.mk (.func F_rule_pair_1) #[] #[.pointer (some ⟨b_1_1, 0, none⟩), .pointer (some ⟨b_1_2, 0, none⟩)], FnV.mk (.func F_rule_premises_1) #[] #[.pointer (some ⟨b_1_3, 0, none⟩)]]), oB b_1_1 T_int [.int .i64 a1_0], oB b_1_2 T_int [.int .i64 a1_1], oB b_1_3 T_Nd (Nd.C a1_2)] := back _ _ _ _ S2 rfl
  clear back S2 SB8
  refine wd (does_mv_t rfl) ?_
  refine wd (does_extract rfl rfl) ?_
  refine wd (does_extract rfl rfl) ?_
  refine wd (does_as_i rfl) ?_
  refine wd (does_as_i rfl) ?_
  refine wl_nil ?_
  refine wc_seq (wc_seq (wc_region ?_))
  refine wd (does_mv_i rfl) ?_
  refine wd (does_ne rfl rfl) ?_
  refine wl_nil ?_
  refine wc_if rfl (fun hc9 => ?_) (fun hc9 => ?_)
  · replace H := if_t hc9 H
    refine wc_seq (wc_region ?_)
    refine wd (does_mv_i rfl) ?_
    refine wd (does_as_nil) ?_
    refine wd (does_as_i rfl) ?_
    refine wl_nil ?_
    refine wc_ret ?_
    replace S : St A N w w7 [oS T_int 1 IC SlV.nil ([] : List Int), oT a_0 r6.1] [fS 1 IC SlV.nil ([]), fS 1 FC s_1 ([FnV.mk (.func F_rule_pair_1) #[] #[.pointer (some ⟨b_1_1, 0, none⟩), .pointer (some ⟨b_1_2, 0, none⟩)], FnV.mk (.func F_rule_premises_1) #[] #[.pointer (some ⟨b_1_3, 0, none⟩)]]), oB b_1_1 T_int [.int .i64 a1_0], oB b_1_2 T_int [.int .i64 a1_1], oB b_1_3 T_Nd (Nd.C a1_2)] := S.nil T_int 1 IC
    refine ⟨_, (rets2 (retOne_tmp rfl) (retOne_tmp rfl)), ?_⟩
    replace S : St A N w w7 [oT a_0 r6.1, oS T_int 1 IC SlV.nil ([] : List Int)] [] := S.arr [1, 0] []
    obtain rfl := Option.some.inj H
    exact ⟨SlV.nil, rfl, S⟩
  replace H := if_f hc9 H
  refine wc_skip ?_
  refine wc_region ?_
  refine wd (does_mv_l rfl) ?_
  refine wd (does_mv_i rfl) ?_
  refine wl_lits (C := IC) (l := [r6.2.1]) (vs := [.int .i64 r6.2.1]) sl_L_int el_int.zero rfl rfl (fun _ _ => rfl) (by decide) rfl (by decide) fun b11 w10 s12 hBw10 hw10 => ?_
  replace S : St A N w w10 [oS T_int 1 IC s12 ([r6.2.1]), oT a_0 r6.1] [fS 1 IC SlV.nil ([]), fS 1 FC s_1 ([FnV.mk (.func F_rule_pair_1) #[] #[.pointer (some ⟨b_1_1, 0, none⟩), .pointer (some ⟨b_1_2, 0, none⟩)], FnV.mk (.func F_rule_premises_1) #[] #[.pointer (some ⟨b_1_3, 0, none⟩)]]), oB b_1_1 T_int [.int .i64 a1_0], oB b_1_2 T_int [.int .i64 a1_1], oB b_1_3 T_Nd (Nd.C a1_2)] := S.lit hBw10 hw10 (by simp)
  replace S : St A N w w10 [oS T_int 1 IC SlV.nil ([] : List Int), oS T_int 1 IC s12 ([r6.2.1]), oT a_0 r6.1] [fS 1 IC SlV.nil ([]), fS 1 FC s_1 ([FnV.mk (.func F_rule_pair_1) #[] #[.pointer (some ⟨b_1_1, 0, none⟩), .pointer (some ⟨b_1_2, 0, none⟩)], FnV.mk (.func F_rule_premises_1) #[] #[.pointer (some ⟨b_1_3, 0, none⟩)]]), oB b_1_1 T_int [.int .i64 a1_0], oB b_1_2 T_int [.int .i64 a1_1], oB b_1_3 T_Nd (Nd.C a1_2)] := S.nil T_int 1 IC
  obtain ⟨ha15, H⟩ := chk_ex H
  have ha15 := of_decide_eq_true ha15
  refine wl_appends (C := IC) sl_L_int el_int rfl rfl (S.sl 0) (S.rdO 1) (by simp) (fun a _ v hv => by rw [List.mem_singleton.1 hv]; rfl) ha15 (by omega) (by decide) fun s14 w13 O hw13 gw13 => ?_
  replace S : St A N w w13 [oS T_int 1 IC s14 (([] : List Int) ++ [r6.2.1]), oS T_int 1 IC s12 ([r6.2.1]), oT a_0 r6.1] [fS 1 IC SlV.nil ([]), fS 1 FC s_1 ([FnV.mk (.func F_rule_pair_1) #[] #[.pointer (some ⟨b_1_1, 0, none⟩), .pointer (some ⟨b_1_2, 0, none⟩)], FnV.mk (.func F_rule_premises_1) #[] #[.pointer (some ⟨b_1_3, 0, none⟩)]]), oB b_1_1 T_int [.int .i64 a1_0], oB b_1_2 T_int [.int .i64 a1_1], oB b_1_3 T_Nd (Nd.C a1_2)] := S.push 0 O (by first | (simp; done) | (simp; omega)) hw13 gw13
  clear O
  refine wd (does_as_l rfl) ?_
  refine wl_nil ?_
  refine wc_region ?_
  refine wd (does_addc rfl rfl (c := 1) rfl (by decide) (by decide)) ?_
  refine wd (does_mv_i rfl) ?_
  refine wl_nil ?_
  refine ⟨rfl, ?_⟩
  refine rounds_s ?_
  refine wc_seq (wc_region ?_)
  refine wd (does_lt rfl rfl) ?_
  refine wl_nil ?_
  refine wc_seq ?_
  refine wc_true rfl ?_
  refine wc_skip ?_
  refine wc_seq ?_
  refine wc_block ?_
  refine wc_seq (wc_region ?_)
  refine wd (does_indexR sl_L_func_L_int_int_int rfl rfl (S.rd 1) (by decide) (by simp)) ?_
  refine wd (does_load on_func_L_int_int_int rfl ((S.rd 1).one (at_some FnV.nil (And.intro (by decide) (by simp))) rfl)) ?_
  refine wd (does_as_f rfl) ?_
  refine wl_nil ?_
  refine wc_seq (wc_region ?_)
  refine wd (does_mv_f rfl) ?_
  refine wd (does_mv_l rfl) ?_
  obtain ⟨r18, er18, H⟩ := bind_ex H
  obtain ⟨B20, MB20, SB20, back⟩ := S.calln 0 ((.s 0 rfl (.z 4 rfl .nil)))
  refine wl_call (does_callv ca_rule_premises_1 rfl) (by decide) (rule_premises_1_st SB20 er18) ?_
  rintro _ w19 ⟨rfl, S2⟩
  replace S : St A N w w19 [oS T_int 1 IC s14 (([] : List Int) ++ [r6.2.1]), oS T_int 1 IC s12 ([r6.2.1]), oT a_0 r6.1] [fS 1 IC SlV.nil ([]), fS 1 FC s_1 ([FnV.mk (.func F_rule_pair_1) #[] #[.pointer (some ⟨b_1_1, 0, none⟩), .pointer (some ⟨b_1_2, 0, none⟩)], FnV.mk (.func F_rule_premises_1) #[] #[.pointer (some ⟨b_1_3, 0, none⟩)]]), oB b_1_1 T_int [.int .i64 a1_0], oB b_1_2 T_int [.int .i64 a1_1], oB b_1_3 T_Nd (Nd.C a1_2)] := back _ _ _ _ S2 rfl
  clear back S2 SB20
  refine wd (does_mv_t rfl) ?_
  refine wd (does_extract rfl rfl) ?_
  refine wd (does_extract rfl rfl) ?_
  refine wd (does_as_i rfl) ?_
  refine wd (does_as_i rfl) ?_
  refine wl_nil ?_
  refine wc_seq (wc_region ?_)
  refine wd (does_mv_p rfl) ?_
  refine wd (does_mv_i rfl) ?_
  refine wd (does_mv_i rfl) ?_
  obtain ⟨r21, er21, H⟩ := bind_ex H
  replace S : St A N w w19 [oT a_0 r6.1, oS T_int 1 IC s14 (([] : List Int) ++ [r6.2.1]), oS T_int 1 IC s12 ([r6.2.1])] [fS 1 IC SlV.nil ([]), fS 1 FC s_1 ([FnV.mk (.func F_rule_pair_1) #[] #[.pointer (some ⟨b_1_1, 0, none⟩), .pointer (some ⟨b_1_2, 0, none⟩)], FnV.mk (.func F_rule_premises_1) #[] #[.pointer (some ⟨b_1_3, 0, none⟩)]]), oB b_1_1 T_int [.int .i64 a1_0], oB b_1_2 T_int [.int .i64 a1_1], oB b_1_3 T_Nd (Nd.C a1_2)] := S.front 2
  obtain ⟨B23, MB23, SB23, back⟩ := S.calln 1 ((.nil))
  refine wl_call (does_call ca_formula_Table_Imp) (by decide) (formula_Table_Imp_st SB23 er21) ?_
  rintro _ w22 ⟨rfl, S2⟩
  replace S : St A N w w22 [oT a_0 r21.1, oS T_int 1 IC s14 (([] : List Int) ++ [r6.2.1]), oS T_int 1 IC s12 ([r6.2.1])] [fS 1 IC SlV.nil ([]), fS 1 FC s_1 ([FnV.mk (.func F_rule_pair_1) #[] #[.pointer (some ⟨b_1_1, 0, none⟩), .pointer (some ⟨b_1_2, 0, none⟩)], FnV.mk (.func F_rule_premises_1) #[] #[.pointer (some ⟨b_1_3, 0, none⟩)]]), oB b_1_1 T_int [.int .i64 a1_0], oB b_1_2 T_int [.int .i64 a1_1], oB b_1_3 T_Nd (Nd.C a1_2)] := back _ _ _ _ S2 rfl
  clear back S2 SB23
  refine wd (does_mv_t rfl) ?_
  refine wd (does_extract rfl rfl) ?_
  refine wd (does_extract rfl rfl) ?_
  refine wd (does_as_i rfl) ?_
  refine wd (does_as_i rfl) ?_
  refine wl_nil ?_
  refine wc_seq (wc_seq (wc_region ?_))
  refine wd (does_mv_i rfl) ?_
  refine wd (does_ne rfl rfl) ?_
  refine wl_nil ?_
  refine wc_if rfl (fun hc24 => ?_) (fun hc24 => ?_)
  · replace H := if_t hc24 H
    refine wc_seq (wc_region ?_)
    refine wd (does_mv_i rfl) ?_
    refine wd (does_as_nil) ?_
    refine wd (does_as_i rfl) ?_
    refine wl_nil ?_
    refine wc_ret ?_
    replace S : St A N w w22 [oS T_int 1 IC SlV.nil ([] : List Int), oT a_0 r21.1, oS T_int 1 IC s14 (([] : List Int) ++ [r6.2.1]), oS T_int 1 IC s12 ([r6.2.1])] [fS 1 IC SlV.nil ([]), fS 1 FC s_1 ([FnV.mk (.func F_rule_pair_1) #[] #[.pointer (some ⟨b_1_1, 0, none⟩), .pointer (some ⟨b_1_2, 0, none⟩)], FnV.mk (.func F_rule_premises_1) #[] #[.pointer (some ⟨b_1_3, 0, none⟩)]]), oB b_1_1 T_int [.int .i64 a1_0], oB b_1_2 T_int [.int .i64 a1_1], oB b_1_3 T_Nd (Nd.C a1_2)] := S.nil T_int 1 IC
    refine ⟨_, (rets2 (retOne_tmp rfl) (retOne_tmp rfl)), ?_⟩
    replace S : St A N w w22 [oT a_0 r21.1, oS T_int 1 IC SlV.nil ([] : List Int)] [] := S.arr [1, 0] []
    obtain rfl := Option.some.inj H
    exact ⟨SlV.nil, rfl, S⟩
  replace H := if_f hc24 H
  refine wc_skip ?_
  refine wc_region ?_
  refine wd (does_mv_l rfl) ?_
  refine wd (does_mv_i rfl) ?_
  refine wl_lits (C := IC) (l := [r21.2.1]) (vs := [.int .i64 r21.2.1]) sl_L_int el_int.zero rfl rfl (fun _ _ => rfl) (by decide) rfl (by decide) fun b26 w25 s27 hBw25 hw25 => ?_
  replace S : St A N w w25 [oS T_int 1 IC s27 ([r21.2.1]), oT a_0 r21.1, oS T_int 1 IC s14 (([] : List Int) ++ [r6.2.1]), oS T_int 1 IC s12 ([r6.2.1])] [fS 1 IC SlV.nil ([]), fS 1 FC s_1 ([FnV.mk (.func F_rule_pair_1) #[] #[.pointer (some ⟨b_1_1, 0, none⟩), .pointer (some ⟨b_1_2, 0, none⟩)], FnV.mk (.func F_rule_premises_1) #[] #[.pointer (some ⟨b_1_3, 0, none⟩)]]), oB b_1_1 T_int [.int .i64 a1_0], oB b_1_2 T_int [.int .i64 a1_1], oB b_1_3 T_Nd (Nd.C a1_2)] := S.lit hBw25 hw25 (by simp)
  obtain ⟨ha30, H⟩ := chk_ex H
  have ha30 := of_decide_eq_true ha30
  refine wl_appends (C := IC) sl_L_int el_int rfl rfl (S.sl 2) (S.rdO 0) (by simp) (fun a _ v hv => by rw [List.mem_singleton.1 hv]; rfl) ha30 (by omega) (by decide) fun s29 w28 O hw28 gw28 => ?_
  replace S : St A N w w28 [oS T_int 1 IC s29 ((([] : List Int) ++ [r6.2.1]) ++ [r21.2.1]), oS T_int 1 IC s27 ([r21.2.1]), oT a_0 r21.1, oS T_int 1 IC s12 ([r6.2.1])] [fS 1 IC SlV.nil ([]), fS 1 FC s_1 ([FnV.mk (.func F_rule_pair_1) #[] #[.pointer (some ⟨b_1_1, 0, none⟩), .pointer (some ⟨b_1_2, 0, none⟩)], FnV.mk (.func F_rule_premises_1) #[] #[.pointer (some ⟨b_1_3, 0, none⟩)]]), oB b_1_1 T_int [.int .i64 a1_0], oB b_1_2 T_int [.int .i64 a1_1], oB b_1_3 T_Nd (Nd.C a1_2)] := S.push 2 O (by first | (simp; done) | (simp; omega)) hw28 gw28
  clear O
  refine wd (does_as_l rfl) ?_
  refine wl_nil ?_
  refine wc_region ?_
  refine wd (does_addc rfl rfl (c := 2) rfl (by decide) (by decide)) ?_
  refine wd (does_mv_i rfl) ?_
  refine wl_nil ?_
  refine ⟨rfl, ?_⟩
  refine rounds_s ?_
  refine wc_seq (wc_region ?_)
  refine wd (does_lt rfl rfl) ?_
  refine wl_nil ?_
  refine wc_seq ?_
  refine wc_false rfl ?_
  refine wc_exit ?_
  refine wc_seq (wc_region ?_)
  refine wd (does_mv_l rfl) ?_
  refine wd (does_as_l rfl) ?_
  refine wd (does_as_i rfl) ?_
  refine wl_nil ?_
  refine wc_ret ?_
  refine ⟨_, (rets2 (retOne_tmp rfl) (retOne_tmp rfl)), ?_⟩
  replace S : St A N w w28 [oT a_0 r21.1, oS T_int 1 IC s29 ((([] : List Int) ++ [r6.2.1]) ++ [r21.2.1])] [] := S.arr [2, 0] []
  obtain rfl := Option.some.inj H
  exact ⟨s29, rfl, S⟩
theorem rule_imps__rule_pair_1__rule_pair_1_st {A : Nat → Prop} {N : Oth} {w : World} {a0 : Tb} {a_0 : Option Addr} {a1_0 : Int} {a1_1 : Int} {a1_2 : Int} {a1_3 : Int} {s_1 : SlV} {b_1_1 : Nat} {b_1_2 : Nat} {b_1_3 : Nat} {b_1_4 : Nat} (S : St A N w w [oT a_0 a0] [fS 1 FC s_1 ([FnV.mk (.func F_rule_pair_1) #[] #[.pointer (some ⟨b_1_1, 0, none⟩), .pointer (some ⟨b_1_2, 0, none⟩)], FnV.mk (.func F_rule_pair_1) #[] #[.pointer (some ⟨b_1_3, 0, none⟩), .pointer (some ⟨b_1_4, 0, none⟩)]]), oB b_1_1 T_int [.int .i64 a1_0], oB b_1_2 T_int [.int .i64 a1_1], oB b_1_3 T_int [.int .i64 a1_2], oB b_1_4 T_int [.int .i64 a1_3]]) {r : Tb × List Int × Int} (H : rule_imps__rule_pair_1__rule_pair_1.f a0 a1_0 a1_1 a1_2 a1_3 = some r) :
    Calls PP F_rule_imps #[.pointer a_0, s_1.v] w fun e w' => ∃ v, e = .returned v ∧ (∃ so0 : SlV, v = .tuple #[so0.v, .int .i64 r.2.2] ∧ St A N w w' [oT a_0 r.1, oS T_int 1 IC so0 r.2.1] []) := by
  unfold rule_imps__rule_pair_1__rule_pair_1.f at H
  refine calls_of_wc (n := 41) fn_rule_imps rfl rfl (by simp) ?_
  refine wc_seq (wc_region ?_)
  refine wd (does_as_nil) ?_
  refine wd (does_as_i rfl) ?_
  refine wl_nil ?_
  refine wc_seq (wc_region ?_)
  refine wd (does_as_nil) ?_
  refine wl_nil ?_
  refine wc_seq (wc_seq (wc_region ?_))
  refine wd (does_mv_l rfl) ?_
  refine wd (does_lenR sl_L_func_L_int_int_int rfl (S.rd 0)) ?_
  refine wd (does_mv_i rfl) ?_
  refine wl_nil ?_
  refine wc_block ?_
  refine wc_rounds 3 ?_
  refine rounds_s ?_
  refine wc_seq (wc_region ?_)
  refine wd (does_lt rfl rfl) ?_
  refine wl_nil ?_
  refine wc_seq ?_
  refine wc_true rfl ?_
  refine wc_skip ?_
  refine wc_seq ?_
  refine wc_block ?_
  refine wc_seq (wc_region ?_)
  refine wd (does_indexR sl_L_func_L_int_int_int rfl rfl (S.rd 0) (by decide) (by simp)) ?_
  refine wd (does_load on_func_L_int_int_int rfl ((S.rd 0).one (at_some FnV.nil (And.intro (by decide) (by simp))) rfl)) ?_
  refine wd (does_as_f rfl) ?_
  refine wl_nil ?_
  refine wc_seq (wc_region ?_)
  refine wd (does_mv_f rfl) ?_
  refine wd (does_mv_l rfl) ?_
  replace S : St A N w w [oT a_0 a0] [fS 1 IC SlV.nil ([]), fS 1 FC s_1 ([FnV.mk (.func F_rule_pair_1) #[] #[.pointer (some ⟨b_1_1, 0, none⟩), .pointer (some ⟨b_1_2, 0, none⟩)], FnV.mk (.func F_rule_pair_1) #[] #[.pointer (some ⟨b_1_3, 0, none⟩), .pointer (some ⟨b_1_4, 0, none⟩)]]), oB b_1_1 T_int [.int .i64 a1_0], oB b_1_2 T_int [.int .i64 a1_1], oB b_1_3 T_int [.int .i64 a1_2], oB b_1_4 T_int [.int .i64 a1_3]] := S.nilZ 1 IC
  obtain ⟨r3, er3, H⟩ := bind_ex H
  obtain ⟨B5, MB5, SB5, back⟩ := S.calln 0 ((.z 0 rfl (.z 2 rfl (.z 3 rfl .nil))))
  refine wl_call (does_callv ca_rule_pair_1 rfl) (by decide) (rule_pair_1_st SB5 er3) ?_
  rintro _ w4 ⟨rfl, S2⟩
  replace S : St A N w w4 [oT a_0 a0] [fS 1 IC SlV.nil ([]), fS 1 FC s_1 ([FnV.mk (.func F_rule_pair_1) #[] #[.pointer (some ⟨b_1_1, 0, none⟩), .pointer (some ⟨b_1_2, 0, none⟩)], FnV.mk (.func F_rule_pair_1) #[] #[.pointer (some ⟨b_1_3, 0, none⟩), .pointer (some ⟨b_1_4, 0, none⟩)]]), oB b_1_1 T_int [.int .i64 a1_0], oB b_1_2 T_int [.int .i64 a1_1], oB b_1_3 T_int [.int .i64 a1_2], oB b_1_4 T_int [.int .i64 a1_3]] := back _ _ _ _ S2 rfl
  clear back S2 SB5
  refine wd (does_mv_t rfl) ?_
  refine wd (does_extract rfl rfl) ?_
  refine wd (does_extract rfl rfl) ?_
  refine wd (does_as_i rfl) ?_
  refine wd (does_as_i rfl) ?_
  refine wl_nil ?_
  refine wc_seq (wc_region ?_)
  refine wd (does_mv_p rfl) ?_
  refine wd (does_mv_i rfl) ?_
  refine wd (does_mv_i rfl) ?_
  obtain ⟨r6, er6, H⟩ := bind_ex H
  obtain ⟨B8, MB8, SB8, back⟩ := S.calln 1 ((.nil))
  refine wl_call (does_call ca_formula_Table_Imp) (by decide) (formula_Table_Imp_st SB8 er6) ?_
  rintro _ w7 ⟨rfl, S2⟩
  replace S : St A N w w7 [oT a_0 r6.1] [fS 1 IC SlV.nil ([]), fS 1 FC s_1 ([FnV.mk (.func F_rule_pair_1) #[] #[.pointer (some ⟨b_1_1, 0, none⟩), .pointer (some ⟨b_1_2, 0, none⟩)], FnV.mk (.func F_rule_pair_1) #[] #[.pointer (some ⟨b_1_3, 0, none⟩), .pointer (some ⟨b_1_4, 0, none⟩)]]), oB b_1_1 T_int [.int .i64 a1_0], oB b_1_2 T_int [.int .i64 a1_1], oB b_1_3 T_int [.int .i64 a1_2], oB b_1_4 T_int [.int .i64 a1_3]] := back _ _ _ _ S2 rfl
  clear back S2 SB8
  refine wd (does_mv_t rfl) ?_
  refine wd (does_extract rfl rfl) ?_
  refine wd (does_extract rfl rfl) ?_
  refine wd (does_as_i rfl) ?_
  refine wd (does_as_i rfl) ?_
  refine wl_nil ?_
  refine wc_seq (wc_seq (wc_region ?_))
  refine wd (does_mv_i rfl) ?_
  refine wd (does_ne rfl rfl) ?_
  refine wl_nil ?_
  refine wc_if rfl (fun hc9 => ?_) (fun hc9 => ?_)
  · replace H := if_t hc9 H
    refine wc_seq (wc_region ?_)
    refine wd (does_mv_i rfl) ?_
    refine wd (does_as_nil) ?_
    refine wd (does_as_i rfl) ?_
    refine wl_nil ?_
    refine wc_ret ?_
    replace S : St A N w w7 [oS T_int 1 IC SlV.nil ([] : List Int), oT a_0 r6.1] [fS 1 IC SlV.nil ([]), fS 1 FC s_1 ([FnV.mk (.func F_rule_pair_1) #[] #[.pointer (some ⟨b_1_1, 0, none⟩), .pointer (some ⟨b_1_2, 0, none⟩)], FnV.mk (.func F_rule_pair_1) #[] #[.pointer (some ⟨b_1_3, 0, none⟩), .pointer (some ⟨b_1_4, 0, none⟩)]]), oB b_1_1 T_int [.int .i64 a1_0], oB b_1_2 T_int [.int .i64 a1_1], oB b_1_3 T_int [.int .i64 a1_2], oB b_1_4 T_int [.int .i64 a1_3]] := S.nil T_int 1 IC
    refine ⟨_, (rets2 (retOne_tmp rfl) (retOne_tmp rfl)), ?_⟩
    replace S : St A N w w7 [oT a_0 r6.1, oS T_int 1 IC SlV.nil ([] : List Int)] [] := S.arr [1, 0] []
    obtain rfl := Option.some.inj H
    exact ⟨SlV.nil, rfl, S⟩
  replace H := if_f hc9 H
  refine wc_skip ?_
  refine wc_region ?_
  refine wd (does_mv_l rfl) ?_
  refine wd (does_mv_i rfl) ?_
  refine wl_lits (C := IC) (l := [r6.2.1]) (vs := [.int .i64 r6.2.1]) sl_L_int el_int.zero rfl rfl (fun _ _ => rfl) (by decide) rfl (by decide) fun b11 w10 s12 hBw10 hw10 => ?_
  replace S : St A N w w10 [oS T_int 1 IC s12 ([r6.2.1]), oT a_0 r6.1] [fS 1 IC SlV.nil ([]), fS 1 FC s_1 ([FnV.mk (.func F_rule_pair_1) #[] #[.pointer (some ⟨b_1_1, 0, none⟩), .pointer (some ⟨b_1_2, 0, none⟩)], FnV.mk (.func F_rule_pair_1) #[] #[.pointer (some ⟨b_1_3, 0, none⟩), .pointer (some ⟨b_1_4, 0, none⟩)]]), oB b_1_1 T_int [.int .i64 a1_0], oB b_1_2 T_int [.int .i64 a1_1], oB b_1_3 T_int [.int .i64 a1_2], oB b_1_4 T_int [.int .i64 a1_3]] := S.lit hBw10 hw10 (by simp)
  replace S : St A N w w10 [oS T_int 1 IC SlV.nil ([] : List Int), oS T_int 1 IC s12 ([r6.2.1]), oT a_0 r6.1] [fS 1 IC SlV.nil ([]), fS 1 FC s_1 ([FnV.mk (.func F_rule_pair_1) #[] #[.pointer (some ⟨b_1_1, 0, none⟩), .pointer (some ⟨b_1_2, 0, none⟩)], FnV.mk (.func F_rule_pair_1) #[] #[.pointer (some ⟨b_1_3, 0, none⟩), .pointer (some ⟨b_1_4, 0, none⟩)]]), oB b_1_1 T_int [.int .i64 a1_0], oB b_1_2 T_int [.int .i64 a1_1], oB b_1_3 T_int [.int .i64 a1_2], oB b_1_4 T_int [.int .i64 a1_3]] := S.nil T_int 1 IC
  obtain ⟨ha15, H⟩ := chk_ex H
  have ha15 := of_decide_eq_true ha15
  refine wl_appends (C := IC) sl_L_int el_int rfl rfl (S.sl 0) (S.rdO 1) (by simp) (fun a _ v hv => by rw [List.mem_singleton.1 hv]; rfl) ha15 (by omega) (by decide) fun s14 w13 O hw13 gw13 => ?_
  replace S : St A N w w13 [oS T_int 1 IC s14 (([] : List Int) ++ [r6.2.1]), oS T_int 1 IC s12 ([r6.2.1]), oT a_0 r6.1] [fS 1 IC SlV.nil ([]), fS 1 FC s_1 ([FnV.mk (.func F_rule_pair_1) #[] #[.pointer (some ⟨b_1_1, 0, none⟩), .pointer (some ⟨b_1_2, 0, none⟩)], FnV.mk (.func F_rule_pair_1) #[] #[.pointer (some ⟨b_1_3, 0, none⟩), .pointer (some ⟨b_1_4, 0, none⟩)]]), oB b_1_1 T_int [.int .i64 a1_0], oB b_1_2 T_int [.int .i64 a1_1], oB b_1_3 T_int [.int .i64 a1_2], oB b_1_4 T_int [.int .i64 a1_3]] := S.push 0 O (by first | (simp; done) | (simp; omega)) hw13 gw13
  clear O
  refine wd (does_as_l rfl) ?_
  refine wl_nil ?_
  refine wc_region ?_
  refine wd (does_addc rfl rfl (c := 1) rfl (by decide) (by decide)) ?_
  refine wd (does_mv_i rfl) ?_
  refine wl_nil ?_
  refine ⟨rfl, ?_⟩
  refine rounds_s ?_
  refine wc_seq (wc_region ?_)
  refine wd (does_lt rfl rfl) ?_
  refine wl_nil ?_
  refine wc_seq ?_
  refine wc_true rfl ?_
  refine wc_skip ?_
  refine wc_seq ?_
  refine wc_block ?_
  refine wc_seq (wc_region ?_)
  refine wd (does_indexR sl_L_func_L_int_int_int rfl rfl (S.rd 1) (by decide) (by simp)) ?_
  refine wd (does_load on_func_L_int_int_int rfl ((S.rd 1).one (at_some FnV.nil (And.intro (by decide) (by simp))) rfl)) ?_
  refine wd (does_as_f rfl) ?_
  refine wl_nil ?_
  refine wc_seq (wc_region ?_)
  refine wd (does_mv_f rfl) ?_
  refine wd (does_mv_l rfl) ?_
  obtain ⟨r18, er18, H⟩ := bind_ex H
  obtain ⟨B20, MB20, SB20, back⟩ := S.calln 0 ((.s 0 rfl (.z 4 rfl (.z 5 rfl .nil))))
  refine wl_call (does_callv ca_rule_pair_1 rfl) (by decide) (rule_pair_1_st SB20 er18) ?_
  rintro _ w19 ⟨rfl, S2⟩
  replace S : St A N w w19 [oS T_int 1 IC s14 (([] : List Int) ++ [r6.2.1]), oS T_int 1 IC s12 ([r6.2.1]), oT a_0 r6.1] [fS 1 IC SlV.nil ([]), fS 1 FC s_1 ([FnV.mk (.func F_rule_pair_1) #[] #[.pointer (some ⟨b_1_1, 0, none⟩), .pointer (some ⟨b_1_2, 0, none⟩)], FnV.mk (.func F_rule_pair_1) #[] #[.pointer (some ⟨b_1_3, 0, none⟩), .pointer (some ⟨b_1_4, 0, none⟩)]]), oB b_1_1 T_int [.int .i64 a1_0], oB b_1_2 T_int [.int .i64 a1_1], oB b_1_3 T_int [.int .i64 a1_2], oB b_1_4 T_int [.int .i64 a1_3]] := back _ _ _ _ S2 rfl
  clear back S2 SB20
  refine wd (does_mv_t rfl) ?_
  refine wd (does_extract rfl rfl) ?_
  refine wd (does_extract rfl rfl) ?_
  refine wd (does_as_i rfl) ?_
  refine wd (does_as_i rfl) ?_
  refine wl_nil ?_
  refine wc_seq (wc_region ?_)
  refine wd (does_mv_p rfl) ?_
  refine wd (does_mv_i rfl) ?_
  refine wd (does_mv_i rfl) ?_
  obtain ⟨r21, er21, H⟩ := bind_ex H
  replace S : St A N w w19 [oT a_0 r6.1, oS T_int 1 IC s14 (([] : List Int) ++ [r6.2.1]), oS T_int 1 IC s12 ([r6.2.1])] [fS 1 IC SlV.nil ([]), fS 1 FC s_1 ([FnV.mk (.func F_rule_pair_1) #[] #[.pointer (some ⟨b_1_1, 0, none⟩), .pointer (some ⟨b_1_2, 0, none⟩)], FnV.mk (.func F_rule_pair_1) #[] #[.pointer (some ⟨b_1_3, 0, none⟩), .pointer (some ⟨b_1_4, 0, none⟩)]]), oB b_1_1 T_int [.int .i64 a1_0], oB b_1_2 T_int [.int .i64 a1_1], oB b_1_3 T_int [.int .i64 a1_2], oB b_1_4 T_int [.int .i64 a1_3]] := S.front 2
  obtain ⟨B23, MB23, SB23, back⟩ := S.calln 1 ((.nil))
  refine wl_call (does_call ca_formula_Table_Imp) (by decide) (formula_Table_Imp_st SB23 er21) ?_
  rintro _ w22 ⟨rfl, S2⟩
  replace S : St A N w w22 [oT a_0 r21.1, oS T_int 1 IC s14 (([] : List Int) ++ [r6.2.1]), oS T_int 1 IC s12 ([r6.2.1])] [fS 1 IC SlV.nil ([]), fS 1 FC s_1 ([FnV.mk (.func F_rule_pair_1) #[] #[.pointer (some ⟨b_1_1, 0, none⟩), .pointer (some ⟨b_1_2, 0, none⟩)], FnV.mk (.func F_rule_pair_1) #[] #[.pointer (some ⟨b_1_3, 0, none⟩), .pointer (some ⟨b_1_4, 0, none⟩)]]), oB b_1_1 T_int [.int .i64 a1_0], oB b_1_2 T_int [.int .i64 a1_1], oB b_1_3 T_int [.int .i64 a1_2], oB b_1_4 T_int [.int .i64 a1_3]] := back _ _ _ _ S2 rfl
  clear back S2 SB23
  refine wd (does_mv_t rfl) ?_
  refine wd (does_extract rfl rfl) ?_
  refine wd (does_extract rfl rfl) ?_
  refine wd (does_as_i rfl) ?_
  refine wd (does_as_i rfl) ?_
  refine wl_nil ?_
  refine wc_seq (wc_seq (wc_region ?_))
  refine wd (does_mv_i rfl) ?_
  refine wd (does_ne rfl rfl) ?_
  refine wl_nil ?_
  refine wc_if rfl (fun hc24 => ?_) (fun hc24 => ?_)
  · replace H := if_t hc24 H
    refine wc_seq (wc_region ?_)
    refine wd (does_mv_i rfl) ?_
    refine wd (does_as_nil) ?_
    refine wd (does_as_i rfl) ?_
    refine wl_nil ?_
    refine wc_ret ?_
    replace S : St A N w w22 [oS T_int 1 IC SlV.nil ([] : List Int), oT a_0 r21.1, oS T_int 1 IC s14 (([] : List Int) ++ [r6.2.1]), oS T_int 1 IC s12 ([r6.2.1])] [fS 1 IC SlV.nil ([]), fS 1 FC s_1 ([FnV.mk (.func F_rule_pair_1) #[] #[.pointer (some ⟨b_1_1, 0, none⟩), .pointer (some ⟨b_1_2, 0, none⟩)], FnV.mk (.func F_rule_pair_1) #[] #[.pointer (some ⟨b_1_3, 0, none⟩), .pointer (some ⟨b_1_4, 0, none⟩)]]), oB b_1_1 T_int [.int .i64 a1_0], oB b_1_2 T_int [.int .i64 a1_1], oB b_1_3 T_int [.int .i64 a1_2], oB b_1_4 T_int [.int .i64 a1_3]] := S.nil T_int 1 IC
    refine ⟨_, (rets2 (retOne_tmp rfl) (retOne_tmp rfl)), ?_⟩
    replace S : St A N w w22 [oT a_0 r21.1, oS T_int 1 IC SlV.nil ([] : List Int)] [] := S.arr [1, 0] []
    obtain rfl := Option.some.inj H
    exact ⟨SlV.nil, rfl, S⟩
  replace H := if_f hc24 H
  refine wc_skip ?_
  refine wc_region ?_
  refine wd (does_mv_l rfl) ?_
  refine wd (does_mv_i rfl) ?_
  refine wl_lits (C := IC) (l := [r21.2.1]) (vs := [.int .i64 r21.2.1]) sl_L_int el_int.zero rfl rfl (fun _ _ => rfl) (by decide) rfl (by decide) fun b26 w25 s27 hBw25 hw25 => ?_
  replace S : St A N w w25 [oS T_int 1 IC s27 ([r21.2.1]), oT a_0 r21.1, oS T_int 1 IC s14 (([] : List Int) ++ [r6.2.1]), oS T_int 1 IC s12 ([r6.2.1])] [fS 1 IC SlV.nil ([]), fS 1 FC s_1 ([FnV.mk (.func F_rule_pair_1) #[] #[.pointer (some ⟨b_1_1, 0, none⟩), .pointer (some ⟨b_1_2, 0, none⟩)], FnV.mk (.func F_rule_pair_1) #[] #[.pointer (some ⟨b_1_3, 0, none⟩), .pointer (some ⟨b_1_4, 0, none⟩)]]), oB b_1_1 T_int [.int .i64 a1_0], oB b_1_2 T_int [.int .i64 a1_1], oB b_1_3 T_int [.int .i64 a1_2], oB b_1_4 T_int [.int .i64 a1_3]] := S.lit hBw25 hw25 (by simp)
  obtain ⟨ha30, H⟩ := chk_ex H
  have ha30 := of_decide_eq_true ha30
  refine wl_appends (C := IC) sl_L_int el_int rfl rfl (S.sl 2) (S.rdO 0) (by simp) (fun a _ v hv => by rw [List.mem_singleton.1 hv]; rfl) ha30 (by omega) (by decide) fun s29 w28 O hw28 gw28 => ?_
  replace S : St A N w w28 [oS T_int 1 IC s29 ((([] : List Int) ++ [r6.2.1]) ++ [r21.2.1]), oS T_int 1 IC s27 ([r21.2.1]), oT a_0 r21.1, oS T_int 1 IC s12 ([r6.2.1])] [fS 1 IC SlV.nil ([]), fS 1 FC s_1 ([FnV.mk (.func F_rule_pair_1) #[] #[.pointer (some ⟨b_1_1, 0, none⟩), .pointer (some ⟨b_1_2, 0, none⟩)], FnV.mk (.func F_rule_pair_1) #[] #[.pointer (some ⟨b_1_3, 0, none⟩), .pointer (some ⟨b_1_4, 0, none⟩)]]), oB b_1_1 T_int [.int .i64 a1_0], oB b_1_2 T_int [.int .i64 a1_1], oB b_1_3 T_int [.int .i64 a1_2], oB b_1_4 T_int [.int .i64 a1_3]] := S.push 2 O (by first | (simp; done) | (simp; omega)) hw28 gw28
  clear O
  refine wd (does_as_l rfl) ?_
  refine wl_nil ?_
  refine wc_region ?_
  refine wd (does_addc rfl rfl (c := 2) rfl (by decide) (by decide)) ?_
  refine wd (does_mv_i rfl) ?_
  refine wl_nil ?_
  refine ⟨rfl, ?_⟩
  refine rounds_s ?_
  refine wc_seq (wc_region ?_)
  refine wd (does_lt rfl rfl) ?_
  refine wl_nil ?_
  refine wc_seq ?_
  refine wc_false rfl ?_
  refine wc_exit ?_
  refine wc_seq (wc_region ?_)
  refine wd (does_mv_l rfl) ?_
  refine wd (does_as_l rfl) ?_
  refine wd (does_as_i rfl) ?_
  refine wl_nil ?_
  refine wc_ret ?_
  refine ⟨_, (rets2 (retOne_tmp rfl) (retOne_tmp rfl)), ?_⟩
  replace S : St A N w w28 [oT a_0 r21.1, oS T_int 1 IC s29 ((([] : List Int) ++ [r6.2.1]) ++ [r21.2.1])] [] := S.arr [2, 0] []
  obtain rfl := Option.some.inj H
  exact ⟨s29, rfl, S⟩
theorem rule_imps__rule_pair_1_st {A : Nat → Prop} {N : Oth} {w : World} {a0 : Tb} {a_0 : Option Addr} {a1_0 : Int} {a1_1 : Int} {s_1 : SlV} {b_1_1 : Nat} {b_1_2 : Nat} (S : St A N w w [oT a_0 a0] [fS 1 FC s_1 ([FnV.mk (.func F_rule_pair_1) #[] #[.pointer (some ⟨b_1_1, 0, none⟩), .pointer (some ⟨b_1_2, 0, none⟩)]]), oB b_1_1 T_int [.int .i64 a1_0], oB b_1_2 T_int [.int .i64 a1_1]]) {r : Tb × List Int × Int} (H : rule_imps__rule_pair_1.f a0 a1_0 a1_1 = some r) :
    Calls PP F_rule_imps #[.pointer a_0, s_1.v] w fun e w' => ∃ v, e = .returned v ∧ (∃ so0 : SlV, v = .tuple #[so0.v, .int .i64 r.2.2] ∧ St A N w w' [oT a_0 r.1, oS T_int 1 IC so0 r.2.1] []) := by
  unfold rule_imps__rule_pair_1.f at H
  refine calls_of_wc (n := 41) fn_rule_imps rfl rfl (by simp) ?_
  refine wc_seq (wc_region ?_)
  refine wd (does_as_nil) ?_
  refine wd (does_as_i rfl) ?_
  refine wl_nil ?_
  refine wc_seq (wc_region ?_)
  refine wd (does_as_nil) ?_
  refine wl_nil ?_
  refine wc_seq (wc_seq (wc_region ?_))
  refine wd (does_mv_l rfl) ?_
  refine wd (does_lenR sl_L_func_L_int_int_int rfl (S.rd 0)) ?_
  refine wd (does_mv_i rfl) ?_
  refine wl_nil ?_
  refine wc_block ?_
  refine wc_rounds 2 ?_
  refine rounds_s ?_
  refine wc_seq (wc_region ?_)
  refine wd (does_lt rfl rfl) ?_
  refine wl_nil ?_
  refine wc_seq ?_
  refine wc_true rfl ?_
  refine wc_skip ?_
  refine wc_seq ?_
  refine wc_block ?_
  refine wc_seq (wc_region ?_)
  refine wd (does_indexR sl_L_func_L_int_int_int rfl rfl (S.rd 0) (by decide) (by simp)) ?_
  refine wd (does_load on_func_L_int_int_int rfl ((S.rd 0).one (at_some FnV.nil (And.intro (by decide) (by simp))) rfl)) ?_
  refine wd (does_as_f rfl) ?_
  refine wl_nil ?_
  refine wc_seq (wc_region ?_)
  refine wd (does_mv_f rfl) ?_
  refine wd (does_mv_l rfl) ?_
  replace S : St A N w w [oT a_0 a0] [fS 1 IC SlV.nil ([]), fS 1 FC s_1 ([FnV.mk (.func F_rule_pair_1) #[] #[.pointer (some ⟨b_1_1, 0, none⟩), .pointer (some ⟨b_1_2, 0, none⟩)]]), oB b_1_1 T_int [.int .i64 a1_0], oB b_1_2 T_int [.int .i64 a1_1]] := S.nilZ 1 IC
  obtain ⟨r3, er3, H⟩ := bind_ex H
  obtain ⟨B5, MB5, SB5, back⟩ := S.calln 0 ((.z 0 rfl (.z 2 rfl (.z 3 rfl .nil))))
  refine wl_call (does_callv ca_rule_pair_1 rfl) (by decide) (rule_pair_1_st SB5 er3) ?_
  rintro _ w4 ⟨rfl, S2⟩
  replace S : St A N w w4 [oT a_0 a0] [fS 1 IC SlV.nil ([]), fS 1 FC s_1 ([FnV.mk (.func F_rule_pair_1) #[] #[.pointer (some ⟨b_1_1, 0, none⟩), .pointer (some ⟨b_1_2, 0, none⟩)]]), oB b_1_1 T_int [.int .i64 a1_0], oB b_1_2 T_int [.int .i64 a1_1]] := back _ _ _ _ S2 rfl
  clear back S2 SB5
  refine wd (does_mv_t rfl) ?_
  refine wd (does_extract rfl rfl) ?_
  refine wd (does_extract rfl rfl) ?_
  refine wd (does_as_i rfl) ?_
  refine wd (does_as_i rfl) ?_
  refine wl_nil ?_
  refine wc_seq (wc_region ?_)
  refine wd (does_mv_p rfl) ?_
  refine wd (does_mv_i rfl) ?_
  refine wd (does_mv_i rfl) ?_
  obtain ⟨r6, er6, H⟩ := bind_ex H
  obtain ⟨B8, MB8, SB8, back⟩ := S.calln 1 ((.nil))
  refine wl_call (does_call ca_formula_Table_Imp) (by decide) (formula_Table_Imp_st SB8 er6) ?_
  rintro _ w7 ⟨rfl, S2⟩
  replace S : St A N w w7 [oT a_0 r6.1] [fS 1 IC SlV.nil ([]), fS 1 FC s_1 ([FnV.mk (.func F_rule_pair_1) #[] #[.pointer (some ⟨b_1_1, 0, none⟩), .pointer (some ⟨b_1_2, 0, none⟩)]]), oB b_1_1 T_int [.int .i64 a1_0], oB b_1_2 T_int [.int .i64 a1_1]] := back _ _ _ _ S2 rfl
  clear back S2 SB8
  refine wd (does_mv_t rfl) ?_
  refine wd (does_extract rfl rfl) ?_
  refine wd (does_extract rfl rfl) ?_
  refine wd (does_as_i rfl) ?_
  refine wd (does_as_i rfl) ?_
  refine wl_nil ?_
  refine wc_seq (wc_seq (wc_region ?_))
  refine wd (does_mv_i rfl) ?_
  refine wd (does_ne rfl rfl) ?_
  refine wl_nil ?_
  refine wc_if rfl (fun hc9 => ?_) (fun hc9 => ?_)
  · replace H := if_t hc9 H
    refine wc_seq (wc_region ?_)
    refine wd (does_mv_i rfl) ?_
    refine wd (does_as_nil) ?_
    refine wd (does_as_i rfl) ?_
    refine wl_nil ?_
    refine wc_ret ?_
    replace S : St A N w w7 [oS T_int 1 IC SlV.nil ([] : List Int), oT a_0 r6.1] [fS 1 IC SlV.nil ([]), fS 1 FC s_1 ([FnV.mk (.func F_rule_pair_1) #[] #[.pointer (some ⟨b_1_1, 0, none⟩), .pointer (some ⟨b_1_2, 0, none⟩)]]), oB b_1_1 T_int [.int .i64 a1_0], oB b_1_2 T_int [.int .i64 a1_1]] := S.nil T_int 1 IC
    refine ⟨_, (rets2 (retOne_tmp rfl) (retOne_tmp rfl)), ?_⟩
    replace S : St A N w w7 [oT a_0 r6.1, oS T_int 1 IC SlV.nil ([] : List Int)] [] := S.arr [1, 0] []
    obtain rfl := Option.some.inj H
    exact ⟨SlV.nil, rfl, S⟩
  replace H := if_f hc9 H
  refine wc_skip ?_
  refine wc_region ?_
  refine wd (does_mv_l rfl) ?_
  refine wd (does_mv_i rfl) ?_
  refine wl_lits (C := IC) (l := [r6.2.1]) (vs := [.int .i64 r6.2.1]) sl_L_int el_int.zero rfl rfl (fun _ _ => rfl) (by decide) rfl (by decide) fun b11 w10 s12 hBw10 hw10 => ?_
  replace S : St A N w w10 [oS T_int 1 IC s12 ([r6.2.1]), oT a_0 r6.1] [fS 1 IC SlV.nil ([]), fS 1 FC s_1 ([FnV.mk (.func F_rule_pair_1) #[] #[.pointer (some ⟨b_1_1, 0, none⟩), .pointer (some ⟨b_1_2, 0, none⟩)]]), oB b_1_1 T_int [.int .i64 a1_0], oB b_1_2 T_int [.int .i64 a1_1]] := S.lit hBw10 hw10 (by simp)
  replace S : St A N w w10 [oS T_int 1 IC SlV.nil ([] : List Int), oS T_int 1 IC s12 ([r6.2.1]), oT a_0 r6.1] [fS 1 IC SlV.nil ([]), fS 1 FC s_1 ([FnV.mk (.func F_rule_pair_1) #[] #[.pointer (some ⟨b_1_1, 0, none⟩), .pointer (some ⟨b_1_2, 0, none⟩)]]), oB b_1_1 T_int [.int .i64 a1_0], oB b_1_2 T_int [.int .i64 a1_1]] := S.nil T_int 1 IC
  obtain ⟨ha15, H⟩ := chk_ex H
  have ha15 := of_decide_eq_true ha15
  refine wl_appends (C := IC) sl_L_int el_int rfl rfl (S.sl 0) (S.rdO 1) (by simp) (fun a _ v hv => by rw [List.mem_singleton.1 hv]; rfl) ha15 (by omega) (by decide) fun s14 w13 O hw13 gw13 => ?_
  replace S : St A N w w13 [oS T_int 1 IC s14 (([] : List Int) ++ [r6.2.1]), oS T_int 1 IC s12 ([r6.2.1]), oT a_0 r6.1] [fS 1 IC SlV.nil ([]), fS 1 FC s_1 ([FnV.mk (.func F_rule_pair_1) #[] #[.pointer (some ⟨b_1_1, 0, none⟩), .pointer (some ⟨b_1_2, 0, none⟩)]]), oB b_1_1 T_int [.int .i64 a1_0], oB b_1_2 T_int [.int .i64 a1_1]] := S.push 0 O (by first | (simp; done) | (simp; omega)) hw13 gw13
  clear O
  refine wd (does_as_l rfl) ?_
  refine wl_nil ?_
  refine wc_region ?_
  refine wd (does_addc rfl rfl (c := 1) rfl (by decide) (by decide)) ?_
  refine wd (does_mv_i rfl) ?_
  refine wl_nil ?_
  refine ⟨rfl, ?_⟩
  refine rounds_s ?_
  refine wc_seq (wc_region ?_)
  refine wd (does_lt rfl rfl) ?_
  refine wl_nil ?_
  refine wc_seq ?_
  refine wc_false rfl ?_
  refine wc_exit ?_
  refine wc_seq (wc_region ?_)
  refine wd (does_mv_l rfl) ?_
  refine wd (does_as_l rfl) ?_
  refine wd (does_as_i rfl) ?_
  refine wl_nil ?_
  refine wc_ret ?_
  refine ⟨_, (rets2 (retOne_tmp rfl) (retOne_tmp rfl)), ?_⟩
  replace S : St A N w w13 [oT a_0 r6.1, oS T_int 1 IC s14 (([] : List Int) ++ [r6.2.1])] [] := S.arr [2, 0] []
  obtain rfl := Option.some.inj H
  exact ⟨s14, rfl, S⟩
theorem rule_premises_st {A : Nat → Prop} {N : Oth} {w : World} {a0 : Tb} {a_0 : Option Addr} {a1 : Sq} {a2 : Int} {a3 : Int} (S : St A N w w [oT a_0 a0] []) {r : Tb × List Sq × Int} (H : rule_premises.f a0 a1 a2 a3 = some r) :
    Calls PP F_rule_premises #[.pointer a_0, .agg (Sq.C a1).toArray, .int .i64 a2, .int .i64 a3] w fun e w' => ∃ v, e = .returned v ∧ (∃ so0 : SlV, v = .tuple #[so0.v, .int .i64 r.2.2] ∧ St A N w w' [oT a_0 r.1, oS T_Sq 17 Sq.C so0 r.2.1] []) := by
  unfold rule_premises.f at H
  refine calls_of_wc (n := 181) fn_rule_premises rfl rfl (by simp) ?_
  refine wc_seq (wc_region ?_)
  refine wl_box_agg rfl (by decide) fun b2 w1 hw1 => ?_
  replace S : St A N w w1 [oB b2 T_Sq (Sq.C a1), oT a_0 a0] [] := S.new hw1
  refine wd (does_as_nil) ?_
  refine wd (does_as_i rfl) ?_
  refine wl_nil ?_
  refine wc_seq (wc_region ?_)
  refine wd (does_mv_p rfl) ?_
  refine wd (does_mv_i rfl) ?_
  obtain ⟨r3, er3, H⟩ := bind_ex H
  obtain ⟨B5, MB5, SB5, back⟩ := S.calln 0 ((.o 1 rfl .nil))
  refine wl_call (does_call ca_rule_node) (by decide) (rule_node_st SB5 er3) ?_
  rintro _ w4 ⟨rfl, S2⟩
  replace S : St A N w w4 [oB b2 T_Sq (Sq.C a1), oT a_0 a0] [] := back _ _ _ _ S2 rfl
  clear back S2 SB5
  refine wl_alloc ze_Nd (by decide) fun b7 w6 hw6 => ?_
  replace S : St A N w w6 [oB b7 T_Nd (Nd.C Nd.z), oB b2 T_Sq (Sq.C a1), oT a_0 a0] [] := S.new hw6
  refine wl_store_agg ag_Nd rfl rfl (S.blk 0) (Nd.len _) (by rw [Nd.len]; decide) (Nd.one _) (store_all (Nd.len _)) fun w8 B hw8 zw8 => ?_
  replace S : St A N w w8 [oB b7 T_Nd (Nd.C r3), oB b2 T_Sq (Sq.C a1), oT a_0 a0] [] := S.store 0 B hw8
  clear B
  refine wl_nil ?_
  refine wc_seq (wc_region ?_)
  refine wd (does_mv_p rfl) ?_
  refine wd (does_fieldAddr fl_Nd_l rfl (o' := 2) rfl) ?_
  refine wd (does_load on_int rfl ((S.blk 0).cell (Nd.get_l _))) ?_
  obtain ⟨r9, er9, H⟩ := bind_ex H
  obtain ⟨B11, MB11, SB11, back⟩ := S.calln 0 ((.o 2 rfl .nil))
  refine wl_call (does_call ca_rule_node) (by decide) (rule_node_st SB11 er9) ?_
  rintro _ w10 ⟨rfl, S2⟩
  replace S : St A N w w10 [oB b7 T_Nd (Nd.C r3), oB b2 T_Sq (Sq.C a1), oT a_0 a0] [] := back _ _ _ _ S2 rfl
  clear back S2 SB11
  refine wl_alloc ze_Nd (by decide) fun b13 w12 hw12 => ?_
  replace S : St A N w w12 [oB b13 T_Nd (Nd.C Nd.z), oB b7 T_Nd (Nd.C r3), oB b2 T_Sq (Sq.C a1), oT a_0 a0] [] := S.new hw12
  refine wl_store_agg ag_Nd rfl rfl (S.blk 0) (Nd.len _) (by rw [Nd.len]; decide) (Nd.one _) (store_all (Nd.len _)) fun w14 B hw14 zw14 => ?_
  replace S : St A N w w14 [oB b13 T_Nd (Nd.C r9), oB b7 T_Nd (Nd.C r3), oB b2 T_Sq (Sq.C a1), oT a_0 a0] [] := S.store 0 B hw14
  clear B
  refine wl_nil ?_
  refine wc_seq (wc_region ?_)
  refine wd (does_load_agg ag_Sq rfl ((S.blk 2).all _ (Sq.len _)) (Sq.len _)) ?_
  refine wl_alloc ze_Sq (by decide) fun b16 w15 hw15 => ?_
  replace S : St A N w w15 [oB b16 T_Sq (Sq.C Sq.z), oB b13 T_Nd (Nd.C r9), oB b7 T_Nd (Nd.C r3), oB b2 T_Sq (Sq.C a1), oT a_0 a0] [] := S.new hw15
  refine wl_store_agg ag_Sq rfl rfl (S.blk 0) (Sq.len _) (by rw [Sq.len]; decide) (Sq.one _) (store_all (Sq.len _)) fun w17 B hw17 zw17 => ?_
  replace S : St A N w w17 [oB b16 T_Sq (Sq.C a1), oB b13 T_Nd (Nd.C r9), oB b7 T_Nd (Nd.C r3), oB b2 T_Sq (Sq.C a1), oT a_0 a0] [] := S.store 0 B hw17
  clear B
  refine wl_nil ?_
  refine wc_seq (wc_region ?_)
  refine wd (does_fieldAddr fl_Sq_left rfl (o' := 0) rfl) ?_
  refine wd (does_load_agg ag_Bits rfl ((S.blk 3).cells (Sq.sub_left _)) (Bits.len _)) ?_
  refine wd (does_mv_i rfl) ?_
  obtain ⟨r18, er18, H⟩ := bind_ex H
  obtain ⟨B20, MB20, SB20, back⟩ := S.calln 0 ((.nil))
  refine wl_call (does_call ca_bits_Drop) (by decide) (bits_Drop_st SB20 er18) ?_
  rintro _ w19 ⟨rfl, S2⟩
  replace S : St A N w w19 [oB b16 T_Sq (Sq.C a1), oB b13 T_Nd (Nd.C r9), oB b7 T_Nd (Nd.C r3), oB b2 T_Sq (Sq.C a1), oT a_0 a0] [] := back _ _ _ _ S2 rfl
  clear back S2 SB20
  refine wd (does_fieldAddr fl_Sq_left rfl (o' := 0) rfl) ?_
  refine wl_store_agg ag_Bits rfl rfl (S.blk 0) (Bits.len _) (by rw [Sq.len]; decide) (Bits.one _) (Sq.put_left _ _) fun w21 B hw21 zw21 => ?_
  replace S : St A N w w21 [oB b16 T_Sq (Sq.C ({ a1 with left := r18 })), oB b13 T_Nd (Nd.C r9), oB b7 T_Nd (Nd.C r3), oB b2 T_Sq (Sq.C a1), oT a_0 a0] [] := S.store 0 B hw21
  clear B
  refine wl_nil ?_
  refine wc_seq (wc_seq (wc_region ?_))
  refine wd (does_mv_i rfl) ?_
  refine wl_nil ?_
  refine wc_block ?_
  refine wc_seq (wc_region ?_)
  refine wd (does_eq rfl rfl) ?_
  refine wd (does_as_b rfl) ?_
  refine wl_nil ?_
  refine wc_if rfl (fun hc22 => ?_) (fun hc22 => ?_)
  · replace H := if_t hc22 H
    refine wc_seq (wc_region ?_)
    refine wd (does_load_agg ag_Sq rfl ((S.blk 0).all _ (Sq.len _)) (Sq.len _)) ?_
    refine wd (does_fieldAddr fl_Nd_l rfl (o' := 2) rfl) ?_
    refine wd (does_load on_int rfl ((S.blk 2).cell (Nd.get_l _))) ?_
    refine wd (does_fieldAddr fl_Nd_r rfl (o' := 3) rfl) ?_
    refine wd (does_load on_int rfl ((S.blk 2).cell (Nd.get_r _))) ?_
    refine wl_lits (C := IC) (l := [r3.l, r3.r]) (vs := [.int .i64 r3.l, .int .i64 r3.r]) sl_L_int el_int.zero rfl rfl (fun _ _ => rfl) (by decide) rfl (by decide) fun b24 w23 s25 hBw23 hw23 => ?_
    replace S : St A N w w23 [oS T_int 1 IC s25 ([r3.l, r3.r]), oB b16 T_Sq (Sq.C ({ a1 with left := r18 })), oB b13 T_Nd (Nd.C r9), oB b7 T_Nd (Nd.C r3), oB b2 T_Sq (Sq.C a1), oT a_0 a0] [] := S.lit hBw23 hw23 (by simp)
    obtain ⟨r26, er26, H⟩ := bind_ex H
    obtain ⟨B28, MB28, SB28, back⟩ := S.calln 0 ((.s 0 rfl .nil))
    refine wl_call (does_call ca_rule_with) (by decide) (rule_with_st SB28 er26) ?_
    rintro _ w27 ⟨rfl, S2⟩
    replace S : St A N w w27 [oS T_int 1 IC s25 ([r3.l, r3.r]), oB b16 T_Sq (Sq.C ({ a1 with left := r18 })), oB b13 T_Nd (Nd.C r9), oB b7 T_Nd (Nd.C r3), oB b2 T_Sq (Sq.C a1), oT a_0 a0] [] := back _ _ _ _ S2 rfl
    clear back S2 SB28
    refine wl_lits (C := Sq.C) (l := [r26]) (vs := [.agg (Sq.C r26).toArray]) sl_L_api_Seq el_Sq.zero rfl rfl (fun a _ => Sq.len a) (by decide) rfl (by decide) fun b30 w29 s31 hBw29 hw29 => ?_
    replace S : St A N w w29 [oS T_Sq 17 Sq.C s31 ([r26]), oS T_int 1 IC s25 ([r3.l, r3.r]), oB b16 T_Sq (Sq.C ({ a1 with left := r18 })), oB b13 T_Nd (Nd.C r9), oB b7 T_Nd (Nd.C r3), oB b2 T_Sq (Sq.C a1), oT a_0 a0] [] := S.lit hBw29 hw29 (by simp)
    refine wd (does_as_l rfl) ?_
    refine wd (does_as_i rfl) ?_
    refine wl_nil ?_
    refine wc_ret ?_
    refine ⟨_, (rets2 (retOne_tmp rfl) (retOne_tmp rfl)), ?_⟩
    replace S : St A N w w29 [oT a_0 a0, oS T_Sq 17 Sq.C s31 ([r26])] [] := S.arr [6, 0] []
    obtain rfl := Option.some.inj H
    exact ⟨s31, rfl, S⟩
  replace H := if_f hc22 H
  refine wc_seq (wc_region ?_)
  refine wd (does_eq rfl rfl) ?_
  refine wd (does_as_b rfl) ?_
  refine wl_nil ?_
  refine wc_if rfl (fun hc32 => ?_) (fun hc32 => ?_)
  · replace H := if_t hc32 H
    refine wc_seq (wc_region ?_)
    refine wd (does_load_agg ag_Sq rfl ((S.blk 0).all _ (Sq.len _)) (Sq.len _)) ?_
    refine wd (does_fieldAddr fl_Nd_r rfl (o' := 3) rfl) ?_
    refine wd (does_load on_int rfl ((S.blk 2).cell (Nd.get_r _))) ?_
    refine wl_lits (C := IC) (l := [r3.r]) (vs := [.int .i64 r3.r]) sl_L_int el_int.zero rfl rfl (fun _ _ => rfl) (by decide) rfl (by decide) fun b34 w33 s35 hBw33 hw33 => ?_
    replace S : St A N w w33 [oS T_int 1 IC s35 ([r3.r]), oB b16 T_Sq (Sq.C ({ a1 with left := r18 })), oB b13 T_Nd (Nd.C r9), oB b7 T_Nd (Nd.C r3), oB b2 T_Sq (Sq.C a1), oT a_0 a0] [] := S.lit hBw33 hw33 (by simp)
    obtain ⟨r36, er36, H⟩ := bind_ex H
    obtain ⟨B38, MB38, SB38, back⟩ := S.calln 0 ((.s 0 rfl .nil))
    refine wl_call (does_call ca_rule_with) (by decide) (rule_with_st SB38 er36) ?_
    rintro _ w37 ⟨rfl, S2⟩
    replace S : St A N w w37 [oS T_int 1 IC s35 ([r3.r]), oB b16 T_Sq (Sq.C ({ a1 with left := r18 })), oB b13 T_Nd (Nd.C r9), oB b7 T_Nd (Nd.C r3), oB b2 T_Sq (Sq.C a1), oT a_0 a0] [] := back _ _ _ _ S2 rfl
    clear back S2 SB38
    refine wl_lits (C := Sq.C) (l := [r36]) (vs := [.agg (Sq.C r36).toArray]) sl_L_api_Seq el_Sq.zero rfl rfl (fun a _ => Sq.len a) (by decide) rfl (by decide) fun b40 w39 s41 hBw39 hw39 => ?_
    replace S : St A N w w39 [oS T_Sq 17 Sq.C s41 ([r36]), oS T_int 1 IC s35 ([r3.r]), oB b16 T_Sq (Sq.C ({ a1 with left := r18 })), oB b13 T_Nd (Nd.C r9), oB b7 T_Nd (Nd.C r3), oB b2 T_Sq (Sq.C a1), oT a_0 a0] [] := S.lit hBw39 hw39 (by simp)
    refine wd (does_as_l rfl) ?_
    refine wd (does_as_i rfl) ?_
    refine wl_nil ?_
    refine wc_ret ?_
    refine ⟨_, (rets2 (retOne_tmp rfl) (retOne_tmp rfl)), ?_⟩
    replace S : St A N w w39 [oT a_0 a0, oS T_Sq 17 Sq.C s41 ([r36])] [] := S.arr [6, 0] []
    obtain rfl := Option.some.inj H
    exact ⟨s41, rfl, S⟩
  replace H := if_f hc32 H
  refine wc_seq (wc_region ?_)
  refine wd (does_eq rfl rfl) ?_
  refine wd (does_as_b rfl) ?_
  refine wl_nil ?_
  refine wc_if rfl (fun hc42 => ?_) (fun hc42 => ?_)
  · replace H := if_t hc42 H
    refine wc_seq (wc_region ?_)
    refine wd (does_load_agg ag_Sq rfl ((S.blk 0).all _ (Sq.len _)) (Sq.len _)) ?_
    refine wl_lits (C := Sq.C) (l := [{ a1 with left := r18 }]) (vs := [.agg (Sq.C ({ a1 with left := r18 })).toArray]) sl_L_api_Seq el_Sq.zero rfl rfl (fun a _ => Sq.len a) (by decide) rfl (by decide) fun b44 w43 s45 hBw43 hw43 => ?_
    replace S : St A N w w43 [oS T_Sq 17 Sq.C s45 ([{ a1 with left := r18 }]), oB b16 T_Sq (Sq.C ({ a1 with left := r18 })), oB b13 T_Nd (Nd.C r9), oB b7 T_Nd (Nd.C r3), oB b2 T_Sq (Sq.C a1), oT a_0 a0] [] := S.lit hBw43 hw43 (by simp)
    refine wd (does_as_l rfl) ?_
    refine wd (does_as_i rfl) ?_
    refine wl_nil ?_
    refine wc_ret ?_
    refine ⟨_, (rets2 (retOne_tmp rfl) (retOne_tmp rfl)), ?_⟩
    replace S : St A N w w43 [oT a_0 a0, oS T_Sq 17 Sq.C s45 ([{ a1 with left := r18 }])] [] := S.arr [5, 0] []
    obtain rfl := Option.some.inj H
    exact ⟨s45, rfl, S⟩
  replace H := if_f hc42 H
  refine wc_seq (wc_region ?_)
  refine wd (does_eq rfl rfl) ?_
  refine wd (does_as_b rfl) ?_
  refine wl_nil ?_
  refine wc_if rfl (fun hc46 => ?_) (fun hc46 => ?_)
  · replace H := if_t hc46 H
    refine wc_seq (wc_region ?_)
    refine wd (does_mv_p rfl) ?_
    refine wd (does_fieldAddr fl_Nd_r rfl (o' := 3) rfl) ?_
    refine wd (does_load on_int rfl ((S.blk 1).cell (Nd.get_r _))) ?_
    refine wd (does_fieldAddr fl_Nd_r rfl (o' := 3) rfl) ?_
    refine wd (does_load on_int rfl ((S.blk 2).cell (Nd.get_r _))) ?_
    obtain ⟨r47, er47, H⟩ := bind_ex H
    obtain ⟨B49, MB49, SB49, back⟩ := S.sub [] [] [oB b16 T_Sq (Sq.C ({ a1 with left := r18 })), oB b13 T_Nd (Nd.C r9), oB b7 T_Nd (Nd.C r3), oB b2 T_Sq (Sq.C a1), oT a_0 a0]
    refine wl_call (does_call ca_rule_pair) (by decide) (rule_pair_st SB49 er47) ?_
    rintro _ w48 ⟨b50, b51, rfl, hnww48, S2⟩
    replace S : St A N w w48 [oB b16 T_Sq (Sq.C ({ a1 with left := r18 })), oB b13 T_Nd (Nd.C r9), oB b7 T_Nd (Nd.C r3), oB b2 T_Sq (Sq.C a1), oT a_0 a0] [oB b50 T_int [.int .i64 r47.1], oB b51 T_int [.int .i64 r47.2]] := back _ _ _ _ _ S2 rfl rfl
    clear back S2 SB49
    refine wd (does_funcl) ?_
    refine wl_lits (C := FC) (l := [FnV.mk (.func F_rule_pair_1) #[] #[.pointer (some ⟨b50, 0, none⟩), .pointer (some ⟨b51, 0, none⟩)], FnV.mk (.func F_rule_premises_1) #[] #[.pointer (some ⟨b13, 0, none⟩)]]) (vs := [.func (.func F_rule_pair_1) #[] #[.pointer (some ⟨b50, 0, none⟩), .pointer (some ⟨b51, 0, none⟩)], .func (.func F_rule_premises_1) #[] #[.pointer (some ⟨b13, 0, none⟩)]]) sl_L_func_L_int_int_int el_func_L_int_int_int.zero rfl rfl (fun _ _ => rfl) (by decide) rfl (by decide) fun b53 w52 s54 hBw52 hw52 => ?_
    replace S : St A N w w52 [oS T_func_L_int_int_int 1 FC s54 ([FnV.mk (.func F_rule_pair_1) #[] #[.pointer (some ⟨b50, 0, none⟩), .pointer (some ⟨b51, 0, none⟩)], FnV.mk (.func F_rule_premises_1) #[] #[.pointer (some ⟨b13, 0, none⟩)]]), oB b16 T_Sq (Sq.C ({ a1 with left := r18 })), oB b13 T_Nd (Nd.C r9), oB b7 T_Nd (Nd.C r3), oB b2 T_Sq (Sq.C a1), oT a_0 a0] [oB b50 T_int [.int .i64 r47.1], oB b51 T_int [.int .i64 r47.2]] := S.lit hBw52 hw52 (by simp)
    obtain ⟨r55, er55, H⟩ := bind_ex H
    replace S : St A N w w52 [oT a_0 a0, oS T_func_L_int_int_int 1 FC s54 ([FnV.mk (.func F_rule_pair_1) #[] #[.pointer (some ⟨b50, 0, none⟩), .pointer (some ⟨b51, 0, none⟩)], FnV.mk (.func F_rule_premises_1) #[] #[.pointer (some ⟨b13, 0, none⟩)]]), oB b16 T_Sq (Sq.C ({ a1 with left := r18 })), oB b13 T_Nd (Nd.C r9), oB b7 T_Nd (Nd.C r3), oB b2 T_Sq (Sq.C a1)] [oB b50 T_int [.int .i64 r47.1], oB b51 T_int [.int .i64 r47.2]] := S.front 5
    obtain ⟨B57, MB57, SB57, back⟩ := S.calln 1 ((.s 0 rfl (.z 0 rfl (.z 1 rfl (.o 2 rfl .nil)))))
    refine wl_call (does_call ca_rule_imps) (by decide) (rule_imps__rule_pair_1__rule_premises_1_st SB57 er55) ?_
    rintro _ w56 ⟨s58, rfl, S2⟩
    replace S : St A N w w56 [oT a_0 r55.1, oS T_int 1 IC s58 r55.2.1, oS T_func_L_int_int_int 1 FC s54 ([FnV.mk (.func F_rule_pair_1) #[] #[.pointer (some ⟨b50, 0, none⟩), .pointer (some ⟨b51, 0, none⟩)], FnV.mk (.func F_rule_premises_1) #[] #[.pointer (some ⟨b13, 0, none⟩)]]), oB b16 T_Sq (Sq.C ({ a1 with left := r18 })), oB b13 T_Nd (Nd.C r9), oB b7 T_Nd (Nd.C r3), oB b2 T_Sq (Sq.C a1)] [oB b50 T_int [.int .i64 r47.1], oB b51 T_int [.int .i64 r47.2]] := back _ _ _ _ S2 rfl
    clear back S2 SB57
    refine wd (does_mv_t rfl) ?_
    refine wd (does_extract rfl rfl) ?_
    refine wd (does_extract rfl rfl) ?_
    refine wd (does_as_l rfl) ?_
    refine wd (does_as_i rfl) ?_
    refine wl_nil ?_
    refine wc_seq (wc_seq (wc_region ?_))
    refine wd (does_mv_i rfl) ?_
    refine wd (does_ne rfl rfl) ?_
    refine wl_nil ?_
    refine wc_if rfl (fun hc59 => ?_) (fun hc59 => ?_)
    · replace H := if_t hc59 H
      refine wc_seq (wc_region ?_)
      refine wd (does_mv_i rfl) ?_
      refine wd (does_as_nil) ?_
      refine wd (does_as_i rfl) ?_
      refine wl_nil ?_
      refine wc_ret ?_
      replace S : St A N w w56 [oS T_Sq 17 Sq.C SlV.nil ([] : List Sq), oT a_0 r55.1, oS T_int 1 IC s58 r55.2.1, oS T_func_L_int_int_int 1 FC s54 ([FnV.mk (.func F_rule_pair_1) #[] #[.pointer (some ⟨b50, 0, none⟩), .pointer (some ⟨b51, 0, none⟩)], FnV.mk (.func F_rule_premises_1) #[] #[.pointer (some ⟨b13, 0, none⟩)]]), oB b16 T_Sq (Sq.C ({ a1 with left := r18 })), oB b13 T_Nd (Nd.C r9), oB b7 T_Nd (Nd.C r3), oB b2 T_Sq (Sq.C a1)] [oB b50 T_int [.int .i64 r47.1], oB b51 T_int [.int .i64 r47.2]] := S.nil T_Sq 17 Sq.C
      refine ⟨_, (rets2 (retOne_tmp rfl) (retOne_tmp rfl)), ?_⟩
      replace S : St A N w w56 [oT a_0 r55.1, oS T_Sq 17 Sq.C SlV.nil ([] : List Sq)] [] := S.arr [1, 0] []
      obtain rfl := Option.some.inj H
      exact ⟨SlV.nil, rfl, S⟩
    replace H := if_f hc59 H
    refine wc_skip ?_
    refine wc_seq ?_
    obtain ⟨hi60, H⟩ := chk_ex H
    refine wc_semi 5 [4]
      (fun i v u => match i with
      | 4 => ∃ sl, v = SlV.v sl ∧ Rd u 1 sl ([at_ (0 : Int) r55.2.1 1].map IC) ∧ (∀ j, sl.fp j → w56.heap.size ≤ j)
      | _ => True) hmix (by kernel_rfl) (by kernel_rfl) ?_ ?_
    · intro i v u u' hi hx hv
      match i, hv with
      | 4, ⟨b, e1, hr, hl⟩ => exact ⟨b, e1, hr.ext hx, hl⟩
      | 0, _ => exact trivial
      | 1, _ => exact trivial
      | 2, _ => exact trivial
      | 3, _ => exact trivial
      | _ + 5, _ => exact trivial
    refine wm_does (fun v K => does_load_agg ag_Sq rfl (((S.ext K).blk 3).all _ (Sq.len _)) (Sq.len _)) rfl ?_
    refine wm_does (fun v K => does_mv_l rfl) rfl ?_
    refine wm_does (fun v K => does_indexR sl_L_int rfl rfl ((S.ext K).rdO 1) (inb_ex hi60).1 (inb_ex hi60).2) rfl ?_
    refine wm_does (fun v K => does_load on_int rfl (((S.ext K).rdO 1).one (at_some (0 : Int) (inb_ex hi60)) rfl)) rfl ?_
    refine wm_new (fun g v K G => (have ⟨sl, v', hd, hx, ho, hf⟩ := does_lits (C := IC) (l := [at_ (0 : Int) r55.2.1 1]) (vs := [.int .i64 (at_ (0 : Int) r55.2.1 1)]) sl_L_int el_int.zero rfl rfl (fun _ _ => rfl) (by first | decide | simp) rfl; ⟨_, v', hd, hx, sl, rfl, ho.toRd, (fun j hj => by have := hf j hj; have := K.size; omega)⟩)) rfl ?_
    refine wm_nil fun g w62 K hV => ?_
    obtain ⟨s61, hv634, hr4, hf4⟩ := hV 4 rfl (by decide)
    replace S : St A N w w62 [oT a_0 r55.1, oS T_int 1 IC s58 r55.2.1, oS T_func_L_int_int_int 1 FC s54 ([FnV.mk (.func F_rule_pair_1) #[] #[.pointer (some ⟨b50, 0, none⟩), .pointer (some ⟨b51, 0, none⟩)], FnV.mk (.func F_rule_premises_1) #[] #[.pointer (some ⟨b13, 0, none⟩)]]), oB b16 T_Sq (Sq.C ({ a1 with left := r18 })), oB b13 T_Nd (Nd.C r9), oB b7 T_Nd (Nd.C r3), oB b2 T_Sq (Sq.C a1)] [fS 1 IC s61 ([at_ (0 : Int) r55.2.1 1]), oB b50 T_int [.int .i64 r47.1], oB b51 T_int [.int .i64 r47.2]] := S.addZs K (.s hr4 (by simp) hf4 .nil)
    clear K hV
    obtain ⟨r64, er64, H⟩ := bind_ex H
    obtain ⟨B66, MB66, SB66, back⟩ := S.calln 0 ((.z 0 rfl .nil))
    refine wl_call (does_callg ca_rule_with (cons2 rfl (cons2 hv634 rfl))) (by decide) (rule_with_st SB66 er64) ?_
    rintro _ w65 ⟨rfl, S2⟩
    replace S : St A N w w65 [oT a_0 r55.1, oS T_int 1 IC s58 r55.2.1, oS T_func_L_int_int_int 1 FC s54 ([FnV.mk (.func F_rule_pair_1) #[] #[.pointer (some ⟨b50, 0, none⟩), .pointer (some ⟨b51, 0, none⟩)], FnV.mk (.func F_rule_premises_1) #[] #[.pointer (some ⟨b13, 0, none⟩)]]), oB b16 T_Sq (Sq.C ({ a1 with left := r18 })), oB b13 T_Nd (Nd.C r9), oB b7 T_Nd (Nd.C r3), oB b2 T_Sq (Sq.C a1)] [fS 1 IC s61 ([at_ (0 : Int) r55.2.1 1]), oB b50 T_int [.int .i64 r47.1], oB b51 T_int [.int .i64 r47.2]] := back _ _ _ _ S2 rfl
    clear back S2 SB66
    refine wl_lits (C := Sq.C) (l := [r64]) (vs := [.agg (Sq.C r64).toArray]) sl_L_api_Seq el_Sq.zero rfl rfl (fun a _ => Sq.len a) (by decide) rfl (by decide) fun b68 w67 s69 hBw67 hw67 => ?_
    replace S : St A N w w67 [oS T_Sq 17 Sq.C s69 ([r64]), oT a_0 r55.1, oS T_int 1 IC s58 r55.2.1, oS T_func_L_int_int_int 1 FC s54 ([FnV.mk (.func F_rule_pair_1) #[] #[.pointer (some ⟨b50, 0, none⟩), .pointer (some ⟨b51, 0, none⟩)], FnV.mk (.func F_rule_premises_1) #[] #[.pointer (some ⟨b13, 0, none⟩)]]), oB b16 T_Sq (Sq.C ({ a1 with left := r18 })), oB b13 T_Nd (Nd.C r9), oB b7 T_Nd (Nd.C r3), oB b2 T_Sq (Sq.C a1)] [fS 1 IC s61 ([at_ (0 : Int) r55.2.1 1]), oB b50 T_int [.int .i64 r47.1], oB b51 T_int [.int .i64 r47.2]] := S.lit hBw67 hw67 (by simp)
    refine wd (does_as_l rfl) ?_
    refine wd (does_as_i rfl) ?_
    refine wl_nil ?_
    refine wc_ret ?_
    refine ⟨_, (rets2 (retOne_tmp rfl) (retOne_tmp rfl)), ?_⟩
    replace S : St A N w w67 [oT a_0 r55.1, oS T_Sq 17 Sq.C s69 ([r64])] [] := S.arr [1, 0] []
    obtain rfl := Option.some.inj H
    exact ⟨s69, rfl, S⟩
  replace H := if_f hc46 H
  refine wc_seq (wc_region ?_)
  refine wd (does_eq rfl rfl) ?_
  refine wd (does_as_b rfl) ?_
  refine wl_nil ?_
  refine wc_if rfl (fun hc70 => ?_) (fun hc70 => ?_)
  · replace H := if_t hc70 H
    refine wc_seq ?_
    refine wc_ws hmix fun w78 K => ?_
    replace S := S.ext K
    clear K
    obtain ⟨r79, er79, H⟩ := bind_ex H
    obtain ⟨r82, er82, H⟩ := bind_ex H
    refine ws_semi 0 12 [5, 10, 11] (by kernel_rfl) (by decide) (by kernel_rfl)
     (V := fun i v u => match i with
      | 5 => ∃ b80 : Nat, ∃ b81 : Nat, v = Value.func (.func F_rule_pair_1) #[] #[.pointer (some ⟨b80, 0, none⟩), .pointer (some ⟨b81, 0, none⟩)] ∧ Blk u b80 T_int [.int .i64 r79.1] ∧ w78.heap.size ≤ b80 ∧ Blk u b81 T_int [.int .i64 r79.2] ∧ w78.heap.size ≤ b81
      | 10 => ∃ b83 : Nat, ∃ b84 : Nat, v = Value.func (.func F_rule_pair_1) #[] #[.pointer (some ⟨b83, 0, none⟩), .pointer (some ⟨b84, 0, none⟩)] ∧ Blk u b83 T_int [.int .i64 r82.1] ∧ w78.heap.size ≤ b83 ∧ Blk u b84 T_int [.int .i64 r82.2] ∧ w78.heap.size ≤ b84
      | 11 => ∃ sl, ∃ b80 : Nat, ∃ b81 : Nat, ∃ b83 : Nat, ∃ b84 : Nat, v = SlV.v sl ∧ Rd u 1 sl ([FnV.mk (.func F_rule_pair_1) #[] #[.pointer (some ⟨b80, 0, none⟩), .pointer (some ⟨b81, 0, none⟩)], FnV.mk (.func F_rule_pair_1) #[] #[.pointer (some ⟨b83, 0, none⟩), .pointer (some ⟨b84, 0, none⟩)]].map FC) ∧ (∀ j, sl.fp j → w78.heap.size ≤ j) ∧ Blk u b80 T_int [.int .i64 r79.1] ∧ w78.heap.size ≤ b80 ∧ Blk u b81 T_int [.int .i64 r79.2] ∧ w78.heap.size ≤ b81 ∧ Blk u b83 T_int [.int .i64 r82.1] ∧ w78.heap.size ≤ b83 ∧ Blk u b84 T_int [.int .i64 r82.2] ∧ w78.heap.size ≤ b84
      | _ => True) ?_ ?_
    · intro i v u u' hi hx hv
      match i, hv with
      | 5, ⟨b80, b81, e1, hbb80, hlb80, hbb81, hlb81⟩ => exact ⟨b80, b81, e1, hbb80.ext hx, hlb80, hbb81.ext hx, hlb81⟩
      | 10, ⟨b83, b84, e1, hbb83, hlb83, hbb84, hlb84⟩ => exact ⟨b83, b84, e1, hbb83.ext hx, hlb83, hbb84.ext hx, hlb84⟩
      | 11, ⟨b, b80, b81, b83, b84, e1, hr, hl, hbb80, hlb80, hbb81, hlb81, hbb83, hlb83, hbb84, hlb84⟩ => exact ⟨b, b80, b81, b83, b84, e1, hr.ext hx, hl, hbb80.ext hx, hlb80, hbb81.ext hx, hlb81, hbb83.ext hx, hlb83, hbb84.ext hx, hlb84⟩
      | 0, _ => exact trivial
      | 1, _ => exact trivial
      | 2, _ => exact trivial
      | 3, _ => exact trivial
      | 4, _ => exact trivial
      | 6, _ => exact trivial
      | 7, _ => exact trivial
      | 8, _ => exact trivial
      | 9, _ => exact trivial
      | _ + 12, _ => exact trivial
    refine wm_does (fun v K => does_mv_p rfl) rfl ?_
    refine wm_does (fun v K => does_fieldAddr fl_Nd_l rfl (o' := 2) rfl) rfl ?_
    refine wm_does (fun v K => does_load on_int rfl (((S.ext K).blk 1).cell (Nd.get_l _))) rfl ?_
    refine wm_does (fun v K => does_fieldAddr fl_Nd_r rfl (o' := 3) rfl) rfl ?_
    refine wm_does (fun v K => does_load on_int rfl (((S.ext K).blk 2).cell (Nd.get_r _))) rfl ?_
    refine wm_newcall (fun g v K G => (have ⟨M, SS⟩ := (S.ext K).lend ((.nil)); ⟨_, _, does_callg ca_rule_pair (cons2 rfl (cons2 rfl rfl)), newc (rule_pair_st SS er79) fun _ _ ⟨b80, b81, hv, h⟩ => ⟨h.2.frame, b80, b81, hv, (h.2.blkZ 0), (by have := h.1.1; have := K.size; omega), (h.2.blkZ 1), (by have := h.1.2; have := K.size; omega)⟩⟩)) rfl ?_
    refine wm_does (fun v K => does_fieldAddr fl_Nd_r rfl (o' := 3) rfl) rfl ?_
    refine wm_does (fun v K => does_load on_int rfl (((S.ext K).blk 1).cell (Nd.get_r _))) rfl ?_
    refine wm_does (fun v K => does_fieldAddr fl_Nd_r rfl (o' := 3) rfl) rfl ?_
    refine wm_does (fun v K => does_load on_int rfl (((S.ext K).blk 2).cell (Nd.get_r _))) rfl ?_
    refine wm_newcall (fun g v K G => (have ⟨M, SS⟩ := (S.ext K).lend ((.nil)); ⟨_, _, does_callg ca_rule_pair (cons2 rfl (cons2 rfl rfl)), newc (rule_pair_st SS er82) fun _ _ ⟨b83, b84, hv, h⟩ => ⟨h.2.frame, b83, b84, hv, (h.2.blkZ 0), (by have := h.1.1; have := K.size; omega), (h.2.blkZ 1), (by have := h.1.2; have := K.size; omega)⟩⟩)) rfl ?_
    refine wm_new (fun g v K G => (have ⟨b80, b81, hv5, hbb80, hlb80, hbb81, hlb81⟩ := G 5 (by decide) rfl; have ⟨b83, b84, hv10, hbb83, hlb83, hbb84, hlb84⟩ := G 10 (by decide) rfl; have ⟨sl, v', hd, hx, ho, hf⟩ := does_lits (C := FC) (l := [FnV.mk (.func F_rule_pair_1) #[] #[.pointer (some ⟨b80, 0, none⟩), .pointer (some ⟨b81, 0, none⟩)], FnV.mk (.func F_rule_pair_1) #[] #[.pointer (some ⟨b83, 0, none⟩), .pointer (some ⟨b84, 0, none⟩)]]) (vs := [.func (.func F_rule_pair_1) #[] #[.pointer (some ⟨b80, 0, none⟩), .pointer (some ⟨b81, 0, none⟩)], .func (.func F_rule_pair_1) #[] #[.pointer (some ⟨b83, 0, none⟩), .pointer (some ⟨b84, 0, none⟩)]]) sl_L_func_L_int_int_int el_func_L_int_int_int.zero (by exact (consP hv5 (consP hv10 rfl))) rfl (fun _ _ => rfl) (by first | decide | simp) rfl; ⟨_, v', hd, hx, sl, b80, b81, b83, b84, rfl, ho.toRd, (fun j hj => by have := hf j hj; have := K.size; omega), (hbb80.ext hx), hlb80, (hbb81.ext hx), hlb81, (hbb83.ext hx), hlb83, (hbb84.ext hx), hlb84⟩)) rfl ?_
    refine wm_nil fun g w86 K hV => ?_
    obtain ⟨s85, b80, b81, b83, b84, hv8711, hr11, hf11, hbb80, hlb80, hbb81, hlb81, hbb83, hlb83, hbb84, hlb84⟩ := hV 11 rfl (by decide)
    replace S : St A N w w86 [oB b16 T_Sq (Sq.C ({ a1 with left := r18 })), oB b13 T_Nd (Nd.C r9), oB b7 T_Nd (Nd.C r3), oB b2 T_Sq (Sq.C a1), oT a_0 a0] [fS 1 FC s85 ([FnV.mk (.func F_rule_pair_1) #[] #[.pointer (some ⟨b80, 0, none⟩), .pointer (some ⟨b81, 0, none⟩)], FnV.mk (.func F_rule_pair_1) #[] #[.pointer (some ⟨b83, 0, none⟩), .pointer (some ⟨b84, 0, none⟩)]]), oB b80 T_int [.int .i64 r79.1], oB b81 T_int [.int .i64 r79.2], oB b83 T_int [.int .i64 r82.1], oB b84 T_int [.int .i64 r82.2]] := S.addZs K (.s hr11 (by simp) hf11 (.b hbb80 hlb80 (.b hbb81 hlb81 (.b hbb83 hlb83 (.b hbb84 hlb84 .nil)))))
    clear K hV
    refine ws_chain 12 14 (by kernel_rfl) (by decide) ?_
    obtain ⟨r88, er88, H⟩ := bind_ex H
    replace S : St A N w w86 [oT a_0 a0, oB b16 T_Sq (Sq.C ({ a1 with left := r18 })), oB b13 T_Nd (Nd.C r9), oB b7 T_Nd (Nd.C r3), oB b2 T_Sq (Sq.C a1)] [fS 1 FC s85 ([FnV.mk (.func F_rule_pair_1) #[] #[.pointer (some ⟨b80, 0, none⟩), .pointer (some ⟨b81, 0, none⟩)], FnV.mk (.func F_rule_pair_1) #[] #[.pointer (some ⟨b83, 0, none⟩), .pointer (some ⟨b84, 0, none⟩)]]), oB b80 T_int [.int .i64 r79.1], oB b81 T_int [.int .i64 r79.2], oB b83 T_int [.int .i64 r82.1], oB b84 T_int [.int .i64 r82.2]] := S.front 4
    obtain ⟨B90, MB90, SB90, back⟩ := S.calln 1 ((.z 0 rfl (.z 1 rfl (.z 2 rfl (.z 3 rfl (.z 4 rfl .nil))))))
    refine wl_call (does_callg ca_rule_imps (cons2 rfl (cons2 hv8711 rfl))) (by decide) (rule_imps__rule_pair_1__rule_pair_1_st SB90 er88) ?_
    rintro _ w89 ⟨s91, rfl, S2⟩
    replace S : St A N w w89 [oT a_0 r88.1, oS T_int 1 IC s91 r88.2.1, oB b16 T_Sq (Sq.C ({ a1 with left := r18 })), oB b13 T_Nd (Nd.C r9), oB b7 T_Nd (Nd.C r3), oB b2 T_Sq (Sq.C a1)] [fS 1 FC s85 ([FnV.mk (.func F_rule_pair_1) #[] #[.pointer (some ⟨b80, 0, none⟩), .pointer (some ⟨b81, 0, none⟩)], FnV.mk (.func F_rule_pair_1) #[] #[.pointer (some ⟨b83, 0, none⟩), .pointer (some ⟨b84, 0, none⟩)]]), oB b80 T_int [.int .i64 r79.1], oB b81 T_int [.int .i64 r79.2], oB b83 T_int [.int .i64 r82.1], oB b84 T_int [.int .i64 r82.2]] := back _ _ _ _ S2 rfl
    clear back S2 SB90
    refine wd (does_mv_t rfl) ?_
    refine wl_nil ⟨rfl, ?_⟩
    refine ws_semi 14 17 [] (by kernel_rfl) (by decide) (by kernel_rfl)
     (V := fun i v u => match i with
      | _ => True) ?_ ?_
    · intro i v u u' hi hx hv
      match i, hv with
      | _, _ => exact trivial
    refine wm_does (fun v K => does_extract rfl rfl) rfl ?_
    refine wm_does (fun v K => does_extract rfl rfl) rfl ?_
    refine wm_does (fun v K => does_as_l rfl) rfl ?_
    refine wm_nil fun g w92 K hV => ?_
    replace S := S.ext K
    clear K hV
    refine ws_tail 17 (by kernel_rfl) (by decide) ?_
    refine wd (does_as_i rfl) ?_
    refine wl_nil ?_
    refine wc_seq (wc_seq (wc_region ?_))
    refine wd (does_mv_i rfl) ?_
    refine wd (does_ne rfl rfl) ?_
    refine wl_nil ?_
    refine wc_if rfl (fun hc94 => ?_) (fun hc94 => ?_)
    · replace H := if_t hc94 H
      refine wc_seq (wc_region ?_)
      refine wd (does_mv_i rfl) ?_
      refine wd (does_as_nil) ?_
      refine wd (does_as_i rfl) ?_
      refine wl_nil ?_
      refine wc_ret ?_
      replace S : St A N w w92 [oS T_Sq 17 Sq.C SlV.nil ([] : List Sq), oT a_0 r88.1, oS T_int 1 IC s91 r88.2.1, oB b16 T_Sq (Sq.C ({ a1 with left := r18 })), oB b13 T_Nd (Nd.C r9), oB b7 T_Nd (Nd.C r3), oB b2 T_Sq (Sq.C a1)] [fS 1 FC s85 ([FnV.mk (.func F_rule_pair_1) #[] #[.pointer (some ⟨b80, 0, none⟩), .pointer (some ⟨b81, 0, none⟩)], FnV.mk (.func F_rule_pair_1) #[] #[.pointer (some ⟨b83, 0, none⟩), .pointer (some ⟨b84, 0, none⟩)]]), oB b80 T_int [.int .i64 r79.1], oB b81 T_int [.int .i64 r79.2], oB b83 T_int [.int .i64 r82.1], oB b84 T_int [.int .i64 r82.2]] := S.nil T_Sq 17 Sq.C
      refine ⟨_, (rets2 (retOne_tmp rfl) (retOne_tmp rfl)), ?_⟩
      replace S : St A N w w92 [oT a_0 r88.1, oS T_Sq 17 Sq.C SlV.nil ([] : List Sq)] [] := S.arr [1, 0] []
      obtain rfl := Option.some.inj H
      exact ⟨SlV.nil, rfl, S⟩
    replace H := if_f hc94 H
    refine wc_skip ?_
    refine wc_seq (wc_region ?_)
    refine wd (does_load_agg ag_Sq rfl ((S.blk 2).all _ (Sq.len _)) (Sq.len _)) ?_
    refine wd (does_mv_l rfl) ?_
    obtain ⟨r95, er95, H⟩ := bind_ex H
    obtain ⟨B97, MB97, SB97, back⟩ := S.calln 0 ((.s 1 rfl .nil))
    refine wl_call (does_call ca_rule_with) (by decide) (rule_with_st SB97 er95) ?_
    rintro _ w96 ⟨rfl, S2⟩
    replace S : St A N w w96 [oT a_0 r88.1, oS T_int 1 IC s91 r88.2.1, oB b16 T_Sq (Sq.C ({ a1 with left := r18 })), oB b13 T_Nd (Nd.C r9), oB b7 T_Nd (Nd.C r3), oB b2 T_Sq (Sq.C a1)] [fS 1 FC s85 ([FnV.mk (.func F_rule_pair_1) #[] #[.pointer (some ⟨b80, 0, none⟩), .pointer (some ⟨b81, 0, none⟩)], FnV.mk (.func F_rule_pair_1) #[] #[.pointer (some ⟨b83, 0, none⟩), .pointer (some ⟨b84, 0, none⟩)]]), oB b80 T_int [.int .i64 r79.1], oB b81 T_int [.int .i64 r79.2], oB b83 T_int [.int .i64 r82.1], oB b84 T_int [.int .i64 r82.2]] := back _ _ _ _ S2 rfl
    clear back S2 SB97
    refine wl_lits (C := Sq.C) (l := [r95]) (vs := [.agg (Sq.C r95).toArray]) sl_L_api_Seq el_Sq.zero rfl rfl (fun a _ => Sq.len a) (by decide) rfl (by decide) fun b99 w98 s100 hBw98 hw98 => ?_
    replace S : St A N w w98 [oS T_Sq 17 Sq.C s100 ([r95]), oT a_0 r88.1, oS T_int 1 IC s91 r88.2.1, oB b16 T_Sq (Sq.C ({ a1 with left := r18 })), oB b13 T_Nd (Nd.C r9), oB b7 T_Nd (Nd.C r3), oB b2 T_Sq (Sq.C a1)] [fS 1 FC s85 ([FnV.mk (.func F_rule_pair_1) #[] #[.pointer (some ⟨b80, 0, none⟩), .pointer (some ⟨b81, 0, none⟩)], FnV.mk (.func F_rule_pair_1) #[] #[.pointer (some ⟨b83, 0, none⟩), .pointer (some ⟨b84, 0, none⟩)]]), oB b80 T_int [.int .i64 r79.1], oB b81 T_int [.int .i64 r79.2], oB b83 T_int [.int .i64 r82.1], oB b84 T_int [.int .i64 r82.2]] := S.lit hBw98 hw98 (by simp)
    refine wd (does_as_l rfl) ?_
    refine wd (does_as_i rfl) ?_
    refine wl_nil ?_
    refine wc_ret ?_
    refine ⟨_, (rets2 (retOne_tmp rfl) (retOne_tmp rfl)), ?_⟩
    replace S : St A N w w98 [oT a_0 r88.1, oS T_Sq 17 Sq.C s100 ([r95])] [] := S.arr [1, 0] []
    obtain rfl := Option.some.inj H
    exact ⟨s100, rfl, S⟩
  replace H := if_f hc70 H
  refine wc_seq (wc_region ?_)
  refine wd (does_eq rfl rfl) ?_
  refine wd (does_as_b rfl) ?_
  refine wl_nil ?_
  refine wc_if rfl (fun hc101 => ?_) (fun hc101 => ?_)
  · replace H := if_t hc101 H
    refine wc_seq ?_
    obtain ⟨r103, er103, H⟩ := bind_ex H
    refine wc_semi 7 [3, 4]
      (fun i v u => match i with
      | 3 => ∃ sl, v = SlV.v sl ∧ Rd u 1 sl ([r3.l].map IC) ∧ (∀ j, sl.fp j → w21.heap.size ≤ j)
      | 4 => v = Value.agg (Sq.C r103).toArray
      | _ => True) hmix (by kernel_rfl) (by kernel_rfl) ?_ ?_
    · intro i v u u' hi hx hv
      match i, hv with
      | 3, ⟨b, e1, hr, hl⟩ => exact ⟨b, e1, hr.ext hx, hl⟩
      | 4, hv => exact hv
      | 0, _ => exact trivial
      | 1, _ => exact trivial
      | 2, _ => exact trivial
      | _ + 5, _ => exact trivial
    refine wm_does (fun v K => does_load_agg ag_Sq rfl (((S.ext K).blk 3).all _ (Sq.len _)) (Sq.len _)) rfl ?_
    refine wm_does (fun v K => does_fieldAddr fl_Nd_l rfl (o' := 2) rfl) rfl ?_
    refine wm_does (fun v K => does_load on_int rfl (((S.ext K).blk 2).cell (Nd.get_l _))) rfl ?_
    refine wm_new (fun g v K G => (have ⟨sl, v', hd, hx, ho, hf⟩ := does_lits (C := IC) (l := [r3.l]) (vs := [.int .i64 r3.l]) sl_L_int el_int.zero rfl rfl (fun _ _ => rfl) (by first | decide | simp) rfl; ⟨_, v', hd, hx, sl, rfl, ho.toRd, (fun j hj => by have := hf j hj; have := K.size; omega)⟩)) rfl ?_
    refine wm_newcall (fun g v K G => (have ⟨s102, hv3, hr3, hf3⟩ := G 3 (by decide) rfl; have ⟨M, SS⟩ := (S.addS K hr3 (by simp) hf3).lend ((.z 0 rfl .nil)); ⟨_, _, does_callg ca_rule_with (cons2 rfl (cons2 hv3 rfl)), newc (rule_with_st SS er103) fun _ _ h => ⟨h.2.frame, h.1⟩⟩)) rfl ?_
    refine wm_does (fun v K => does_fieldAddr fl_Nd_r rfl (o' := 3) rfl) rfl ?_
    refine wm_does (fun v K => does_load on_int rfl (((S.ext K).blk 2).cell (Nd.get_r _))) rfl ?_
    refine wm_nil fun g w104 K hV => ?_
    obtain ⟨s102, hv1053, hr3, hf3⟩ := hV 3 rfl (by decide)
    have hv1054 := hV 4 rfl (by decide)
    replace S : St A N w w104 [oB b16 T_Sq (Sq.C ({ a1 with left := r18 })), oB b13 T_Nd (Nd.C r9), oB b7 T_Nd (Nd.C r3), oB b2 T_Sq (Sq.C a1), oT a_0 a0] [fS 1 IC s102 ([r3.l])] := S.addZs K (.s hr3 (by simp) hf3 .nil)
    clear K hV
    obtain ⟨r106, er106, H⟩ := bind_ex H
    obtain ⟨B108, MB108, SB108, back⟩ := S.calln 0 ((.nil))
    refine wl_call (does_callg ca_rule_to (cons2 hv1054 (cons2 rfl rfl))) (by decide) (rule_to_st SB108 er106) ?_
    rintro _ w107 ⟨rfl, S2⟩
    replace S : St A N w w107 [oB b16 T_Sq (Sq.C ({ a1 with left := r18 })), oB b13 T_Nd (Nd.C r9), oB b7 T_Nd (Nd.C r3), oB b2 T_Sq (Sq.C a1), oT a_0 a0] [fS 1 IC s102 ([r3.l])] := back _ _ _ _ S2 rfl
    clear back S2 SB108
    refine wl_lits (C := Sq.C) (l := [r106]) (vs := [.agg (Sq.C r106).toArray]) sl_L_api_Seq el_Sq.zero rfl rfl (fun a _ => Sq.len a) (by decide) rfl (by decide) fun b110 w109 s111 hBw109 hw109 => ?_
    replace S : St A N w w109 [oS T_Sq 17 Sq.C s111 ([r106]), oB b16 T_Sq (Sq.C ({ a1 with left := r18 })), oB b13 T_Nd (Nd.C r9), oB b7 T_Nd (Nd.C r3), oB b2 T_Sq (Sq.C a1), oT a_0 a0] [fS 1 IC s102 ([r3.l])] := S.lit hBw109 hw109 (by simp)
    refine wd (does_as_l rfl) ?_
    refine wd (does_as_i rfl) ?_
    refine wl_nil ?_
    refine wc_ret ?_
    refine ⟨_, (rets2 (retOne_tmp rfl) (retOne_tmp rfl)), ?_⟩
    replace S : St A N w w109 [oT a_0 a0, oS T_Sq 17 Sq.C s111 ([r106])] [] := S.arr [5, 0] []
    obtain rfl := Option.some.inj H
    exact ⟨s111, rfl, S⟩
  replace H := if_f hc101 H
  refine wc_seq (wc_region ?_)
  refine wd (does_eq rfl rfl) ?_
  refine wd (does_as_b rfl) ?_
  refine wl_nil ?_
  refine wc_if rfl (fun hc112 => ?_) (fun hc112 => ?_)
  · replace H := if_t hc112 H
    refine wc_seq ?_
    refine wc_quiet 7 (Ext w21) hmix (by kernel_rfl) (by kernel_rfl) (Ext.drawn _) ?_
    refine wq_does (fun v K => does_load_agg ag_Sq rfl (((S.ext K).blk 3).all _ (Sq.len _)) (Sq.len _)) ?_
    refine wq_does (fun v K => does_fieldAddr fl_Nd_l rfl (o' := 2) rfl) ?_
    refine wq_does (fun v K => does_load on_int rfl (((S.ext K).blk 2).cell (Nd.get_l _))) ?_
    obtain ⟨r113, er113, H⟩ := bind_ex H
    refine wq_call (fun v => does_call ca_rule_to) (fun v K => (have ⟨M, SS⟩ := (S.ext K).lend ((.nil)); quiet (rule_to_st SS er113) (fun v w' h => ⟨h.1, _, _, h.2⟩))) (fun v v' K h => K.thenExt h) ?_
    refine wq_does (fun v K => does_load_agg ag_Sq rfl (((S.ext K).blk 3).all _ (Sq.len _)) (Sq.len _)) ?_
    refine wq_does (fun v K => does_fieldAddr fl_Nd_r rfl (o' := 3) rfl) ?_
    refine wq_does (fun v K => does_load on_int rfl (((S.ext K).blk 2).cell (Nd.get_r _))) ?_
    refine wq_nil fun w114 K => ?_
    replace S := S.ext K
    clear K
    obtain ⟨r115, er115, H⟩ := bind_ex H
    obtain ⟨B117, MB117, SB117, back⟩ := S.calln 0 ((.nil))
    refine wl_call (does_call ca_rule_to) (by decide) (rule_to_st SB117 er115) ?_
    rintro _ w116 ⟨rfl, S2⟩
    replace S : St A N w w116 [oB b16 T_Sq (Sq.C ({ a1 with left := r18 })), oB b13 T_Nd (Nd.C r9), oB b7 T_Nd (Nd.C r3), oB b2 T_Sq (Sq.C a1), oT a_0 a0] [] := back _ _ _ _ S2 rfl
    clear back S2 SB117
    refine wl_lits (C := Sq.C) (l := [r113, r115]) (vs := [.agg (Sq.C r113).toArray, .agg (Sq.C r115).toArray]) sl_L_api_Seq el_Sq.zero rfl rfl (fun a _ => Sq.len a) (by decide) rfl (by decide) fun b119 w118 s120 hBw118 hw118 => ?_
    replace S : St A N w w118 [oS T_Sq 17 Sq.C s120 ([r113, r115]), oB b16 T_Sq (Sq.C ({ a1 with left := r18 })), oB b13 T_Nd (Nd.C r9), oB b7 T_Nd (Nd.C r3), oB b2 T_Sq (Sq.C a1), oT a_0 a0] [] := S.lit hBw118 hw118 (by simp)
    refine wd (does_as_l rfl) ?_
    refine wd (does_as_i rfl) ?_
    refine wl_nil ?_
    refine wc_ret ?_
    refine ⟨_, (rets2 (retOne_tmp rfl) (retOne_tmp rfl)), ?_⟩
    replace S : St A N w w118 [oT a_0 a0, oS T_Sq 17 Sq.C s120 ([r113, r115])] [] := S.arr [5, 0] []
    obtain rfl := Option.some.inj H
    exact ⟨s120, rfl, S⟩
  replace H := if_f hc112 H
  refine wc_seq (wc_region ?_)
  refine wd (does_eq rfl rfl) ?_
  refine wd (does_as_b rfl) ?_
  refine wl_nil ?_
  refine wc_if rfl (fun hc121 => ?_) (fun hc121 => ?_)
  · replace H := if_t hc121 H
    refine wc_seq ?_
    obtain ⟨r123, er123, H⟩ := bind_ex H
    refine wc_semi 9 [3, 4, 8]
      (fun i v u => match i with
      | 3 => ∃ sl, v = SlV.v sl ∧ Rd u 1 sl ([r3.l].map IC) ∧ (∀ j, sl.fp j → w21.heap.size ≤ j)
      | 4 => v = Value.agg (Sq.C r123).toArray
      | 8 => ∃ sl, v = SlV.v sl ∧ Rd u 1 sl ([r3.r].map IC) ∧ (∀ j, sl.fp j → w21.heap.size ≤ j)
      | _ => True) hmix (by kernel_rfl) (by kernel_rfl) ?_ ?_
    · intro i v u u' hi hx hv
      match i, hv with
      | 3, ⟨b, e1, hr, hl⟩ => exact ⟨b, e1, hr.ext hx, hl⟩
      | 4, hv => exact hv
      | 8, ⟨b, e1, hr, hl⟩ => exact ⟨b, e1, hr.ext hx, hl⟩
      | 0, _ => exact trivial
      | 1, _ => exact trivial
      | 2, _ => exact trivial
      | 5, _ => exact trivial
      | 6, _ => exact trivial
      | 7, _ => exact trivial
      | _ + 9, _ => exact trivial
    refine wm_does (fun v K => does_load_agg ag_Sq rfl (((S.ext K).blk 0).all _ (Sq.len _)) (Sq.len _)) rfl ?_
    refine wm_does (fun v K => does_fieldAddr fl_Nd_l rfl (o' := 2) rfl) rfl ?_
    refine wm_does (fun v K => does_load on_int rfl (((S.ext K).blk 2).cell (Nd.get_l _))) rfl ?_
    refine wm_new (fun g v K G => (have ⟨sl, v', hd, hx, ho, hf⟩ := does_lits (C := IC) (l := [r3.l]) (vs := [.int .i64 r3.l]) sl_L_int el_int.zero rfl rfl (fun _ _ => rfl) (by first | decide | simp) rfl; ⟨_, v', hd, hx, sl, rfl, ho.toRd, (fun j hj => by have := hf j hj; have := K.size; omega)⟩)) rfl ?_
    refine wm_newcall (fun g v K G => (have ⟨s122, hv3, hr3, hf3⟩ := G 3 (by decide) rfl; have ⟨M, SS⟩ := (S.addS K hr3 (by simp) hf3).lend ((.z 0 rfl .nil)); ⟨_, _, does_callg ca_rule_with (cons2 rfl (cons2 hv3 rfl)), newc (rule_with_st SS er123) fun _ _ h => ⟨h.2.frame, h.1⟩⟩)) rfl ?_
    refine wm_does (fun v K => does_load_agg ag_Sq rfl (((S.ext K).blk 0).all _ (Sq.len _)) (Sq.len _)) rfl ?_
    refine wm_does (fun v K => does_fieldAddr fl_Nd_r rfl (o' := 3) rfl) rfl ?_
    refine wm_does (fun v K => does_load on_int rfl (((S.ext K).blk 2).cell (Nd.get_r _))) rfl ?_
    refine wm_new (fun g v K G => (have ⟨sl, v', hd, hx, ho, hf⟩ := does_lits (C := IC) (l := [r3.r]) (vs := [.int .i64 r3.r]) sl_L_int el_int.zero rfl rfl (fun _ _ => rfl) (by first | decide | simp) rfl; ⟨_, v', hd, hx, sl, rfl, ho.toRd, (fun j hj => by have := hf j hj; have := K.size; omega)⟩)) rfl ?_
    refine wm_nil fun g w125 K hV => ?_
    obtain ⟨s122, hv1263, hr3, hf3⟩ := hV 3 rfl (by decide)
    have hv1264 := hV 4 rfl (by decide)
    obtain ⟨s124, hv1268, hr8, hf8⟩ := hV 8 rfl (by decide)
    replace S : St A N w w125 [oB b16 T_Sq (Sq.C ({ a1 with left := r18 })), oB b13 T_Nd (Nd.C r9), oB b7 T_Nd (Nd.C r3), oB b2 T_Sq (Sq.C a1), oT a_0 a0] [fS 1 IC s122 ([r3.l]), fS 1 IC s124 ([r3.r])] := S.addZs K (.s hr3 (by simp) hf3 (.s hr8 (by simp) hf8 .nil))
    clear K hV
    obtain ⟨r127, er127, H⟩ := bind_ex H
    obtain ⟨B129, MB129, SB129, back⟩ := S.calln 0 ((.z 1 rfl .nil))
    refine wl_call (does_callg ca_rule_with (cons2 rfl (cons2 hv1268 rfl))) (by decide) (rule_with_st SB129 er127) ?_
    rintro _ w128 ⟨rfl, S2⟩
    replace S : St A N w w128 [oB b16 T_Sq (Sq.C ({ a1 with left := r18 })), oB b13 T_Nd (Nd.C r9), oB b7 T_Nd (Nd.C r3), oB b2 T_Sq (Sq.C a1), oT a_0 a0] [fS 1 IC s122 ([r3.l]), fS 1 IC s124 ([r3.r])] := back _ _ _ _ S2 rfl
    clear back S2 SB129
    refine wl_lits (C := Sq.C) (l := [r123, r127]) (vs := [.agg (Sq.C r123).toArray, .agg (Sq.C r127).toArray]) sl_L_api_Seq el_Sq.zero (consP hv1264 (consP rfl rfl)) rfl (fun a _ => Sq.len a) (by decide) rfl (by decide) fun b131 w130 s132 hBw130 hw130 => ?_
    replace S : St A N w w130 [oS T_Sq 17 Sq.C s132 ([r123, r127]), oB b16 T_Sq (Sq.C ({ a1 with left := r18 })), oB b13 T_Nd (Nd.C r9), oB b7 T_Nd (Nd.C r3), oB b2 T_Sq (Sq.C a1), oT a_0 a0] [fS 1 IC s122 ([r3.l]), fS 1 IC s124 ([r3.r])] := S.lit hBw130 hw130 (by simp)
    refine wd (does_as_l rfl) ?_
    refine wd (does_as_i rfl) ?_
    refine wl_nil ?_
    refine wc_ret ?_
    refine ⟨_, (rets2 (retOne_tmp rfl) (retOne_tmp rfl)), ?_⟩
    replace S : St A N w w130 [oT a_0 a0, oS T_Sq 17 Sq.C s132 ([r123, r127])] [] := S.arr [5, 0] []
    obtain rfl := Option.some.inj H
    exact ⟨s132, rfl, S⟩
  replace H := if_f hc121 H
  refine wc_seq (wc_region ?_)
  refine wd (does_eq rfl rfl) ?_
  refine wd (does_as_b rfl) ?_
  refine wl_nil ?_
  refine wc_if rfl (fun hc133 => ?_) (fun hc133 => ?_)
  · replace H := if_t hc133 H
    refine wc_seq (wc_region ?_)
    refine wd (does_load_agg ag_Sq rfl ((S.blk 3).all _ (Sq.len _)) (Sq.len _)) ?_
    refine wd (does_fieldAddr fl_Nd_l rfl (o' := 2) rfl) ?_
    refine wd (does_load on_int rfl ((S.blk 2).cell (Nd.get_l _))) ?_
    obtain ⟨r134, er134, H⟩ := bind_ex H
    obtain ⟨B136, MB136, SB136, back⟩ := S.calln 0 ((.nil))
    refine wl_call (does_call ca_rule_to) (by decide) (rule_to_st SB136 er134) ?_
    rintro _ w135 ⟨rfl, S2⟩
    replace S : St A N w w135 [oB b16 T_Sq (Sq.C ({ a1 with left := r18 })), oB b13 T_Nd (Nd.C r9), oB b7 T_Nd (Nd.C r3), oB b2 T_Sq (Sq.C a1), oT a_0 a0] [] := back _ _ _ _ S2 rfl
    clear back S2 SB136
    refine wl_lits (C := Sq.C) (l := [r134]) (vs := [.agg (Sq.C r134).toArray]) sl_L_api_Seq el_Sq.zero rfl rfl (fun a _ => Sq.len a) (by decide) rfl (by decide) fun b138 w137 s139 hBw137 hw137 => ?_
    replace S : St A N w w137 [oS T_Sq 17 Sq.C s139 ([r134]), oB b16 T_Sq (Sq.C ({ a1 with left := r18 })), oB b13 T_Nd (Nd.C r9), oB b7 T_Nd (Nd.C r3), oB b2 T_Sq (Sq.C a1), oT a_0 a0] [] := S.lit hBw137 hw137 (by simp)
    refine wd (does_as_l rfl) ?_
    refine wd (does_as_i rfl) ?_
    refine wl_nil ?_
    refine wc_ret ?_
    refine ⟨_, (rets2 (retOne_tmp rfl) (retOne_tmp rfl)), ?_⟩
    replace S : St A N w w137 [oT a_0 a0, oS T_Sq 17 Sq.C s139 ([r134])] [] := S.arr [5, 0] []
    obtain rfl := Option.some.inj H
    exact ⟨s139, rfl, S⟩
  replace H := if_f hc133 H
  refine wc_seq (wc_region ?_)
  refine wd (does_eq rfl rfl) ?_
  refine wd (does_as_b rfl) ?_
  refine wl_nil ?_
  refine wc_if rfl (fun hc140 => ?_) (fun hc140 => ?_)
  · replace H := if_t hc140 H
    refine wc_seq (wc_region ?_)
    refine wd (does_load_agg ag_Sq rfl ((S.blk 3).all _ (Sq.len _)) (Sq.len _)) ?_
    refine wd (does_fieldAddr fl_Nd_r rfl (o' := 3) rfl) ?_
    refine wd (does_load on_int rfl ((S.blk 2).cell (Nd.get_r _))) ?_
    obtain ⟨r141, er141, H⟩ := bind_ex H
    obtain ⟨B143, MB143, SB143, back⟩ := S.calln 0 ((.nil))
    refine wl_call (does_call ca_rule_to) (by decide) (rule_to_st SB143 er141) ?_
    rintro _ w142 ⟨rfl, S2⟩
    replace S : St A N w w142 [oB b16 T_Sq (Sq.C ({ a1 with left := r18 })), oB b13 T_Nd (Nd.C r9), oB b7 T_Nd (Nd.C r3), oB b2 T_Sq (Sq.C a1), oT a_0 a0] [] := back _ _ _ _ S2 rfl
    clear back S2 SB143
    refine wl_lits (C := Sq.C) (l := [r141]) (vs := [.agg (Sq.C r141).toArray]) sl_L_api_Seq el_Sq.zero rfl rfl (fun a _ => Sq.len a) (by decide) rfl (by decide) fun b145 w144 s146 hBw144 hw144 => ?_
    replace S : St A N w w144 [oS T_Sq 17 Sq.C s146 ([r141]), oB b16 T_Sq (Sq.C ({ a1 with left := r18 })), oB b13 T_Nd (Nd.C r9), oB b7 T_Nd (Nd.C r3), oB b2 T_Sq (Sq.C a1), oT a_0 a0] [] := S.lit hBw144 hw144 (by simp)
    refine wd (does_as_l rfl) ?_
    refine wd (does_as_i rfl) ?_
    refine wl_nil ?_
    refine wc_ret ?_
    refine ⟨_, (rets2 (retOne_tmp rfl) (retOne_tmp rfl)), ?_⟩
    replace S : St A N w w144 [oT a_0 a0, oS T_Sq 17 Sq.C s146 ([r141])] [] := S.arr [5, 0] []
    obtain rfl := Option.some.inj H
    exact ⟨s146, rfl, S⟩
  replace H := if_f hc140 H
  refine wc_seq (wc_region ?_)
  refine wd (does_eq rfl rfl) ?_
  refine wd (does_as_b rfl) ?_
  refine wl_nil ?_
  refine wc_if rfl (fun hc147 => ?_) (fun hc147 => ?_)
  · replace H := if_t hc147 H
    refine wc_seq (wc_region ?_)
    refine wd (does_mv_p rfl) ?_
    refine wd (does_fieldAddr fl_Nd_r rfl (o' := 3) rfl) ?_
    refine wd (does_load on_int rfl ((S.blk 1).cell (Nd.get_r _))) ?_
    refine wd (does_fieldAddr fl_Nd_r rfl (o' := 3) rfl) ?_
    refine wd (does_load on_int rfl ((S.blk 2).cell (Nd.get_r _))) ?_
    obtain ⟨r148, er148, H⟩ := bind_ex H
    obtain ⟨B150, MB150, SB150, back⟩ := S.sub [] [] [oB b16 T_Sq (Sq.C ({ a1 with left := r18 })), oB b13 T_Nd (Nd.C r9), oB b7 T_Nd (Nd.C r3), oB b2 T_Sq (Sq.C a1), oT a_0 a0]
    refine wl_call (does_call ca_rule_pair) (by decide) (rule_pair_st SB150 er148) ?_
    rintro _ w149 ⟨b151, b152, rfl, hnww149, S2⟩
    replace S : St A N w w149 [oB b16 T_Sq (Sq.C ({ a1 with left := r18 })), oB b13 T_Nd (Nd.C r9), oB b7 T_Nd (Nd.C r3), oB b2 T_Sq (Sq.C a1), oT a_0 a0] [oB b151 T_int [.int .i64 r148.1], oB b152 T_int [.int .i64 r148.2]] := back _ _ _ _ _ S2 rfl rfl
    clear back S2 SB150
    refine wl_lits (C := FC) (l := [FnV.mk (.func F_rule_pair_1) #[] #[.pointer (some ⟨b151, 0, none⟩), .pointer (some ⟨b152, 0, none⟩)]]) (vs := [.func (.func F_rule_pair_1) #[] #[.pointer (some ⟨b151, 0, none⟩), .pointer (some ⟨b152, 0, none⟩)]]) sl_L_func_L_int_int_int el_func_L_int_int_int.zero rfl rfl (fun _ _ => rfl) (by decide) rfl (by decide) fun b154 w153 s155 hBw153 hw153 => ?_
    replace S : St A N w w153 [oS T_func_L_int_int_int 1 FC s155 ([FnV.mk (.func F_rule_pair_1) #[] #[.pointer (some ⟨b151, 0, none⟩), .pointer (some ⟨b152, 0, none⟩)]]), oB b16 T_Sq (Sq.C ({ a1 with left := r18 })), oB b13 T_Nd (Nd.C r9), oB b7 T_Nd (Nd.C r3), oB b2 T_Sq (Sq.C a1), oT a_0 a0] [oB b151 T_int [.int .i64 r148.1], oB b152 T_int [.int .i64 r148.2]] := S.lit hBw153 hw153 (by simp)
    obtain ⟨r156, er156, H⟩ := bind_ex H
    replace S : St A N w w153 [oT a_0 a0, oS T_func_L_int_int_int 1 FC s155 ([FnV.mk (.func F_rule_pair_1) #[] #[.pointer (some ⟨b151, 0, none⟩), .pointer (some ⟨b152, 0, none⟩)]]), oB b16 T_Sq (Sq.C ({ a1 with left := r18 })), oB b13 T_Nd (Nd.C r9), oB b7 T_Nd (Nd.C r3), oB b2 T_Sq (Sq.C a1)] [oB b151 T_int [.int .i64 r148.1], oB b152 T_int [.int .i64 r148.2]] := S.front 5
    obtain ⟨B158, MB158, SB158, back⟩ := S.calln 1 ((.s 0 rfl (.z 0 rfl (.z 1 rfl .nil))))
    refine wl_call (does_call ca_rule_imps) (by decide) (rule_imps__rule_pair_1_st SB158 er156) ?_
    rintro _ w157 ⟨s159, rfl, S2⟩
    replace S : St A N w w157 [oT a_0 r156.1, oS T_int 1 IC s159 r156.2.1, oS T_func_L_int_int_int 1 FC s155 ([FnV.mk (.func F_rule_pair_1) #[] #[.pointer (some ⟨b151, 0, none⟩), .pointer (some ⟨b152, 0, none⟩)]]), oB b16 T_Sq (Sq.C ({ a1 with left := r18 })), oB b13 T_Nd (Nd.C r9), oB b7 T_Nd (Nd.C r3), oB b2 T_Sq (Sq.C a1)] [oB b151 T_int [.int .i64 r148.1], oB b152 T_int [.int .i64 r148.2]] := back _ _ _ _ S2 rfl
    clear back S2 SB158
    refine wd (does_mv_t rfl) ?_
    refine wd (does_extract rfl rfl) ?_
    refine wd (does_extract rfl rfl) ?_
    refine wd (does_as_l rfl) ?_
    refine wd (does_as_i rfl) ?_
    refine wl_nil ?_
    refine wc_seq (wc_seq (wc_region ?_))
    refine wd (does_mv_i rfl) ?_
    refine wd (does_ne rfl rfl) ?_
    refine wl_nil ?_
    refine wc_if rfl (fun hc160 => ?_) (fun hc160 => ?_)
    · replace H := if_t hc160 H
      refine wc_seq (wc_region ?_)
      refine wd (does_mv_i rfl) ?_
      refine wd (does_as_nil) ?_
      refine wd (does_as_i rfl) ?_
      refine wl_nil ?_
      refine wc_ret ?_
      replace S : St A N w w157 [oS T_Sq 17 Sq.C SlV.nil ([] : List Sq), oT a_0 r156.1, oS T_int 1 IC s159 r156.2.1, oS T_func_L_int_int_int 1 FC s155 ([FnV.mk (.func F_rule_pair_1) #[] #[.pointer (some ⟨b151, 0, none⟩), .pointer (some ⟨b152, 0, none⟩)]]), oB b16 T_Sq (Sq.C ({ a1 with left := r18 })), oB b13 T_Nd (Nd.C r9), oB b7 T_Nd (Nd.C r3), oB b2 T_Sq (Sq.C a1)] [oB b151 T_int [.int .i64 r148.1], oB b152 T_int [.int .i64 r148.2]] := S.nil T_Sq 17 Sq.C
      refine ⟨_, (rets2 (retOne_tmp rfl) (retOne_tmp rfl)), ?_⟩
      replace S : St A N w w157 [oT a_0 r156.1, oS T_Sq 17 Sq.C SlV.nil ([] : List Sq)] [] := S.arr [1, 0] []
      obtain rfl := Option.some.inj H
      exact ⟨SlV.nil, rfl, S⟩
    replace H := if_f hc160 H
    refine wc_skip ?_
    refine wc_seq ?_
    obtain ⟨r161, er161, H⟩ := bind_ex H
    obtain ⟨r162, er162, H⟩ := bind_ex H
    refine wc_semi 10 [9]
      (fun i v u => match i with
      | 9 => ∃ sl, v = SlV.v sl ∧ Rd u 1 sl ([r3.r].map IC) ∧ (∀ j, sl.fp j → w157.heap.size ≤ j)
      | _ => True) hmix (by kernel_rfl) (by kernel_rfl) ?_ ?_
    · intro i v u u' hi hx hv
      match i, hv with
      | 9, ⟨b, e1, hr, hl⟩ => exact ⟨b, e1, hr.ext hx, hl⟩
      | 0, _ => exact trivial
      | 1, _ => exact trivial
      | 2, _ => exact trivial
      | 3, _ => exact trivial
      | 4, _ => exact trivial
      | 5, _ => exact trivial
      | 6, _ => exact trivial
      | 7, _ => exact trivial
      | 8, _ => exact trivial
      | _ + 10, _ => exact trivial
    refine wm_does (fun v K => does_load_agg ag_Sq rfl (((S.ext K).blk 3).all _ (Sq.len _)) (Sq.len _)) rfl ?_
    refine wm_does (fun v K => does_mv_l rfl) rfl ?_
    refine wm_call (fun v => does_call ca_rule_with) (fun v K => (have ⟨M, SS⟩ := (S.ext K).lend ((.s 1 rfl .nil)); quiet (rule_with_st SS er161) (fun v w' h => ⟨h.1, _, _, h.2⟩))) rfl ?_
    refine wm_does (fun v K => does_fieldAddr fl_Nd_l rfl (o' := 2) rfl) rfl ?_
    refine wm_does (fun v K => does_load on_int rfl (((S.ext K).blk 5).cell (Nd.get_l _))) rfl ?_
    refine wm_call (fun v => does_call ca_rule_to) (fun v K => (have ⟨M, SS⟩ := (S.ext K).lend ((.nil)); quiet (rule_to_st SS er162) (fun v w' h => ⟨h.1, _, _, h.2⟩))) rfl ?_
    refine wm_does (fun v K => does_load_agg ag_Sq rfl (((S.ext K).blk 3).all _ (Sq.len _)) (Sq.len _)) rfl ?_
    refine wm_does (fun v K => does_fieldAddr fl_Nd_r rfl (o' := 3) rfl) rfl ?_
    refine wm_does (fun v K => does_load on_int rfl (((S.ext K).blk 5).cell (Nd.get_r _))) rfl ?_
    refine wm_new (fun g v K G => (have ⟨sl, v', hd, hx, ho, hf⟩ := does_lits (C := IC) (l := [r3.r]) (vs := [.int .i64 r3.r]) sl_L_int el_int.zero rfl rfl (fun _ _ => rfl) (by first | decide | simp) rfl; ⟨_, v', hd, hx, sl, rfl, ho.toRd, (fun j hj => by have := hf j hj; have := K.size; omega)⟩)) rfl ?_
    refine wm_nil fun g w164 K hV => ?_
    obtain ⟨s163, hv1659, hr9, hf9⟩ := hV 9 rfl (by decide)
    replace S : St A N w w164 [oT a_0 r156.1, oS T_int 1 IC s159 r156.2.1, oS T_func_L_int_int_int 1 FC s155 ([FnV.mk (.func F_rule_pair_1) #[] #[.pointer (some ⟨b151, 0, none⟩), .pointer (some ⟨b152, 0, none⟩)]]), oB b16 T_Sq (Sq.C ({ a1 with left := r18 })), oB b13 T_Nd (Nd.C r9), oB b7 T_Nd (Nd.C r3), oB b2 T_Sq (Sq.C a1)] [fS 1 IC s163 ([r3.r]), oB b151 T_int [.int .i64 r148.1], oB b152 T_int [.int .i64 r148.2]] := S.addZs K (.s hr9 (by simp) hf9 .nil)
    clear K hV
    obtain ⟨r166, er166, H⟩ := bind_ex H
    obtain ⟨B168, MB168, SB168, back⟩ := S.calln 0 ((.z 0 rfl .nil))
    refine wl_call (does_callg ca_rule_with (cons2 rfl (cons2 hv1659 rfl))) (by decide) (rule_with_st SB168 er166) ?_
    rintro _ w167 ⟨rfl, S2⟩
    replace S : St A N w w167 [oT a_0 r156.1, oS T_int 1 IC s159 r156.2.1, oS T_func_L_int_int_int 1 FC s155 ([FnV.mk (.func F_rule_pair_1) #[] #[.pointer (some ⟨b151, 0, none⟩), .pointer (some ⟨b152, 0, none⟩)]]), oB b16 T_Sq (Sq.C ({ a1 with left := r18 })), oB b13 T_Nd (Nd.C r9), oB b7 T_Nd (Nd.C r3), oB b2 T_Sq (Sq.C a1)] [fS 1 IC s163 ([r3.r]), oB b151 T_int [.int .i64 r148.1], oB b152 T_int [.int .i64 r148.2]] := back _ _ _ _ S2 rfl
    clear back S2 SB168
    refine wl_lits (C := Sq.C) (l := [r162, r166]) (vs := [.agg (Sq.C r162).toArray, .agg (Sq.C r166).toArray]) sl_L_api_Seq el_Sq.zero rfl rfl (fun a _ => Sq.len a) (by decide) rfl (by decide) fun b170 w169 s171 hBw169 hw169 => ?_
    replace S : St A N w w169 [oS T_Sq 17 Sq.C s171 ([r162, r166]), oT a_0 r156.1, oS T_int 1 IC s159 r156.2.1, oS T_func_L_int_int_int 1 FC s155 ([FnV.mk (.func F_rule_pair_1) #[] #[.pointer (some ⟨b151, 0, none⟩), .pointer (some ⟨b152, 0, none⟩)]]), oB b16 T_Sq (Sq.C ({ a1 with left := r18 })), oB b13 T_Nd (Nd.C r9), oB b7 T_Nd (Nd.C r3), oB b2 T_Sq (Sq.C a1)] [fS 1 IC s163 ([r3.r]), oB b151 T_int [.int .i64 r148.1], oB b152 T_int [.int .i64 r148.2]] := S.lit hBw169 hw169 (by simp)
    refine wd (does_as_l rfl) ?_
    refine wd (does_as_i rfl) ?_
    refine wl_nil ?_
    refine wc_ret ?_
    refine ⟨_, (rets2 (retOne_tmp rfl) (retOne_tmp rfl)), ?_⟩
    replace S : St A N w w169 [oT a_0 r156.1, oS T_Sq 17 Sq.C s171 ([r162, r166])] [] := S.arr [1, 0] []
    obtain rfl := Option.some.inj H
    exact ⟨s171, rfl, S⟩
  replace H := if_f hc147 H
  refine wc_skip ?_
  refine wc_seq (wc_region ?_)
  refine wd (does_as_nil) ?_
  refine wd (does_as_i rfl) ?_
  refine wl_nil ?_
  refine wc_ret ?_
  replace S : St A N w w21 [oS T_Sq 17 Sq.C SlV.nil ([] : List Sq), oB b16 T_Sq (Sq.C ({ a1 with left := r18 })), oB b13 T_Nd (Nd.C r9), oB b7 T_Nd (Nd.C r3), oB b2 T_Sq (Sq.C a1), oT a_0 a0] [] := S.nil T_Sq 17 Sq.C
  refine ⟨_, (rets2 (retOne_tmp rfl) (retOne_tmp rfl)), ?_⟩
  replace S : St A N w w21 [oT a_0 a0, oS T_Sq 17 Sq.C SlV.nil ([] : List Sq)] [] := S.arr [5, 0] []
  obtain rfl := Option.some.inj H
  exact ⟨SlV.nil, rfl, S⟩
theorem rule_Premises_st {A : Nat → Prop} {N : Oth} {w : World} {a0 : Tb} {a_0 : Option Addr} {a1 : Sq} {a2 : Int} {a3 : Int} (S : St A N w w [oT a_0 a0] [oTz]) {r : Tb × List Sq × Int} (H : rule_Premises.f a0 a1 a2 a3 = some r) :
    Calls PP F_rule_Premises #[.pointer a_0, .agg (Sq.C a1).toArray, .int .i64 a2, .int .i64 a3] w fun e w' => ∃ v, e = .returned v ∧ (∃ so0 : SlV, v = .tuple #[so0.v, .int .i64 r.2.2] ∧ St A N w w' [oT a_0 r.1, oS T_Sq 17 Sq.C so0 r.2.1] []) := by
  unfold rule_Premises.f at H
  refine calls_of_wc (n := 43) fn_rule_Premises rfl rfl (by simp) ?_
  refine wc_seq (wc_region ?_)
  refine wl_box_agg rfl (by decide) fun b2 w1 hw1 => ?_
  replace S : St A N w w1 [oB b2 T_Sq (Sq.C a1), oT a_0 a0] [oTz] := S.new hw1
  refine wd (does_as_nil) ?_
  refine wd (does_as_i rfl) ?_
  refine wl_nil ?_
  refine wc_seq (wc_seq (wc_region ?_))
  refine wd (does_mv_p rfl) ?_
  refine wd (does_load_agg ag_Sq rfl ((S.blk 0).all _ (Sq.len _)) (Sq.len _)) ?_
  obtain ⟨r3, er3, H⟩ := bind_ex H
  obtain ⟨B5, MB5, SB5, back⟩ := S.calln 0 ((.o 1 rfl (.z 0 rfl .nil)))
  refine wl_call (does_call ca_rule_look) (by decide) (rule_look_st SB5 er3) ?_
  rintro _ w4 ⟨rfl, S2⟩
  replace S : St A N w w4 [oB b2 T_Sq (Sq.C a1), oT a_0 a0] [oTz] := back _ _ _ _ S2 rfl
  clear back S2 SB5
  refine wd (does_as_i rfl) ?_
  refine wl_nil ?_
  refine wc_seq (wc_region ?_)
  refine wd (does_mv_i rfl) ?_
  refine wd (does_ne rfl rfl) ?_
  refine wl_nil ?_
  refine wc_if rfl (fun hc6 => ?_) (fun hc6 => ?_)
  · replace H := if_t hc6 H
    refine wc_seq (wc_region ?_)
    refine wd (does_mv_i rfl) ?_
    refine wd (does_as_nil) ?_
    refine wd (does_as_i rfl) ?_
    refine wl_nil ?_
    refine wc_ret ?_
    replace S : St A N w w4 [oS T_Sq 17 Sq.C SlV.nil ([] : List Sq), oB b2 T_Sq (Sq.C a1), oT a_0 a0] [oTz] := S.nil T_Sq 17 Sq.C
    refine ⟨_, (rets2 (retOne_tmp rfl) (retOne_tmp rfl)), ?_⟩
    replace S : St A N w w4 [oT a_0 a0, oS T_Sq 17 Sq.C SlV.nil ([] : List Sq)] [] := S.arr [2, 0] []
    obtain rfl := Option.some.inj H
    exact ⟨SlV.nil, rfl, S⟩
  replace H := if_f hc6 H
  refine wc_skip ?_
  refine wc_seq (wc_seq (wc_region ?_))
  refine wd (does_mv_p rfl) ?_
  refine wd (does_load_agg ag_Sq rfl ((S.blk 0).all _ (Sq.len _)) (Sq.len _)) ?_
  refine wd (does_mv_i rfl) ?_
  refine wd (does_mv_i rfl) ?_
  obtain ⟨r7, er7, H⟩ := bind_ex H
  obtain ⟨B9, MB9, SB9, back⟩ := S.calln 0 ((.o 1 rfl .nil))
  refine wl_call (does_call ca_rule_fits) (by decide) (rule_fits_st SB9 er7) ?_
  rintro _ w8 ⟨rfl, S2⟩
  replace S : St A N w w8 [oB b2 T_Sq (Sq.C a1), oT a_0 a0] [oTz] := back _ _ _ _ S2 rfl
  clear back S2 SB9
  refine wd (does_not rfl) ?_
  refine wl_nil ?_
  refine wc_if rfl (fun hc10 => ?_) (fun hc10 => ?_)
  · replace H := if_t hc10 H
    refine wc_seq (wc_region ?_)
    refine wd (does_as_nil) ?_
    refine wd (does_as_i rfl) ?_
    refine wl_nil ?_
    refine wc_ret ?_
    replace S : St A N w w8 [oS T_Sq 17 Sq.C SlV.nil ([] : List Sq), oB b2 T_Sq (Sq.C a1), oT a_0 a0] [oTz] := S.nil T_Sq 17 Sq.C
    refine ⟨_, (rets2 (retOne_tmp rfl) (retOne_tmp rfl)), ?_⟩
    replace S : St A N w w8 [oT a_0 a0, oS T_Sq 17 Sq.C SlV.nil ([] : List Sq)] [] := S.arr [2, 0] []
    obtain rfl := Option.some.inj H
    exact ⟨SlV.nil, rfl, S⟩
  replace H := if_f hc10 H
  refine wc_skip ?_
  refine wc_seq (wc_region ?_)
  refine wd (does_mv_p rfl) ?_
  obtain ⟨r11, er11, H⟩ := bind_ex H
  obtain ⟨B13, MB13, SB13, back⟩ := S.calln 0 ((.o 1 rfl .nil))
  refine wl_call (does_call ca_formula_Table_Len) (by decide) (formula_Table_Len_st SB13 er11) ?_
  rintro _ w12 ⟨rfl, S2⟩
  replace S : St A N w w12 [oB b2 T_Sq (Sq.C a1), oT a_0 a0] [oTz] := back _ _ _ _ S2 rfl
  clear back S2 SB13
  refine wd (does_as_i rfl) ?_
  refine wl_nil ?_
  refine wc_seq (wc_region ?_)
  refine wd (does_mv_p rfl) ?_
  refine wd (does_load_agg ag_Sq rfl ((S.blk 0).all _ (Sq.len _)) (Sq.len _)) ?_
  refine wd (does_mv_i rfl) ?_
  refine wd (does_mv_i rfl) ?_
  obtain ⟨r14, er14, H⟩ := bind_ex H
  replace S : St A N w w12 [oT a_0 a0, oB b2 T_Sq (Sq.C a1)] [oTz] := S.front 1
  obtain ⟨B16, MB16, SB16, back⟩ := S.calln 1 ((.nil))
  refine wl_call (does_call ca_rule_premises) (by decide) (rule_premises_st SB16 er14) ?_
  rintro _ w15 ⟨s17, rfl, S2⟩
  replace S : St A N w w15 [oT a_0 r14.1, oS T_Sq 17 Sq.C s17 r14.2.1, oB b2 T_Sq (Sq.C a1)] [oTz] := back _ _ _ _ S2 rfl
  clear back S2 SB16
  refine wd (does_mv_t rfl) ?_
  refine wd (does_extract rfl rfl) ?_
  refine wd (does_extract rfl rfl) ?_
  refine wd (does_as_l rfl) ?_
  refine wd (does_as_i rfl) ?_
  refine wl_nil ?_
  refine wc_seq (wc_seq (wc_region ?_))
  refine wd (does_mv_i rfl) ?_
  refine wd (does_ne rfl rfl) ?_
  refine wl_nil ?_
  refine wc_if rfl (fun hc18 => ?_) (fun hc18 => ?_)
  · replace H := if_t hc18 H
    refine wc_seq (wc_region ?_)
    refine wd (does_mv_p rfl) ?_
    refine wd (does_mv_i rfl) ?_
    obtain ⟨r19, er19, H⟩ := bind_ex H
    obtain ⟨B21, MB21, SB21, back⟩ := S.calln 1 ((.nil))
    refine wl_call (does_call ca_formula_Table_Cut) (by decide) (formula_Table_Cut_st SB21 er19) ?_
    rintro _ w20 ⟨rfl, S2⟩
    replace S : St A N w w20 [oT a_0 r19.1, oS T_Sq 17 Sq.C s17 r14.2.1, oB b2 T_Sq (Sq.C a1)] [oTz] := back _ _ _ _ S2 rfl
    clear back S2 SB21
    refine wl_nil ?_
    refine wc_seq (wc_region ?_)
    refine wd (does_mv_i rfl) ?_
    refine wd (does_as_nil) ?_
    refine wd (does_as_i rfl) ?_
    refine wl_nil ?_
    refine wc_ret ?_
    replace S : St A N w w20 [oS T_Sq 17 Sq.C SlV.nil ([] : List Sq), oT a_0 r19.1, oS T_Sq 17 Sq.C s17 r14.2.1, oB b2 T_Sq (Sq.C a1)] [oTz] := S.nil T_Sq 17 Sq.C
    refine ⟨_, (rets2 (retOne_tmp rfl) (retOne_tmp rfl)), ?_⟩
    replace S : St A N w w20 [oT a_0 r19.1, oS T_Sq 17 Sq.C SlV.nil ([] : List Sq)] [] := S.arr [1, 0] []
    obtain rfl := Option.some.inj H
    exact ⟨SlV.nil, rfl, S⟩
  replace H := if_f hc18 H
  refine wc_skip ?_
  refine wc_seq (wc_region ?_)
  refine wd (does_mv_l rfl) ?_
  refine wd (does_as_l rfl) ?_
  refine wd (does_as_i rfl) ?_
  refine wl_nil ?_
  refine wc_ret ?_
  refine ⟨_, (rets2 (retOne_tmp rfl) (retOne_tmp rfl)), ?_⟩
  replace S : St A N w w15 [oT a_0 r14.1, oS T_Sq 17 Sq.C s17 r14.2.1] [] := S.arr [0, 1] []
  obtain rfl := Option.some.inj H
  exact ⟨s17, rfl, S⟩
end Go.Proofs.YtjjkhjieegmphaaDoor
end
