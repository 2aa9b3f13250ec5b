/- Chapter 09, RuleTells: the walks. Printed by pp.py, a program of mine. -/
import Derived.Test.YtjjkhjieegmphaaDoorRuleTP
import Derived.Test.YtjjkhjieegmphaaDoorRuleCW
namespace Go.Proofs.YtjjkhjieegmphaaDoor
open Gw Go.RowKit
set_option linter.unusedVariables false
set_option linter.unusedSimpArgs false

theorem law09_RuleTells_st {A : Nat → Prop} {N : Oth} {w : World} {a0 : List Nd} {s_0 : SlV} {a1 : Sq} {a2 : Int} {a3 : Int} (S : St A N w w [] [fS 4 Nd.C s_0 a0, oTz]) {r : Bool} (H : law09_RuleTells.f a0 a1 a2 a3 = some r) :
    Calls PP F_law09_RuleTells #[s_0.v, .agg (Sq.C a1).toArray, .int .i64 a2, .int .i64 a3] w fun e w' => ∃ v, e = .returned v ∧ (v = .bool r ∧ St A N w w' [] []) := by
  unfold law09_RuleTells.f at H
  refine calls_of_wc (n := 153) fn_law09_RuleTells rfl rfl (by simp) ?_
  refine wc_seq (wc_region ?_)
  refine wl_box_agg rfl (by decide) fun b2 w1 hw1 => ?_
  replace S : St A N w w1 [oB b2 T_Sq (Sq.C a1)] [fS 4 Nd.C s_0 a0, oTz] := S.new hw1
  refine wd (does_as_b rfl) ?_
  refine wl_nil ?_
  refine wc_seq (wc_region ?_)
  refine wd (does_mv_l rfl) ?_
  obtain ⟨r3, er3, H⟩ := bind_ex H
  obtain ⟨B5, MB5, SB5, back⟩ := S.calln 0 ((.z 0 rfl .nil))
  refine wl_call (does_call ca_law03_Both) (by decide) (law03_Both_st SB5 er3) ?_
  rintro _ w4 ⟨a6, a7, rfl, S2⟩
  replace S : St A N w w4 [oT a6 r3.1, oR a7 r3.2.1, oB b2 T_Sq (Sq.C a1)] [fS 4 Nd.C s_0 a0, oTz] := back _ _ _ _ S2 rfl
  clear back S2 SB5
  refine wd (does_mv_t rfl) ?_
  refine wd (does_extract rfl rfl) ?_
  refine wd (does_extract rfl rfl) ?_
  refine wd (does_extract rfl rfl) ?_
  refine wd (does_as_p rfl) ?_
  refine wd (does_as_p rfl) ?_
  refine wd (does_as_b rfl) ?_
  refine wl_nil ?_
  refine wc_seq (wc_seq (wc_region ?_))
  refine wd (does_mv_b rfl) ?_
  refine wd (does_not rfl) ?_
  refine wl_nil ?_
  refine wc_if rfl (fun hc8 => ?_) (fun hc8 => ?_)
  · replace H := if_t hc8 H
    refine wc_seq (wc_region ?_)
    obtain ⟨r9, er9, H⟩ := bind_ex H
    obtain ⟨B11, MB11, SB11, back⟩ := S.calln 0 ((.z 1 rfl .nil))
    refine wl_call (does_call ca_law09_heads) (by decide) (law09_heads_st SB11 er9) ?_
    rintro _ w10 ⟨rfl, S2⟩
    replace S : St A N w w10 [oT a6 r3.1, oR a7 r3.2.1, oB b2 T_Sq (Sq.C a1)] [fS 4 Nd.C s_0 a0, oTz] := back _ _ _ _ S2 rfl
    clear back S2 SB11
    refine wd (does_as_b rfl) ?_
    refine wl_nil ?_
    refine wc_ret ?_
    refine ⟨_, (rets1 (retOne_tmp rfl)), ?_⟩
    replace S : St A N w w10 [] [] := S.arr [] []
    obtain rfl := Option.some.inj H
    exact ⟨rfl, S⟩
  replace H := if_f hc8 H
  refine wc_skip ?_
  refine wc_seq (wc_region ?_)
  refine wd (does_mv_p rfl) ?_
  refine wd (does_load_agg ag_Sq rfl ((S.blk 2).all _ (Sq.len _)) (Sq.len _)) ?_
  obtain ⟨r12, er12, H⟩ := bind_ex H
  obtain ⟨B14, MB14, SB14, back⟩ := S.calln 0 ((.o 0 rfl (.z 1 rfl .nil)))
  refine wl_call (does_call ca_rule_Apply) (by decide) (rule_Apply_st SB14 er12) ?_
  rintro _ w13 ⟨rfl, S2⟩
  replace S : St A N w w13 [oT a6 r3.1, oR a7 r3.2.1, oB b2 T_Sq (Sq.C a1)] [fS 4 Nd.C s_0 a0, oTz] := back _ _ _ _ S2 rfl
  clear back S2 SB14
  refine wd (does_mv_t rfl) ?_
  refine wd (does_extract rfl rfl) ?_
  refine wd (does_extract rfl rfl) ?_
  refine wd (does_extract rfl rfl) ?_
  refine wd (does_as_i rfl) ?_
  refine wd (does_as_i rfl) ?_
  refine wd (does_as_i rfl) ?_
  refine wl_nil ?_
  refine wc_seq (wc_region ?_)
  refine wd (does_mv_p rfl) ?_
  refine wd (does_load_agg ag_Sq rfl ((S.blk 2).all _ (Sq.len _)) (Sq.len _)) ?_
  obtain ⟨r15, er15, H⟩ := bind_ex H
  obtain ⟨B17, MB17, SB17, back⟩ := S.calln 0 ((.o 0 rfl (.z 1 rfl .nil)))
  refine wl_call (does_call ca_rule_Choices) (by decide) (rule_Choices_st SB17 er15) ?_
  rintro _ w16 ⟨s18, s19, rfl, S2⟩
  replace S : St A N w w16 [oS T_api_Rule 1 IC s18 r15.1, oS T_int 1 IC s19 r15.2.1, oT a6 r3.1, oR a7 r3.2.1, oB b2 T_Sq (Sq.C a1)] [fS 4 Nd.C s_0 a0, oTz] := back _ _ _ _ S2 rfl
  clear back S2 SB17
  refine wd (does_mv_t rfl) ?_
  refine wd (does_extract rfl rfl) ?_
  refine wd (does_extract rfl rfl) ?_
  refine wd (does_extract rfl rfl) ?_
  refine wd (does_as_l rfl) ?_
  refine wd (does_as_l rfl) ?_
  refine wd (does_as_i rfl) ?_
  refine wl_nil ?_
  refine wc_seq (wc_region ?_)
  refine wd (does_mv_p rfl) ?_
  refine wd (does_load_agg ag_Sq rfl ((S.blk 4).all _ (Sq.len _)) (Sq.len _)) ?_
  refine wd (does_mv_i rfl) ?_
  refine wd (does_mv_i rfl) ?_
  obtain ⟨r20, er20, H⟩ := bind_ex H
  obtain ⟨B22, MB22, SB22, back⟩ := S.calln 0 ((.o 2 rfl (.z 1 rfl .nil)))
  refine wl_call (does_call ca_rule_Fits) (by decide) (rule_Fits_st SB22 er20) ?_
  rintro _ w21 ⟨rfl, S2⟩
  replace S : St A N w w21 [oS T_api_Rule 1 IC s18 r15.1, oS T_int 1 IC s19 r15.2.1, oT a6 r3.1, oR a7 r3.2.1, oB b2 T_Sq (Sq.C a1)] [fS 4 Nd.C s_0 a0, oTz] := back _ _ _ _ S2 rfl
  clear back S2 SB22
  refine wd (does_mv_t rfl) ?_
  refine wd (does_extract rfl rfl) ?_
  refine wd (does_extract rfl rfl) ?_
  refine wd (does_as_b rfl) ?_
  refine wd (does_as_i rfl) ?_
  refine wl_nil ?_
  refine wc_seq (wc_seq (wc_region ?_))
  refine wd (does_mv_p rfl) ?_
  refine wd (does_load_agg ag_Sq rfl ((S.blk 4).all _ (Sq.len _)) (Sq.len _)) ?_
  obtain ⟨r23, er23, H⟩ := bind_ex H
  obtain ⟨B25, MB25, SB25, back⟩ := S.calln 0 ((.o 3 rfl .nil))
  refine wl_call (does_call ca_ref09_Right) (by decide) (ref09_Right_st SB25 er23) ?_
  rintro _ w24 ⟨rfl, S2⟩
  replace S : St A N w w24 [oS T_api_Rule 1 IC s18 r15.1, oS T_int 1 IC s19 r15.2.1, oT a6 r3.1, oR a7 r3.2.1, oB b2 T_Sq (Sq.C a1)] [fS 4 Nd.C s_0 a0, oTz] := back _ _ _ _ S2 rfl
  clear back S2 SB25
  refine wd (does_not rfl) ?_
  refine wl_nil ?_
  refine wc_if rfl (fun hc26 => ?_) (fun hc26 => ?_)
  · replace H := if_t hc26 H
    refine wc_seq (wc_region ?_)
    refine wd (does_mv_i rfl) ?_
    refine wd (does_eq rfl rfl) ?_
    refine wd (does_mv_b rfl) ?_
    refine wl_guard (j := 2) (pol := true) rfl rfl rfl (by decide) (fun hg => does_mv_i rfl) (by decide) ?_
    refine wl_guard (j := 2) (pol := true) rfl rfl rfl (by decide) (fun hg => does_eq (gv_yes hg) rfl) (by decide) ?_
    refine wd (does_and rfl (fun hp => (gv_yes (and_1 hp)))) ?_
    refine wd (does_mv_b rfl) ?_
    refine wl_guard (j := 6) (pol := true) rfl rfl rfl (by decide) (fun hg => does_mv_i rfl) (by decide) ?_
    refine wl_guard (j := 6) (pol := true) rfl rfl rfl (by decide) (fun hg => does_eq (gv_yes hg) rfl) (by decide) ?_
    refine wd (does_and rfl (fun hp => (gv_yes (and_1 hp)))) ?_
    refine wd (does_mv_b rfl) ?_
    refine wl_guard (j := 10) (pol := true) rfl rfl rfl (by decide) (fun hg => does_mv_l rfl) (by decide) ?_
    refine wl_guard (j := 10) (pol := true) rfl rfl rfl (by decide) (fun hg => does_lenR sl_L_api_Rule (gv_yes hg) (S.rdO 0)) (by decide) ?_
    refine wl_guard (j := 10) (pol := true) rfl rfl rfl (by decide) (fun hg => does_eq (gv_yes hg) rfl) (by decide) ?_
    refine wd (does_and rfl (fun hp => (gv_yes (and_1 hp)))) ?_
    refine wd (does_mv_b rfl) ?_
    refine wl_guard (j := 15) (pol := true) rfl rfl rfl (by decide) (fun hg => does_mv_l rfl) (by decide) ?_
    refine wl_guard (j := 15) (pol := true) rfl rfl rfl (by decide) (fun hg => does_lenR sl_L_int (gv_yes hg) (S.rdO 1)) (by decide) ?_
    refine wl_guard (j := 15) (pol := true) rfl rfl rfl (by decide) (fun hg => does_eq (gv_yes hg) rfl) (by decide) ?_
    refine wd (does_and rfl (fun hp => (gv_yes (and_1 hp)))) ?_
    refine wd (does_mv_b rfl) ?_
    refine wl_guard (j := 20) (pol := true) rfl rfl rfl (by decide) (fun hg => does_mv_i rfl) (by decide) ?_
    refine wl_guard (j := 20) (pol := true) rfl rfl rfl (by decide) (fun hg => does_eq (gv_yes hg) rfl) (by decide) ?_
    refine wd (does_and rfl (fun hp => (gv_yes (and_1 hp)))) ?_
    refine wd (does_mv_b rfl) ?_
    refine wl_guard (j := 24) (pol := true) rfl rfl rfl (by decide) (fun hg => does_mv_b rfl) (by decide) ?_
    refine wl_guard (j := 24) (pol := true) rfl rfl rfl (by decide) (fun hg => does_not (gv_yes hg)) (by decide) ?_
    refine wd (does_and rfl (fun hp => (gv_yes (and_1 hp)))) ?_
    refine wd (does_mv_b rfl) ?_
    refine wl_guard (j := 28) (pol := true) rfl rfl rfl (by decide) (fun hg => does_mv_i rfl) (by decide) ?_
    refine wl_guard (j := 28) (pol := true) rfl rfl rfl (by decide) (fun hg => does_eq (gv_yes hg) rfl) (by decide) ?_
    refine wd (does_and rfl (fun hp => (gv_yes (and_1 hp)))) ?_
    refine wd (does_mv_b rfl) ?_
    obtain ⟨r27, er27, H⟩ := bind_ex H
    refine wl_gcall (j := 32) (pol := true) rfl rfl rfl (by decide) (fun hg => does_callg ca_law09_heads rfl) (by decide) (fun hg => (have ⟨M, SS⟩ := S.lend ((.z 1 rfl .nil)); quiet (law09_heads_st SS (if_t (by simpa using hg) er27)) (fun v w' h => ⟨h.1, _, _, h.2⟩))) fun w28 hw28 => ?_
    replace S := S.ext hw28
    refine wd (does_and rfl (fun hp => (gv_yes (and_1 hp)))) ?_
    refine wd (does_as_b rfl) ?_
    refine wl_nil ?_
    refine wc_ret ?_
    refine ⟨_, (rets1 (retOne_tmp rfl)), ?_⟩
    replace S : St A N w w28 [] [] := S.arr [] []
    obtain rfl := Option.some.inj H
    exact ⟨rfl, S⟩
  replace H := if_f hc26 H
  refine wc_skip ?_
  refine wc_seq (wc_region ?_)
  refine wd (does_mv_p rfl) ?_
  refine wd (does_load_agg ag_Sq rfl ((S.blk 4).all _ (Sq.len _)) (Sq.len _)) ?_
  obtain ⟨r29, er29, H⟩ := bind_ex H
  obtain ⟨B31, MB31, SB31, back⟩ := S.calln 0 ((.o 3 rfl .nil))
  refine wl_call (does_call ca_ref09_Apply) (by decide) (ref09_Apply_st SB31 er29) ?_
  rintro _ w30 ⟨rfl, S2⟩
  replace S : St A N w w30 [oS T_api_Rule 1 IC s18 r15.1, oS T_int 1 IC s19 r15.2.1, oT a6 r3.1, oR a7 r3.2.1, oB b2 T_Sq (Sq.C a1)] [fS 4 Nd.C s_0 a0, oTz] := back _ _ _ _ S2 rfl
  clear back S2 SB31
  refine wd (does_mv_t rfl) ?_
  refine wd (does_extract rfl rfl) ?_
  refine wd (does_extract rfl rfl) ?_
  refine wd (does_as_i rfl) ?_
  refine wd (does_as_i rfl) ?_
  refine wl_nil ?_
  refine wc_seq (wc_region ?_)
  refine wd (does_mv_p rfl) ?_
  refine wd (does_load_agg ag_Sq rfl ((S.blk 4).all _ (Sq.len _)) (Sq.len _)) ?_
  obtain ⟨r32, er32, H⟩ := bind_ex H
  obtain ⟨B34, MB34, SB34, back⟩ := S.calln 0 ((.o 3 rfl .nil))
  refine wl_call (does_call ca_ref09_Choices) (by decide) (ref09_Choices_st SB34 er32) ?_
  rintro _ w33 ⟨s35, s36, rfl, S2⟩
  replace S : St A N w w33 [oS T_api_Rule 1 IC s35 r32.1, oS T_int 1 IC s36 r32.2, oS T_api_Rule 1 IC s18 r15.1, oS T_int 1 IC s19 r15.2.1, oT a6 r3.1, oR a7 r3.2.1, oB b2 T_Sq (Sq.C a1)] [fS 4 Nd.C s_0 a0, oTz] := back _ _ _ _ S2 rfl
  clear back S2 SB34
  refine wd (does_mv_t rfl) ?_
  refine wd (does_extract rfl rfl) ?_
  refine wd (does_extract rfl rfl) ?_
  refine wd (does_as_l rfl) ?_
  refine wd (does_as_l rfl) ?_
  refine wl_nil ?_
  refine wc_seq (wc_region ?_)
  refine wd (does_mv_i rfl) ?_
  refine wd (does_mv_i rfl) ?_
  refine wd (does_eq rfl rfl) ?_
  refine wd (does_mv_b rfl) ?_
  refine wl_guard (j := 3) (pol := true) rfl rfl rfl (by decide) (fun hg => does_mv_i rfl) (by decide) ?_
  refine wl_guard (j := 3) (pol := true) rfl rfl rfl (by decide) (fun hg => does_mv_i rfl) (by decide) ?_
  refine wl_guard (j := 3) (pol := true) rfl rfl rfl (by decide) (fun hg => does_eq (gv_yes hg) (gv_yes hg)) (by decide) ?_
  refine wd (does_and rfl (fun hp => (gv_yes (and_1 hp)))) ?_
  refine wd (does_mv_b rfl) ?_
  refine wl_guard (j := 8) (pol := true) rfl rfl rfl (by decide) (fun hg => does_mv_i rfl) (by decide) ?_
  refine wl_guard (j := 8) (pol := true) rfl rfl rfl (by decide) (fun hg => does_eq (gv_yes hg) rfl) (by decide) ?_
  refine wd (does_and rfl (fun hp => (gv_yes (and_1 hp)))) ?_
  refine wd (does_mv_b rfl) ?_
  refine wl_guard (j := 12) (pol := true) rfl rfl rfl (by decide) (fun hg => does_mv_l rfl) (by decide) ?_
  refine wl_guard (j := 12) (pol := true) rfl rfl rfl (by decide) (fun hg => does_mv_l rfl) (by decide) ?_
  obtain ⟨r37, er37, H⟩ := bind_ex H
  refine wl_gcall (j := 12) (pol := true) rfl rfl rfl (by decide) (fun hg => does_callg ca_law09_rules (cons2 (gv_yes hg) (cons2 (gv_yes hg) rfl))) (by decide) (fun hg => (have ⟨M, SS⟩ := S.lend ((.s 2 rfl (.s 0 rfl .nil))); quiet (law09_rules_st SS (if_t (by simpa using hg) er37)) (fun v w' h => ⟨h.1, _, _, h.2⟩))) fun w38 hw38 => ?_
  replace S := S.ext hw38
  refine wd (does_and rfl (fun hp => (gv_yes (and_1 hp)))) ?_
  refine wd (does_mv_b rfl) ?_
  refine wl_guard (j := 17) (pol := true) rfl rfl rfl (by decide) (fun hg => does_mv_l rfl) (by decide) ?_
  refine wl_guard (j := 17) (pol := true) rfl rfl rfl (by decide) (fun hg => does_mv_l rfl) (by decide) ?_
  obtain ⟨r39, er39, H⟩ := bind_ex H
  refine wl_gcall (j := 17) (pol := true) rfl rfl rfl (by decide) (fun hg => does_callg ca_ref03_Ints (cons2 (gv_yes hg) (cons2 (gv_yes hg) rfl))) (by decide) (fun hg => (have ⟨M, SS⟩ := S.lend ((.s 3 rfl (.s 1 rfl .nil))); quiet (ref03_Ints_st SS (if_t (by simpa using hg) er39)) (fun v w' h => ⟨h.1, _, _, h.2⟩))) fun w40 hw40 => ?_
  replace S := S.ext hw40
  refine wd (does_and rfl (fun hp => (gv_yes (and_1 hp)))) ?_
  refine wd (does_mv_b rfl) ?_
  refine wl_guard (j := 22) (pol := true) rfl rfl rfl (by decide) (fun hg => does_mv_i rfl) (by decide) ?_
  refine wl_guard (j := 22) (pol := true) rfl rfl rfl (by decide) (fun hg => does_eq (gv_yes hg) rfl) (by decide) ?_
  refine wd (does_and rfl (fun hp => (gv_yes (and_1 hp)))) ?_
  refine wd (does_mv_b rfl) ?_
  refine wl_guard (j := 26) (pol := true) rfl rfl rfl (by decide) (fun hg => does_mv_b rfl) (by decide) ?_
  refine wl_guard (j := 26) (pol := true) rfl rfl rfl (by decide) (fun hg => does_mv_p rfl) (by decide) ?_
  refine wl_guard (j := 26) (pol := true) rfl rfl rfl (by decide) (fun hg => does_load_agg ag_Sq rfl ((S.blk 6).all _ (Sq.len _)) (Sq.len _)) (by decide) ?_
  refine wl_guard (j := 26) (pol := true) rfl rfl rfl (by decide) (fun hg => does_mv_i rfl) (by decide) ?_
  refine wl_guard (j := 26) (pol := true) rfl rfl rfl (by decide) (fun hg => does_mv_i rfl) (by decide) ?_
  obtain ⟨r41, er41, H⟩ := bind_ex H
  refine wl_gcall (j := 26) (pol := true) rfl rfl rfl (by decide) (fun hg => does_callg ca_ref09_Fits (cons2 (gv_yes hg) (cons2 (gv_yes hg) (cons2 (gv_yes hg) (cons2 (gv_yes hg) rfl))))) (by decide) (fun hg => (have ⟨M, SS⟩ := S.lend ((.o 5 rfl .nil)); quiet (ref09_Fits_st SS (if_t (by simpa using hg) er41)) (fun v w' h => ⟨h.1, _, _, h.2⟩))) fun w42 hw42 => ?_
  replace S := S.ext hw42
  refine wl_guard (j := 26) (pol := true) rfl rfl rfl (by decide) (fun hg => does_eqb un_bool (gv_yes hg) (gv_yes hg)) (by decide) ?_
  refine wd (does_and rfl (fun hp => (gv_yes (and_1 hp)))) ?_
  refine wd (does_mv_b rfl) ?_
  refine wl_guard (j := 35) (pol := true) rfl rfl rfl (by decide) (fun hg => does_mv_i rfl) (by decide) ?_
  refine wl_guard (j := 35) (pol := true) rfl rfl rfl (by decide) (fun hg => does_eq (gv_yes hg) rfl) (by decide) ?_
  refine wd (does_and rfl (fun hp => (gv_yes (and_1 hp)))) ?_
  refine wd (does_mv_b rfl) ?_
  refine wl_guard (j := 39) (pol := true) rfl rfl rfl (by decide) (fun hg => does_mv_p rfl) (by decide) ?_
  refine wl_guard (j := 39) (pol := true) rfl rfl rfl (by decide) (fun hg => does_mv_p rfl) (by decide) ?_
  obtain ⟨r43, er43, H⟩ := bind_ex H
  refine wl_gcall (j := 39) (pol := true) rfl rfl rfl (by decide) (fun hg => does_callg ca_law03_Like (cons2 (gv_yes hg) (cons2 (gv_yes hg) rfl))) (by decide) (fun hg => (have ⟨M, SS⟩ := S.lend ((.o 4 rfl (.o 5 rfl .nil))); quiet (law03_Like_st SS (if_t (by simpa using hg) er43)) (fun v w' h => ⟨h.1, _, _, h.2⟩))) fun w44 hw44 => ?_
  replace S := S.ext hw44
  refine wd (does_and rfl (fun hp => (gv_yes (and_1 hp)))) ?_
  refine wd (does_mv_b rfl) ?_
  obtain ⟨r45, er45, H⟩ := bind_ex H
  refine wl_gcall (j := 44) (pol := true) rfl rfl rfl (by decide) (fun hg => does_callg ca_law09_heads rfl) (by decide) (fun hg => (have ⟨M, SS⟩ := S.lend ((.z 1 rfl .nil)); quiet (law09_heads_st SS (if_t (by simpa using hg) er45)) (fun v w' h => ⟨h.1, _, _, h.2⟩))) fun w46 hw46 => ?_
  replace S := S.ext hw46
  refine wd (does_and rfl (fun hp => (gv_yes (and_1 hp)))) ?_
  refine wd (does_as_b rfl) ?_
  refine wl_nil ?_
  refine wc_ret ?_
  refine ⟨_, (rets1 (retOne_tmp rfl)), ?_⟩
  replace S : St A N w w46 [] [] := S.arr [] []
  obtain rfl := Option.some.inj H
  exact ⟨rfl, S⟩
end Go.Proofs.YtjjkhjieegmphaaDoor
