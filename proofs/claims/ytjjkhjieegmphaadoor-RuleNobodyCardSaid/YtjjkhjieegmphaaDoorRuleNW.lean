/- Chapter 09, a table that no call made: the walks. Printed by pp.py, a program of mine. -/
import Derived.Test.YtjjkhjieegmphaaDoorRuleNP
import Derived.Test.YtjjkhjieegmphaaDoorRuleHW
namespace Go.Proofs.YtjjkhjieegmphaaDoor
open Gw Go.RowKit
set_option linter.unusedVariables false
set_option linter.unusedSimpArgs false

theorem law09_nobody_st {A : Nat → Prop} {N : Oth} {w : World} {a0 : Tb} {a_0 : Option Addr} {a1 : Sq} {a2 : Int} {a3 : Int} (S : St A N w w [oT a_0 a0] [oTz]) {r : Tb × Bool} (H : law09_nobody.f a0 a1 a2 a3 = some r) :
    Calls PP F_law09_nobody #[.pointer a_0, .agg (Sq.C a1).toArray, .int .i64 a2, .int .i64 a3] w fun e w' => ∃ v, e = .returned v ∧ (v = .bool r.2 ∧ St A N w w' [oT a_0 r.1] []) := by
  unfold law09_nobody.f at H
  refine calls_of_wc (n := 90) fn_law09_nobody rfl rfl (by simp) ?_
  refine wc_seq (wc_region ?_)
  refine wl_box_agg rfl (by decide) fun b2 w1 hw1 => ?_
  replace S : St A N w w1 [oB b2 T_Sq (Sq.C a1), oT a_0 a0] [oTz] := S.new hw1
  refine wd (does_as_b rfl) ?_
  refine wl_nil ?_
  refine wc_seq (wc_region ?_)
  refine wd (does_mv_p rfl) ?_
  refine wd (does_load_agg ag_Sq rfl ((S.blk 0).all _ (Sq.len _)) (Sq.len _)) ?_
  obtain ⟨r3, er3, H⟩ := bind_ex H
  obtain ⟨B5, MB5, SB5, back⟩ := S.calln 0 ((.o 1 rfl (.z 0 rfl .nil)))
  refine wl_call (does_call ca_rule_Apply) (by decide) (rule_Apply_st SB5 er3) ?_
  rintro _ w4 ⟨rfl, S2⟩
  replace S : St A N w w4 [oB b2 T_Sq (Sq.C a1), oT a_0 a0] [oTz] := back _ _ _ _ S2 rfl
  clear back S2 SB5
  refine wd (does_mv_t rfl) ?_
  refine wd (does_extract rfl rfl) ?_
  refine wd (does_extract rfl rfl) ?_
  refine wd (does_extract rfl rfl) ?_
  refine wd (does_as_i rfl) ?_
  refine wd (does_as_i rfl) ?_
  refine wd (does_as_i rfl) ?_
  refine wl_nil ?_
  refine wc_seq (wc_region ?_)
  refine wd (does_mv_p rfl) ?_
  refine wd (does_load_agg ag_Sq rfl ((S.blk 0).all _ (Sq.len _)) (Sq.len _)) ?_
  obtain ⟨r6, er6, H⟩ := bind_ex H
  obtain ⟨B8, MB8, SB8, back⟩ := S.calln 0 ((.o 1 rfl (.z 0 rfl .nil)))
  refine wl_call (does_call ca_rule_Choices) (by decide) (rule_Choices_st SB8 er6) ?_
  rintro _ w7 ⟨s9, s10, rfl, S2⟩
  replace S : St A N w w7 [oS T_api_Rule 1 IC s9 r6.1, oS T_int 1 IC s10 r6.2.1, oB b2 T_Sq (Sq.C a1), oT a_0 a0] [oTz] := back _ _ _ _ S2 rfl
  clear back S2 SB8
  refine wd (does_mv_t rfl) ?_
  refine wd (does_extract rfl rfl) ?_
  refine wd (does_extract rfl rfl) ?_
  refine wd (does_extract rfl rfl) ?_
  refine wd (does_as_l rfl) ?_
  refine wd (does_as_l rfl) ?_
  refine wd (does_as_i rfl) ?_
  refine wl_nil ?_
  refine wc_seq (wc_region ?_)
  refine wd (does_mv_p rfl) ?_
  refine wd (does_load_agg ag_Sq rfl ((S.blk 2).all _ (Sq.len _)) (Sq.len _)) ?_
  refine wd (does_mv_i rfl) ?_
  refine wd (does_mv_i rfl) ?_
  obtain ⟨r11, er11, H⟩ := bind_ex H
  obtain ⟨B13, MB13, SB13, back⟩ := S.calln 0 ((.o 3 rfl (.z 0 rfl .nil)))
  refine wl_call (does_call ca_rule_Fits) (by decide) (rule_Fits_st SB13 er11) ?_
  rintro _ w12 ⟨rfl, S2⟩
  replace S : St A N w w12 [oS T_api_Rule 1 IC s9 r6.1, oS T_int 1 IC s10 r6.2.1, oB b2 T_Sq (Sq.C a1), oT a_0 a0] [oTz] := back _ _ _ _ S2 rfl
  clear back S2 SB13
  refine wd (does_mv_t rfl) ?_
  refine wd (does_extract rfl rfl) ?_
  refine wd (does_extract rfl rfl) ?_
  refine wd (does_as_b rfl) ?_
  refine wd (does_as_i rfl) ?_
  refine wl_nil ?_
  refine wc_seq (wc_region ?_)
  refine wd (does_mv_p rfl) ?_
  refine wd (does_load_agg ag_Sq rfl ((S.blk 2).all _ (Sq.len _)) (Sq.len _)) ?_
  refine wd (does_mv_i rfl) ?_
  refine wd (does_mv_i rfl) ?_
  obtain ⟨r14, er14, H⟩ := bind_ex H
  replace S : St A N w w12 [oT a_0 a0, oS T_api_Rule 1 IC s9 r6.1, oS T_int 1 IC s10 r6.2.1, oB b2 T_Sq (Sq.C a1)] [oTz] := S.front 3
  obtain ⟨B16, MB16, SB16, back⟩ := S.calln 1 ((.z 0 rfl .nil))
  refine wl_call (does_call ca_rule_Premises) (by decide) (rule_Premises_st SB16 er14) ?_
  rintro _ w15 ⟨s17, rfl, S2⟩
  replace S : St A N w w15 [oT a_0 r14.1, oS T_Sq 17 Sq.C s17 r14.2.1, oS T_api_Rule 1 IC s9 r6.1, oS T_int 1 IC s10 r6.2.1, oB b2 T_Sq (Sq.C a1)] [oTz] := back _ _ _ _ S2 rfl
  clear back S2 SB16
  refine wd (does_mv_t rfl) ?_
  refine wd (does_extract rfl rfl) ?_
  refine wd (does_extract rfl rfl) ?_
  refine wd (does_as_l rfl) ?_
  refine wd (does_as_i rfl) ?_
  refine wl_nil ?_
  refine wc_seq (wc_region ?_)
  refine wd (does_mv_i rfl) ?_
  refine wd (does_eq rfl rfl) ?_
  refine wd (does_mv_b rfl) ?_
  refine wl_guard (j := 2) (pol := true) rfl rfl rfl (by decide) (fun hg => does_mv_i rfl) (by decide) ?_
  refine wl_guard (j := 2) (pol := true) rfl rfl rfl (by decide) (fun hg => does_eq (gv_yes hg) rfl) (by decide) ?_
  refine wd (does_and rfl (fun hp => (gv_yes (and_1 hp)))) ?_
  refine wd (does_mv_b rfl) ?_
  refine wl_guard (j := 6) (pol := true) rfl rfl rfl (by decide) (fun hg => does_mv_i rfl) (by decide) ?_
  refine wl_guard (j := 6) (pol := true) rfl rfl rfl (by decide) (fun hg => does_eq (gv_yes hg) rfl) (by decide) ?_
  refine wd (does_and rfl (fun hp => (gv_yes (and_1 hp)))) ?_
  refine wd (does_mv_b rfl) ?_
  refine wl_guard (j := 10) (pol := true) rfl rfl rfl (by decide) (fun hg => does_mv_l rfl) (by decide) ?_
  refine wl_guard (j := 10) (pol := true) rfl rfl rfl (by decide) (fun hg => does_lenR sl_L_api_Rule (gv_yes hg) (S.rdO 2)) (by decide) ?_
  refine wl_guard (j := 10) (pol := true) rfl rfl rfl (by decide) (fun hg => does_eq (gv_yes hg) rfl) (by decide) ?_
  refine wd (does_and rfl (fun hp => (gv_yes (and_1 hp)))) ?_
  refine wd (does_mv_b rfl) ?_
  refine wl_guard (j := 15) (pol := true) rfl rfl rfl (by decide) (fun hg => does_mv_l rfl) (by decide) ?_
  refine wl_guard (j := 15) (pol := true) rfl rfl rfl (by decide) (fun hg => does_lenR sl_L_int (gv_yes hg) (S.rdO 3)) (by decide) ?_
  refine wl_guard (j := 15) (pol := true) rfl rfl rfl (by decide) (fun hg => does_eq (gv_yes hg) rfl) (by decide) ?_
  refine wd (does_and rfl (fun hp => (gv_yes (and_1 hp)))) ?_
  refine wd (does_mv_b rfl) ?_
  refine wl_guard (j := 20) (pol := true) rfl rfl rfl (by decide) (fun hg => does_mv_i rfl) (by decide) ?_
  refine wl_guard (j := 20) (pol := true) rfl rfl rfl (by decide) (fun hg => does_eq (gv_yes hg) rfl) (by decide) ?_
  refine wd (does_and rfl (fun hp => (gv_yes (and_1 hp)))) ?_
  refine wd (does_mv_b rfl) ?_
  refine wl_guard (j := 24) (pol := true) rfl rfl rfl (by decide) (fun hg => does_mv_b rfl) (by decide) ?_
  refine wl_guard (j := 24) (pol := true) rfl rfl rfl (by decide) (fun hg => does_not (gv_yes hg)) (by decide) ?_
  refine wd (does_and rfl (fun hp => (gv_yes (and_1 hp)))) ?_
  refine wd (does_mv_b rfl) ?_
  refine wl_guard (j := 28) (pol := true) rfl rfl rfl (by decide) (fun hg => does_mv_i rfl) (by decide) ?_
  refine wl_guard (j := 28) (pol := true) rfl rfl rfl (by decide) (fun hg => does_eq (gv_yes hg) rfl) (by decide) ?_
  refine wd (does_and rfl (fun hp => (gv_yes (and_1 hp)))) ?_
  refine wd (does_mv_b rfl) ?_
  refine wl_guard (j := 32) (pol := true) rfl rfl rfl (by decide) (fun hg => does_mv_l rfl) (by decide) ?_
  refine wl_guard (j := 32) (pol := true) rfl rfl rfl (by decide) (fun hg => does_lenR sl_L_api_Seq (gv_yes hg) (S.rdO 1)) (by decide) ?_
  refine wl_guard (j := 32) (pol := true) rfl rfl rfl (by decide) (fun hg => does_eq (gv_yes hg) rfl) (by decide) ?_
  refine wd (does_and rfl (fun hp => (gv_yes (and_1 hp)))) ?_
  refine wd (does_mv_b rfl) ?_
  refine wl_guard (j := 37) (pol := true) rfl rfl rfl (by decide) (fun hg => does_mv_i rfl) (by decide) ?_
  refine wl_guard (j := 37) (pol := true) rfl rfl rfl (by decide) (fun hg => does_eq (gv_yes hg) rfl) (by decide) ?_
  refine wd (does_and rfl (fun hp => (gv_yes (and_1 hp)))) ?_
  refine wd (does_as_b rfl) ?_
  refine wl_nil ?_
  refine wc_ret ?_
  refine ⟨_, (rets1 (retOne_tmp rfl)), ?_⟩
  replace S : St A N w w15 [oT a_0 r14.1] [] := S.arr [0] []
  obtain rfl := Option.some.inj H
  exact ⟨rfl, S⟩
theorem law09_RuleNobody_st {A : Nat → Prop} {N : Oth} {w : World} {a0 : Sq} {a1 : Int} {a2 : Int} (S : St A N w w [] [oTz]) {r : Bool} (H : law09_RuleNobody.f a0 a1 a2 = some r) :
    Calls PP F_law09_RuleNobody #[.agg (Sq.C a0).toArray, .int .i64 a1, .int .i64 a2] w fun e w' => ∃ v, e = .returned v ∧ (v = .bool r ∧ St A N w w' [] []) := by
  unfold law09_RuleNobody.f at H
  refine calls_of_wc (n := 24) fn_law09_RuleNobody rfl rfl (by simp) ?_
  refine wc_seq (wc_region ?_)
  refine wl_box_agg rfl (by decide) fun b2 w1 hw1 => ?_
  replace S : St A N w w1 [oB b2 T_Sq (Sq.C a0)] [oTz] := S.new hw1
  refine wd (does_as_b rfl) ?_
  refine wl_nil ?_
  refine wc_seq (wc_region ?_)
  replace S : St A N w w1 [oT none none, oB b2 T_Sq (Sq.C a0)] [oTz] := S.add (Ext.refl _) (oT.nil _) (fun _ x => x.elim)
  refine wd (does_as_p rfl) ?_
  refine wl_nil ?_
  refine wc_seq (wc_region ?_)
  refine wd (does_mv_p rfl) ?_
  refine wd (does_load_agg ag_Sq rfl ((S.blk 1).all _ (Sq.len _)) (Sq.len _)) ?_
  refine wd (does_mv_i rfl) ?_
  refine wd (does_mv_i rfl) ?_
  obtain ⟨r3, er3, H⟩ := bind_ex H
  obtain ⟨B5, MB5, SB5, back⟩ := S.calln 1 ((.z 0 rfl .nil))
  refine wl_call (does_call ca_law09_nobody) (by decide) (law09_nobody_st SB5 er3) ?_
  rintro _ w4 ⟨rfl, S2⟩
  replace S : St A N w w4 [oT none r3.1, oB b2 T_Sq (Sq.C a0)] [oTz] := back _ _ _ _ S2 rfl
  clear back S2 SB5
  refine wd (does_mv_b rfl) ?_
  refine wl_guard (j := 5) (pol := true) rfl rfl rfl (by decide) (fun hg => does_build bu_Tab Bld.nil) (by decide) ?_
  obtain ⟨hg6, H⟩ := chk_ex H
  refine wl_gon (j := 5) (pol := true) rfl rfl rfl (by decide) (by simpa using hg6) ?_
  refine wl_box_agg (gv_yes (by simpa using hg6)) (by decide) fun b8 w7 hw7 => ?_
  replace S : St A N w w7 [oT (some ⟨b8, 0, none⟩) none, oT none r3.1, oB b2 T_Sq (Sq.C a0)] [oTz] := (S.new hw7).zeroT
  refine wl_guard (j := 5) (pol := true) rfl rfl rfl (by decide) (fun hg => does_load_agg ag_Sq rfl ((S.blk 2).all _ (Sq.len _)) (Sq.len _)) (by decide) ?_
  refine wl_guard (j := 5) (pol := true) rfl rfl rfl (by decide) (fun hg => does_mv_i rfl) (by decide) ?_
  refine wl_guard (j := 5) (pol := true) rfl rfl rfl (by decide) (fun hg => does_mv_i rfl) (by decide) ?_
  obtain ⟨hg9, H⟩ := chk_ex H
  refine wl_gon (j := 5) (pol := true) rfl rfl rfl (by decide) (by simpa using hg9) ?_
  obtain ⟨r10, er10, H⟩ := bind_ex H
  obtain ⟨B12, MB12, SB12, back⟩ := S.calln 1 ((.z 0 rfl .nil))
  refine wl_call (does_callg ca_law09_nobody (cons2 rfl (cons2 (gv_yes (by simpa using hg9)) (cons2 (gv_yes (by simpa using hg9)) (cons2 (gv_yes (by simpa using hg9)) rfl))))) (by decide) (law09_nobody_st SB12 er10) ?_
  rintro _ w11 ⟨rfl, S2⟩
  replace S : St A N w w11 [oT (some ⟨b8, 0, none⟩) r10.1, oT none r3.1, oB b2 T_Sq (Sq.C a0)] [oTz] := back _ _ _ _ S2 rfl
  clear back S2 SB12
  refine wd (does_and rfl (fun hp => rfl)) ?_
  refine wd (does_mv_b rfl) ?_
  obtain ⟨r13, er13, H⟩ := bind_ex H
  refine wl_gcall (j := 13) (pol := true) rfl rfl rfl (by decide) (fun hg => does_callg ca_law09_heads rfl) (by decide) (fun hg => (have ⟨M, SS⟩ := S.lend ((.z 0 rfl .nil)); quiet (law09_heads_st SS (if_t (by simpa using hg) er13)) (fun v w' h => ⟨h.1, _, _, h.2⟩))) fun w14 hw14 => ?_
  replace S := S.ext hw14
  refine wd (does_and rfl (fun hp => (gv_yes (and_1 hp)))) ?_
  refine wd (does_as_b rfl) ?_
  refine wl_nil ?_
  refine wc_ret ?_
  refine ⟨_, (rets1 (retOne_tmp rfl)), ?_⟩
  replace S : St A N w w14 [] [] := S.arr [] []
  obtain rfl := Option.some.inj H
  exact ⟨rfl, S⟩
end Go.Proofs.YtjjkhjieegmphaaDoor
