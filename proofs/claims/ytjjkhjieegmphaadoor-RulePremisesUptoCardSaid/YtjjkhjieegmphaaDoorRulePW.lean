/- Chapter 09, RulePremises: the walks. Printed by pp.py, a program of mine. -/
import Derived.Test.YtjjkhjieegmphaaDoorRulePP
import Derived.Test.YtjjkhjieegmphaaDoorRuleDW
namespace Go.Proofs.YtjjkhjieegmphaaDoor
open Gw Go.RowKit
set_option linter.unusedVariables false
set_option linter.unusedSimpArgs false

theorem law09_RulePremises_st {A : Nat → Prop} {N : Oth} {w : World} {a0 : List Nd} {s_0 : SlV} {a1 : Sq} {a2 : Int} {a3 : Int} (S : St A N w w [] [fS 4 Nd.C s_0 a0, oTz]) {r : Bool} (H : law09_RulePremises.f a0 a1 a2 a3 = some r) :
    Calls PP F_law09_RulePremises #[s_0.v, .agg (Sq.C a1).toArray, .int .i64 a2, .int .i64 a3] w fun e w' => ∃ v, e = .returned v ∧ (v = .bool r ∧ St A N w w' [] []) := by
  unfold law09_RulePremises.f at H
  refine calls_of_wc (n := 76) fn_law09_RulePremises rfl rfl (by simp) ?_
  refine wc_seq (wc_region ?_)
  refine wl_box_agg rfl (by decide) fun b2 w1 hw1 => ?_
  replace S : St A N w w1 [oB b2 T_Sq (Sq.C a1)] [fS 4 Nd.C s_0 a0, oTz] := S.new hw1
  refine wd (does_as_b rfl) ?_
  refine wl_nil ?_
  refine wc_seq (wc_region ?_)
  refine wd (does_mv_l rfl) ?_
  obtain ⟨r3, er3, H⟩ := bind_ex H
  obtain ⟨B5, MB5, SB5, back⟩ := S.calln 0 ((.z 0 rfl .nil))
  refine wl_call (does_call ca_law03_Both) (by decide) (law03_Both_st SB5 er3) ?_
  rintro _ w4 ⟨a6, a7, rfl, S2⟩
  replace S : St A N w w4 [oT a6 r3.1, oR a7 r3.2.1, oB b2 T_Sq (Sq.C a1)] [fS 4 Nd.C s_0 a0, oTz] := back _ _ _ _ S2 rfl
  clear back S2 SB5
  refine wd (does_mv_t rfl) ?_
  refine wd (does_extract rfl rfl) ?_
  refine wd (does_extract rfl rfl) ?_
  refine wd (does_extract rfl rfl) ?_
  refine wd (does_as_p rfl) ?_
  refine wd (does_as_p rfl) ?_
  refine wd (does_as_b rfl) ?_
  refine wl_nil ?_
  refine wc_seq (wc_seq (wc_region ?_))
  refine wd (does_mv_b rfl) ?_
  refine wd (does_not rfl) ?_
  refine wl_nil ?_
  refine wc_if rfl (fun hc8 => ?_) (fun hc8 => ?_)
  · replace H := if_t hc8 H
    refine wc_seq (wc_region ?_)
    obtain ⟨r9, er9, H⟩ := bind_ex H
    obtain ⟨B11, MB11, SB11, back⟩ := S.calln 0 ((.z 1 rfl .nil))
    refine wl_call (does_call ca_law09_heads) (by decide) (law09_heads_st SB11 er9) ?_
    rintro _ w10 ⟨rfl, S2⟩
    replace S : St A N w w10 [oT a6 r3.1, oR a7 r3.2.1, oB b2 T_Sq (Sq.C a1)] [fS 4 Nd.C s_0 a0, oTz] := back _ _ _ _ S2 rfl
    clear back S2 SB11
    refine wd (does_as_b rfl) ?_
    refine wl_nil ?_
    refine wc_ret ?_
    refine ⟨_, (rets1 (retOne_tmp rfl)), ?_⟩
    replace S : St A N w w10 [] [] := S.arr [] []
    obtain rfl := Option.some.inj H
    exact ⟨rfl, S⟩
  replace H := if_f hc8 H
  refine wc_skip ?_
  refine wc_seq (wc_region ?_)
  refine wd (does_mv_p rfl) ?_
  refine wd (does_load_agg ag_Sq rfl ((S.blk 2).all _ (Sq.len _)) (Sq.len _)) ?_
  refine wd (does_mv_i rfl) ?_
  refine wd (does_mv_i rfl) ?_
  obtain ⟨r12, er12, H⟩ := bind_ex H
  obtain ⟨B14, MB14, SB14, back⟩ := S.calln 1 ((.z 1 rfl .nil))
  refine wl_call (does_call ca_rule_Premises) (by decide) (rule_Premises_st SB14 er12) ?_
  rintro _ w13 ⟨s15, rfl, S2⟩
  replace S : St A N w w13 [oT a6 r12.1, oS T_Sq 17 Sq.C s15 r12.2.1, oR a7 r3.2.1, oB b2 T_Sq (Sq.C a1)] [fS 4 Nd.C s_0 a0, oTz] := back _ _ _ _ S2 rfl
  clear back S2 SB14
  refine wd (does_mv_t rfl) ?_
  refine wd (does_extract rfl rfl) ?_
  refine wd (does_extract rfl rfl) ?_
  refine wd (does_as_l rfl) ?_
  refine wd (does_as_i rfl) ?_
  refine wl_nil ?_
  refine wc_seq (wc_seq (wc_region ?_))
  refine wd (does_mv_p rfl) ?_
  refine wd (does_load_agg ag_Sq rfl ((S.blk 3).all _ (Sq.len _)) (Sq.len _)) ?_
  obtain ⟨r16, er16, H⟩ := bind_ex H
  obtain ⟨B18, MB18, SB18, back⟩ := S.calln 0 ((.o 2 rfl .nil))
  refine wl_call (does_call ca_ref09_Right) (by decide) (ref09_Right_st SB18 er16) ?_
  rintro _ w17 ⟨rfl, S2⟩
  replace S : St A N w w17 [oT a6 r12.1, oS T_Sq 17 Sq.C s15 r12.2.1, oR a7 r3.2.1, oB b2 T_Sq (Sq.C a1)] [fS 4 Nd.C s_0 a0, oTz] := back _ _ _ _ S2 rfl
  clear back S2 SB18
  refine wd (does_not rfl) ?_
  refine wl_nil ?_
  refine wc_if rfl (fun hc19 => ?_) (fun hc19 => ?_)
  · replace H := if_t hc19 H
    refine wc_seq (wc_region ?_)
    refine wd (does_mv_l rfl) ?_
    refine wd (does_lenR sl_L_api_Seq rfl (S.rdO 1)) ?_
    refine wd (does_eq rfl rfl) ?_
    refine wd (does_mv_b rfl) ?_
    refine wl_guard (j := 3) (pol := true) rfl rfl rfl (by decide) (fun hg => does_mv_i rfl) (by decide) ?_
    refine wl_guard (j := 3) (pol := true) rfl rfl rfl (by decide) (fun hg => does_eq (gv_yes hg) rfl) (by decide) ?_
    refine wd (does_and rfl (fun hp => (gv_yes (and_1 hp)))) ?_
    refine wd (does_mv_b rfl) ?_
    refine wl_guard (j := 7) (pol := true) rfl rfl rfl (by decide) (fun hg => does_mv_p rfl) (by decide) ?_
    refine wl_guard (j := 7) (pol := true) rfl rfl rfl (by decide) (fun hg => does_mv_p rfl) (by decide) ?_
    obtain ⟨r20, er20, H⟩ := bind_ex H
    refine wl_gcall (j := 7) (pol := true) rfl rfl rfl (by decide) (fun hg => does_callg ca_law03_Like (cons2 (gv_yes hg) (cons2 (gv_yes hg) rfl))) (by decide) (fun hg => (have ⟨M, SS⟩ := S.lend ((.o 0 rfl (.o 2 rfl .nil))); quiet (law03_Like_st SS (if_t (by simpa using hg) er20)) (fun v w' h => ⟨h.1, _, _, h.2⟩))) fun w21 hw21 => ?_
    replace S := S.ext hw21
    refine wd (does_and rfl (fun hp => (gv_yes (and_1 hp)))) ?_
    refine wd (does_mv_b rfl) ?_
    obtain ⟨r22, er22, H⟩ := bind_ex H
    refine wl_gcall (j := 12) (pol := true) rfl rfl rfl (by decide) (fun hg => does_callg ca_law09_heads rfl) (by decide) (fun hg => (have ⟨M, SS⟩ := S.lend ((.z 1 rfl .nil)); quiet (law09_heads_st SS (if_t (by simpa using hg) er22)) (fun v w' h => ⟨h.1, _, _, h.2⟩))) fun w23 hw23 => ?_
    replace S := S.ext hw23
    refine wd (does_and rfl (fun hp => (gv_yes (and_1 hp)))) ?_
    refine wd (does_as_b rfl) ?_
    refine wl_nil ?_
    refine wc_ret ?_
    refine ⟨_, (rets1 (retOne_tmp rfl)), ?_⟩
    replace S : St A N w w23 [] [] := S.arr [] []
    obtain rfl := Option.some.inj H
    exact ⟨rfl, S⟩
  replace H := if_f hc19 H
  refine wc_skip ?_
  refine wc_seq (wc_region ?_)
  refine wd (does_mv_p rfl) ?_
  refine wd (does_load_agg ag_Sq rfl ((S.blk 3).all _ (Sq.len _)) (Sq.len _)) ?_
  refine wd (does_mv_i rfl) ?_
  refine wd (does_mv_i rfl) ?_
  obtain ⟨r24, er24, H⟩ := bind_ex H
  replace S : St A N w w17 [oR a7 r3.2.1, oT a6 r12.1, oS T_Sq 17 Sq.C s15 r12.2.1, oB b2 T_Sq (Sq.C a1)] [fS 4 Nd.C s_0 a0, oTz] := S.front 2
  obtain ⟨B26, MB26, SB26, back⟩ := S.calln 1 ((.nil))
  refine wl_call (does_call ca_ref09_Premises) (by decide) (ref09_Premises_st SB26 er24) ?_
  rintro _ w25 ⟨s27, rfl, S2⟩
  replace S : St A N w w25 [oR a7 r24.1, oS T_Sq 17 Sq.C s27 r24.2.1, oT a6 r12.1, oS T_Sq 17 Sq.C s15 r12.2.1, oB b2 T_Sq (Sq.C a1)] [fS 4 Nd.C s_0 a0, oTz] := back _ _ _ _ S2 rfl
  clear back S2 SB26
  refine wd (does_mv_t rfl) ?_
  refine wd (does_extract rfl rfl) ?_
  refine wd (does_extract rfl rfl) ?_
  refine wd (does_as_l rfl) ?_
  refine wd (does_as_i rfl) ?_
  refine wl_nil ?_
  refine wc_seq (wc_region ?_)
  refine wd (does_mv_l rfl) ?_
  refine wd (does_mv_l rfl) ?_
  obtain ⟨r28, er28, H⟩ := bind_ex H
  obtain ⟨B30, MB30, SB30, back⟩ := S.calln 0 ((.s 3 rfl (.s 1 rfl .nil)))
  refine wl_call (does_call ca_ref09_Seqs) (by decide) (ref09_Seqs_st SB30 er28) ?_
  rintro _ w29 ⟨rfl, S2⟩
  replace S : St A N w w29 [oR a7 r24.1, oS T_Sq 17 Sq.C s27 r24.2.1, oT a6 r12.1, oS T_Sq 17 Sq.C s15 r12.2.1, oB b2 T_Sq (Sq.C a1)] [fS 4 Nd.C s_0 a0, oTz] := back _ _ _ _ S2 rfl
  clear back S2 SB30
  refine wd (does_mv_b rfl) ?_
  refine wl_guard (j := 3) (pol := true) rfl rfl rfl (by decide) (fun hg => does_mv_i rfl) (by decide) ?_
  refine wl_guard (j := 3) (pol := true) rfl rfl rfl (by decide) (fun hg => does_mv_i rfl) (by decide) ?_
  refine wl_guard (j := 3) (pol := true) rfl rfl rfl (by decide) (fun hg => does_eq (gv_yes hg) (gv_yes hg)) (by decide) ?_
  refine wd (does_and rfl (fun hp => (gv_yes (and_1 hp)))) ?_
  refine wd (does_mv_b rfl) ?_
  refine wl_guard (j := 8) (pol := true) rfl rfl rfl (by decide) (fun hg => does_mv_p rfl) (by decide) ?_
  refine wl_guard (j := 8) (pol := true) rfl rfl rfl (by decide) (fun hg => does_mv_p rfl) (by decide) ?_
  obtain ⟨r31, er31, H⟩ := bind_ex H
  refine wl_gcall (j := 8) (pol := true) rfl rfl rfl (by decide) (fun hg => does_callg ca_law03_Like (cons2 (gv_yes hg) (cons2 (gv_yes hg) rfl))) (by decide) (fun hg => (have ⟨M, SS⟩ := S.lend ((.o 2 rfl (.o 0 rfl .nil))); quiet (law03_Like_st SS (if_t (by simpa using hg) er31)) (fun v w' h => ⟨h.1, _, _, h.2⟩))) fun w32 hw32 => ?_
  replace S := S.ext hw32
  refine wd (does_and rfl (fun hp => (gv_yes (and_1 hp)))) ?_
  refine wd (does_mv_b rfl) ?_
  obtain ⟨r33, er33, H⟩ := bind_ex H
  refine wl_gcall (j := 13) (pol := true) rfl rfl rfl (by decide) (fun hg => does_callg ca_law09_heads rfl) (by decide) (fun hg => (have ⟨M, SS⟩ := S.lend ((.z 1 rfl .nil)); quiet (law09_heads_st SS (if_t (by simpa using hg) er33)) (fun v w' h => ⟨h.1, _, _, h.2⟩))) fun w34 hw34 => ?_
  replace S := S.ext hw34
  refine wd (does_and rfl (fun hp => (gv_yes (and_1 hp)))) ?_
  refine wd (does_as_b rfl) ?_
  refine wl_nil ?_
  refine wc_ret ?_
  refine ⟨_, (rets1 (retOne_tmp rfl)), ?_⟩
  replace S : St A N w w34 [] [] := S.arr [] []
  obtain rfl := Option.some.inj H
  exact ⟨rfl, S⟩
end Go.Proofs.YtjjkhjieegmphaaDoor
