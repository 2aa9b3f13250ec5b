/- Chapter 09, premises: the walks. Printed by pp.py, a program of mine. -/
import Derived.Test.YtjjkhjieegmphaaDoorRuleBP
import Derived.Test.YtjjkhjieegmphaaDoorRuleAW
namespace Go.Proofs.YtjjkhjieegmphaaDoor
open Gw Go.RowKit
set_option linter.unusedVariables false
set_option linter.unusedSimpArgs false

theorem rule_pair_1_st {A : Nat → Prop} {N : Oth} {w : World} {a0 : List Int} {s_0 : SlV} {a1 : Int} {b_1 : Nat} {a2 : Int} {b_2 : Nat} (S : St A N w w [] [fS 1 IC s_0 a0, oB b_1 T_int [.int .i64 a1], oB b_2 T_int [.int .i64 a2]]) {r : Int × Int} (H : rule_pair_1.f a0 a1 a2 = some r) :
    Calls PP F_rule_pair_1 #[s_0.v, .pointer (some ⟨b_1, 0, none⟩), .pointer (some ⟨b_2, 0, none⟩)] w fun e w' => ∃ v, e = .returned v ∧ (v = .tuple #[.int .i64 r.1, .int .i64 r.2] ∧ St A N w w' [] []) := by
  unfold rule_pair_1.f at H
  refine calls_of_wc (n := 8) fn_rule_pair_1 rfl rfl (by simp) ?_
  refine wc_seq (wc_region ?_)
  refine wd (does_as_i rfl) ?_
  refine wd (does_as_i rfl) ?_
  refine wl_nil ?_
  refine wc_seq ?_
  refine wc_quiet 3 (Ext w) hmix (by kernel_rfl) (by kernel_rfl) (Ext.drawn _) ?_
  refine wq_does (fun v K => does_load on_int rfl (((S.ext K).blkZ 1).cell rfl)) ?_
  refine wq_does (fun v K => does_load on_int rfl (((S.ext K).blkZ 2).cell rfl)) ?_
  refine wq_does (fun v K => does_as_i rfl) ?_
  refine wq_nil fun w1 K => ?_
  replace S := S.ext K
  clear K
  refine wd (does_as_i rfl) ?_
  refine wl_nil ?_
  refine wc_ret ?_
  refine ⟨_, (rets2 (retOne_tmp rfl) (retOne_tmp rfl)), ?_⟩
  replace S : St A N w w1 [] [] := S.arr [] []
  obtain rfl := Option.some.inj H
  exact ⟨rfl, S⟩
theorem rule_pair_st {A : Nat → Prop} {N : Oth} {w : World} {a0 : Int} {a1 : Int} (S : St A N w w [] []) {r : Int × Int} (H : rule_pair.f a0 a1 = some r) :
    Calls PP F_rule_pair #[.int .i64 a0, .int .i64 a1] w fun e w' => ∃ v, e = .returned v ∧ (∃ bo0 : Nat, ∃ bo1 : Nat, v = .func (.func F_rule_pair_1) #[] #[.pointer (some ⟨bo0, 0, none⟩), .pointer (some ⟨bo1, 0, none⟩)] ∧ (w.heap.size ≤ bo0 ∧ w.heap.size ≤ bo1) ∧ St A N w w' [] [oB bo0 T_int [.int .i64 r.1], oB bo1 T_int [.int .i64 r.2]]) := by
  unfold rule_pair.f at H
  refine calls_of_wc (n := 6) fn_rule_pair rfl rfl (by simp) ?_
  refine wc_seq (wc_region ?_)
  refine wl_box_i rfl (by decide) fun b2 w1 hw1 => ?_
  have lb2 : w.heap.size ≤ b2 := by have := S.size; have := hw1.at_; omega
  replace S : St A N w w1 [oB b2 T_int [.int .i64 a0]] [] := S.new hw1
  refine wl_box_i rfl (by decide) fun b4 w3 hw3 => ?_
  have lb4 : w.heap.size ≤ b4 := by have := S.size; have := hw3.at_; omega
  replace S : St A N w w3 [oB b4 T_int [.int .i64 a1], oB b2 T_int [.int .i64 a0]] [] := S.new hw3
  refine wd (does_assign rfl) ?_
  refine wl_nil ?_
  refine wc_seq (wc_region ?_)
  refine wd (does_funcl) ?_
  refine wd (does_as_f rfl) ?_
  refine wl_nil ?_
  refine wc_ret ?_
  replace S : St A N w w3 [oB b4 T_int [.int .i64 a1]] [oB b2 T_int [.int .i64 a0]] := S.frzB 1
  replace S : St A N w w3 [] [oB b4 T_int [.int .i64 a1], oB b2 T_int [.int .i64 a0]] := S.frzB 0
  refine ⟨_, (rets1 (retOne_tmp rfl)), ?_⟩
  replace S : St A N w w3 [] [oB b2 T_int [.int .i64 a0], oB b4 T_int [.int .i64 a1]] := S.arr [] [1, 0]
  obtain rfl := Option.some.inj H
  exact ⟨b2, b4, rfl, ⟨lb2, lb4⟩, S⟩
theorem rule_premises_1_st {A : Nat → Prop} {N : Oth} {w : World} {a0 : List Int} {s_0 : SlV} {a1 : Nd} {b_1 : Nat} (S : St A N w w [] [fS 1 IC s_0 a0, oB b_1 T_Nd (Nd.C a1)]) {r : Int × Int} (H : rule_premises_1.f a0 a1 = some r) :
    Calls PP F_rule_premises_1 #[s_0.v, .pointer (some ⟨b_1, 0, none⟩)] w fun e w' => ∃ v, e = .returned v ∧ (v = .tuple #[.int .i64 r.1, .int .i64 r.2] ∧ St A N w w' [] []) := by
  unfold rule_premises_1.f at H
  refine calls_of_wc (n := 10) fn_rule_premises_1 rfl rfl (by simp) ?_
  refine wc_seq (wc_region ?_)
  refine wd (does_as_i rfl) ?_
  refine wd (does_as_i rfl) ?_
  refine wl_nil ?_
  refine wc_seq ?_
  refine wc_quiet 6 (Ext w) hmix (by kernel_rfl) (by kernel_rfl) (Ext.drawn _) ?_
  refine wq_does (fun v K => does_fieldAddr fl_Nd_l rfl (o' := 2) rfl) ?_
  refine wq_does (fun v K => does_load on_int rfl (((S.ext K).blkZ 1).cell (Nd.get_l _))) ?_
  refine wq_does (fun v K => does_mv_l rfl) ?_
  obtain ⟨hi1, H⟩ := chk_ex H
  refine wq_does (fun v K => does_indexR sl_L_int rfl rfl ((S.ext K).rd 0) (inb_ex hi1).1 (inb_ex hi1).2) ?_
  refine wq_does (fun v K => does_load on_int rfl (((S.ext K).rd 0).one (at_some (0 : Int) (inb_ex hi1)) rfl)) ?_
  refine wq_does (fun v K => does_as_i rfl) ?_
  refine wq_nil fun w2 K => ?_
  replace S := S.ext K
  clear K
  refine wd (does_as_i rfl) ?_
  refine wl_nil ?_
  refine wc_ret ?_
  refine ⟨_, (rets2 (retOne_tmp rfl) (retOne_tmp rfl)), ?_⟩
  replace S : St A N w w2 [] [] := S.arr [] []
  obtain rfl := Option.some.inj H
  exact ⟨rfl, S⟩
theorem rule_imps__rule_pair_1__rule_premises_1_st {A : Nat → Prop} {N : Oth} {w : World} {a0 : Tb} {a_0 : Option Addr} {a1_0 : Int} {a1_1 : Int} {a1_2 : Nd} {s_1 : SlV} {b_1_1 : Nat} {b_1_2 : Nat} {b_1_3 : Nat} (S : St A N w w [oT a_0 a0] [fS 1 FC s_1 ([FnV.mk (.func F_rule_pair_1) #[] #[.pointer (some ⟨b_1_1, 0, none⟩), .pointer (some ⟨b_1_2, 0, none⟩)], FnV.mk (.func F_rule_premises_1) #[] #[.pointer (some ⟨b_1_3, 0, none⟩)]]), oB b_1_1 T_int [.int .i64 a1_0], oB b_1_2 T_int [.int .i64 a1_1], oB b_1_3 T_Nd (Nd.C a1_2)]) {r : Tb × List Int × Int} (H : rule_imps__rule_pair_1__rule_premises_1.f a0 a1_0 a1_1 a1_2 = some r) :
    Calls PP F_rule_imps #[.pointer a_0, s_1.v] w fun e w' => ∃ v, e = .returned v ∧ (∃ so0 : SlV, v = .tuple #[so0.v, .int .i64 r.2.2] ∧ St A N w w' [oT a_0 r.1, oS T_int 1 IC so0 r.2.1] []) := by
  unfold rule_imps__rule_pair_1__rule_premises_1.f at H
  refine calls_of_wc (n := 41) fn_rule_imps rfl rfl (by simp) ?_
  refine wc_seq (wc_region ?_)
  refine wd (does_as_nil) ?_
  refine wd (does_as_i rfl) ?_
  refine wl_nil ?_
  refine wc_seq (wc_region ?_)
  refine wd (does_as_nil) ?_
  refine wl_nil ?_
  refine wc_seq (wc_seq (wc_region ?_))
  refine wd (does_mv_l rfl) ?_
  refine wd (does_lenR sl_L_func_L_int_int_int rfl (S.rd 0)) ?_
  refine wd (does_mv_i rfl) ?_
  refine wl_nil ?_
  refine wc_block ?_
  refine wc_rounds 3 ?_
  refine rounds_s ?_
  refine wc_seq (wc_region ?_)
  refine wd (does_lt rfl rfl) ?_
  refine wl_nil ?_
  refine wc_seq ?_
  refine wc_true rfl ?_
  refine wc_skip ?_
  refine wc_seq ?_
  refine wc_block ?_
  refine wc_seq (wc_region ?_)
  refine wd (does_indexR sl_L_func_L_int_int_int rfl rfl (S.rd 0) (by decide) (by simp)) ?_
  refine wd (does_load on_func_L_int_int_int rfl ((S.rd 0).one (at_some FnV.nil (And.intro (by decide) (by simp))) rfl)) ?_
  refine wd (does_as_f rfl) ?_
  refine wl_nil ?_
  refine wc_seq (wc_region ?_)
  refine wd (does_mv_f rfl) ?_
  refine wd (does_mv_l rfl) ?_
  replace S : St A N w w [oT a_0 a0] [fS 1 IC SlV.nil ([]), fS 1 FC s_1 ([FnV.mk (.func F_rule_pair_1) #[] #[.pointer (some ⟨b_1_1, 0, none⟩), .pointer (some ⟨b_1_2, 0, none⟩)], FnV.mk (.func F_rule_premises_1) #[] #[.pointer (some ⟨b_1_3, 0, none⟩)]]), oB b_1_1 T_int [.int .i64 a1_0], oB b_1_2 T_int [.int .i64 a1_1], oB b_1_3 T_Nd (Nd.C a1_2)] := S.nilZ 1 IC
  obtain ⟨r3, er3, H⟩ := bind_ex H
  obtain ⟨B5, MB5, SB5, back⟩ := S.calln 0 ((.z 0 rfl (.z 2 rfl (.z 3 rfl .nil))))
  refine wl_call (does_callv ca_rule_pair_1 rfl) (by decide) (rule_pair_1_st SB5 er3) ?_
  rintro _ w4 ⟨rfl, S2⟩
  replace S : St A N w w4 [oT a_0 a0] [fS 1 IC SlV.nil ([]), fS 1 FC s_1 ([FnV.mk (.func F_rule_pair_1) #[] #[.pointer (some ⟨b_1_1, 0, none⟩), .pointer (some ⟨b_1_2, 0, none⟩)], FnV.mk (.func F_rule_premises_1) #[] #[.pointer (some ⟨b_1_3, 0, none⟩)]]), oB b_1_1 T_int [.int .i64 a1_0], oB b_1_2 T_int [.int .i64 a1_1], oB b_1_3 T_Nd (Nd.C a1_2)] := back _ _ _ _ S2 rfl
  clear back S2 SB5
  refine wd (does_mv_t rfl) ?_
  refine wd (does_extract rfl rfl) ?_
  refine wd (does_extract rfl rfl) ?_
  refine wd (does_as_i rfl) ?_
  refine wd (does_as_i rfl) ?_
  refine wl_nil ?_
  refine wc_seq (wc_region ?_)
  refine wd (does_mv_p rfl) ?_
  refine wd (does_mv_i rfl) ?_
  refine wd (does_mv_i rfl) ?_
  obtain ⟨r6, er6, H⟩ := bind_ex H
  obtain ⟨B8, MB8, SB8, back⟩ := S.calln 1 ((.nil))
  refine wl_call (does_call ca_formula_Table_Imp) (by decide) (formula_Table_Imp_st SB8 er6) ?_
  rintro _ w7 ⟨rfl, S2⟩
  replace S : St A N w w7 [oT a_0 r6.1] [fS 1 IC SlV.nil ([]), fS 1 FC s_1 ([FnV.mk (.func F_rule_pair_1) #[] #[.pointer (some ⟨b_1_1, 0, none⟩), .pointer (some ⟨b_1_2, 0, none⟩)], FnV.mk (.func F_rule_premises_1) #[] #[.pointer (some ⟨b_1_3, 0, none⟩)]]), oB b_1_1 T_int [.int .i64 a1_0], oB b_1_2 T_int [.int .i64 a1_1], oB b_1_3 T_Nd (Nd.C a1_2)] := back _ _ _ _ S2 rfl
  clear back S2 SB8
  refine wd (does_mv_t rfl) ?_
  refine wd (does_extract rfl rfl) ?_
  refine wd (does_extract rfl rfl) ?_
  refine wd (does_as_i rfl) ?_
  refine wd (does_as_i rfl) ?_
  refine wl_nil ?_
  refine wc_seq (wc_seq (wc_region ?_))
  refine wd (does_mv_i rfl) ?_
  refine wd (does_ne rfl rfl) ?_
  refine wl_nil ?_
  refine wc_if rfl (fun hc9 => ?_) (fun hc9 => ?_)
  · replace H := if_t hc9 H
    refine wc_seq (wc_region ?_)
    refine wd (does_mv_i rfl) ?_
    refine wd (does_as_nil) ?_
    refine wd (does_as_i rfl) ?_
    refine wl_nil ?_
    refine wc_ret ?_
    replace S : St A N w w7 [oS T_int 1 IC SlV.nil ([] : List Int), oT a_0 r6.1] [fS 1 IC SlV.nil ([]), fS 1 FC s_1 ([FnV.mk (.func F_rule_pair_1) #[] #[.pointer (some ⟨b_1_1, 0, none⟩), .pointer (some ⟨b_1_2, 0, none⟩)], FnV.mk (.func F_rule_premises_1) #[] #[.pointer (some ⟨b_1_3, 0, none⟩)]]), oB b_1_1 T_int [.int .i64 a1_0], oB b_1_2 T_int [.int .i64 a1_1], oB b_1_3 T_Nd (Nd.C a1_2)] := S.nil T_int 1 IC
    refine ⟨_, (rets2 (retOne_tmp rfl) (retOne_tmp rfl)), ?_⟩
    replace S : St A N w w7 [oT a_0 r6.1, oS T_int 1 IC SlV.nil ([] : List Int)] [] := S.arr [1, 0] []
    obtain rfl := Option.some.inj H
    exact ⟨SlV.nil, rfl, S⟩
  replace H := if_f hc9 H
  refine wc_skip ?_
  refine wc_region ?_
  refine wd (does_mv_l rfl) ?_
  refine wd (does_mv_i rfl) ?_
  refine wl_lits (C := IC) (l := [r6.2.1]) (vs := [.int .i64 r6.2.1]) sl_L_int el_int.zero rfl rfl (fun _ _ => rfl) (by decide) rfl (by decide) fun b11 w10 s12 hBw10 hw10 => ?_
  replace S : St A N w w10 [oS T_int 1 IC s12 ([r6.2.1]), oT a_0 r6.1] [fS 1 IC SlV.nil ([]), fS 1 FC s_1 ([FnV.mk (.func F_rule_pair_1) #[] #[.pointer (some ⟨b_1_1, 0, none⟩), .pointer (some ⟨b_1_2, 0, none⟩)], FnV.mk (.func F_rule_premises_1) #[] #[.pointer (some ⟨b_1_3, 0, none⟩)]]), oB b_1_1 T_int [.int .i64 a1_0], oB b_1_2 T_int [.int .i64 a1_1], oB b_1_3 T_Nd (Nd.C a1_2)] := S.lit hBw10 hw10 (by simp)
  replace S : St A N w w10 [oS T_int 1 IC SlV.nil ([] : List Int), oS T_int 1 IC s12 ([r6.2.1]), oT a_0 r6.1] [fS 1 IC SlV.nil ([]), fS 1 FC s_1 ([FnV.mk (.func F_rule_pair_1) #[] #[.pointer (some ⟨b_1_1, 0, none⟩), .pointer (some ⟨b_1_2, 0, none⟩)], FnV.mk (.func F_rule_premises_1) #[] #[.pointer (some ⟨b_1_3, 0, none⟩)]]), oB b_1_1 T_int [.int .i64 a1_0], oB b_1_2 T_int [.int .i64 a1_1], oB b_1_3 T_Nd (Nd.C a1_2)] := S.nil T_int 1 IC
  obtain ⟨ha15, H⟩ := chk_ex H
  have ha15 := of_decide_eq_true ha15
  refine wl_appends (C := IC) sl_L_int el_int rfl rfl (S.sl 0) (S.rdO 1) (by simp) (fun a _ v hv => by rw [List.mem_singleton.1 hv]; rfl) ha15 (by omega) (by decide) fun s14 w13 O hw13 gw13 => ?_
  replace S : St A N w w13 [oS T_int 1 IC s14 (([] : List Int) ++ [r6.2.1]), oS T_int 1 IC s12 ([r6.2.1]), oT a_0 r6.1] [fS 1 IC SlV.nil ([]), fS 1 FC s_1 ([FnV.mk (.func F_rule_pair_1) #[] #[.pointer (some ⟨b_1_1, 0, none⟩), .pointer (some ⟨b_1_2, 0, none⟩)], FnV.mk (.func F_rule_premises_1) #[] #[.pointer (some ⟨b_1_3, 0, none⟩)]]), oB b_1_1 T_int [.int .i64 a1_0], oB b_1_2 T_int [.int .i64 a1_1], oB b_1_3 T_Nd (Nd.C a1_2)] := S.push 0 O (by first | (simp; done) | (simp; omega)) hw13 gw13
  clear O
  refine wd (does_as_l rfl) ?_
  refine wl_nil ?_
  refine wc_region ?_
  refine wd (does_addc rfl rfl (c := 1) rfl (by decide) (by decide)) ?_
  refine wd (does_mv_i rfl) ?_
  refine wl_nil ?_
  refine ⟨rfl, ?_⟩
  refine rounds_s ?_
  refine wc_seq (wc_region ?_)
  refine wd (does_lt rfl rfl) ?_
  refine wl_nil ?_
  refine wc_seq ?_
  refine wc_true rfl ?_
  refine wc_skip ?_
  refine wc_seq ?_
  refine wc_block ?_
  refine wc_seq (wc_region ?_)
  refine wd (does_indexR sl_L_func_L_int_int_int rfl rfl (S.rd 1) (by decide) (by simp)) ?_
  refine wd (does_load on_func_L_int_int_int rfl ((S.rd 1).one (at_some FnV.nil (And.intro (by decide) (by simp))) rfl)) ?_
  refine wd (does_as_f rfl) ?_
  refine wl_nil ?_
  refine wc_seq (wc_region ?_)
  refine wd (does_mv_f rfl) ?_
  refine wd (does_mv_l rfl) ?_
  obtain ⟨r18, er18, H⟩ := bind_ex H
  obtain ⟨B20, MB20, SB20, back⟩ := S.calln 0 ((.s 0 rfl (.z 4 rfl .nil)))
  refine wl_call (does_callv ca_rule_premises_1 rfl) (by decide) (rule_premises_1_st SB20 er18) ?_
  rintro _ w19 ⟨rfl, S2⟩
  replace S : St A N w w19 [oS T_int 1 IC s14 (([] : List Int) ++ [r6.2.1]), oS T_int 1 IC s12 ([r6.2.1]), oT a_0 r6.1] [fS 1 IC SlV.nil ([]), fS 1 FC s_1 ([FnV.mk (.func F_rule_pair_1) #[] #[.pointer (some ⟨b_1_1, 0, none⟩), .pointer (some ⟨b_1_2, 0, none⟩)], FnV.mk (.func F_rule_premises_1) #[] #[.pointer (some ⟨b_1_3, 0, none⟩)]]), oB b_1_1 T_int [.int .i64 a1_0], oB b_1_2 T_int [.int .i64 a1_1], oB b_1_3 T_Nd (Nd.C a1_2)] := back _ _ _ _ S2 rfl
  clear back S2 SB20
  refine wd (does_mv_t rfl) ?_
  refine wd (does_extract rfl rfl) ?_
  refine wd (does_extract rfl rfl) ?_
  refine wd (does_as_i rfl) ?_
  refine wd (does_as_i rfl) ?_
  refine wl_nil ?_
  refine wc_seq (wc_region ?_)
  refine wd (does_mv_p rfl) ?_
  refine wd (does_mv_i rfl) ?_
  refine wd (does_mv_i rfl) ?_
  obtain ⟨r21, er21, H⟩ := bind_ex H
  replace S : St A N w w19 [oT a_0 r6.1, oS T_int 1 IC s14 (([] : List Int) ++ [r6.2.1]), oS T_int 1 IC s12 ([r6.2.1])] [fS 1 IC SlV.nil ([]), fS 1 FC s_1 ([FnV.mk (.func F_rule_pair_1) #[] #[.pointer (some ⟨b_1_1, 0, none⟩), .pointer (some ⟨b_1_2, 0, none⟩)], FnV.mk (.func F_rule_premises_1) #[] #[.pointer (some ⟨b_1_3, 0, none⟩)]]), oB b_1_1 T_int [.int .i64 a1_0], oB b_1_2 T_int [.int .i64 a1_1], oB b_1_3 T_Nd (Nd.C a1_2)] := S.front 2
  obtain ⟨B23, MB23, SB23, back⟩ := S.calln 1 ((.nil))
  refine wl_call (does_call ca_formula_Table_Imp) (by decide) (formula_Table_Imp_st SB23 er21) ?_
  rintro _ w22 ⟨rfl, S2⟩
  replace S : St A N w w22 [oT a_0 r21.1, oS T_int 1 IC s14 (([] : List Int) ++ [r6.2.1]), oS T_int 1 IC s12 ([r6.2.1])] [fS 1 IC SlV.nil ([]), fS 1 FC s_1 ([FnV.mk (.func F_rule_pair_1) #[] #[.pointer (some ⟨b_1_1, 0, none⟩), .pointer (some ⟨b_1_2, 0, none⟩)], FnV.mk (.func F_rule_premises_1) #[] #[.pointer (some ⟨b_1_3, 0, none⟩)]]), oB b_1_1 T_int [.int .i64 a1_0], oB b_1_2 T_int [.int .i64 a1_1], oB b_1_3 T_Nd (Nd.C a1_2)] := back _ _ _ _ S2 rfl
  clear back S2 SB23
  refine wd (does_mv_t rfl) ?_
  refine wd (does_extract rfl rfl) ?_
  refine wd (does_extract rfl rfl) ?_
  refine wd (does_as_i rfl) ?_
  refine wd (does_as_i rfl) ?_
  refine wl_nil ?_
  refine wc_seq (wc_seq (wc_region ?_))
  refine wd (does_mv_i rfl) ?_
  refine wd (does_ne rfl rfl) ?_
  refine wl_nil ?_
  refine wc_if rfl (fun hc24 => ?_) (fun hc24 => ?_)
  · replace H := if_t hc24 H
    refine wc_seq (wc_region ?_)
    refine wd (does_mv_i rfl) ?_
    refine wd (does_as_nil) ?_
    refine wd (does_as_i rfl) ?_
    refine wl_nil ?_
    refine wc_ret ?_
    replace S : St A N w w22 [oS T_int 1 IC SlV.nil ([] : List Int), oT a_0 r21.1, oS T_int 1 IC s14 (([] : List Int) ++ [r6.2.1]), oS T_int 1 IC s12 ([r6.2.1])] [fS 1 IC SlV.nil ([]), fS 1 FC s_1 ([FnV.mk (.func F_rule_pair_1) #[] #[.pointer (some ⟨b_1_1, 0, none⟩), .pointer (some ⟨b_1_2, 0, none⟩)], FnV.mk (.func F_rule_premises_1) #[] #[.pointer (some ⟨b_1_3, 0, none⟩)]]), oB b_1_1 T_int [.int .i64 a1_0], oB b_1_2 T_int [.int .i64 a1_1], oB b_1_3 T_Nd (Nd.C a1_2)] := S.nil T_int 1 IC
    refine ⟨_, (rets2 (retOne_tmp rfl) (retOne_tmp rfl)), ?_⟩
    replace S : St A N w w22 [oT a_0 r21.1, oS T_int 1 IC SlV.nil ([] : List Int)] [] := S.arr [1, 0] []
    obtain rfl := Option.some.inj H
    exact ⟨SlV.nil, rfl, S⟩
  replace H := if_f hc24 H
  refine wc_skip ?_
  refine wc_region ?_
  refine wd (does_mv_l rfl) ?_
  refine wd (does_mv_i rfl) ?_
  refine wl_lits (C := IC) (l := [r21.2.1]) (vs := [.int .i64 r21.2.1]) sl_L_int el_int.zero rfl rfl (fun _ _ => rfl) (by decide) rfl (by decide) fun b26 w25 s27 hBw25 hw25 => ?_
  replace S : St A N w w25 [oS T_int 1 IC s27 ([r21.2.1]), oT a_0 r21.1, oS T_int 1 IC s14 (([] : List Int) ++ [r6.2.1]), oS T_int 1 IC s12 ([r6.2.1])] [fS 1 IC SlV.nil ([]), fS 1 FC s_1 ([FnV.mk (.func F_rule_pair_1) #[] #[.pointer (some ⟨b_1_1, 0, none⟩), .pointer (some ⟨b_1_2, 0, none⟩)], FnV.mk (.func F_rule_premises_1) #[] #[.pointer (some ⟨b_1_3, 0, none⟩)]]), oB b_1_1 T_int [.int .i64 a1_0], oB b_1_2 T_int [.int .i64 a1_1], oB b_1_3 T_Nd (Nd.C a1_2)] := S.lit hBw25 hw25 (by simp)
  obtain ⟨ha30, H⟩ := chk_ex H
  have ha30 := of_decide_eq_true ha30
  refine wl_appends (C := IC) sl_L_int el_int rfl rfl (S.sl 2) (S.rdO 0) (by simp) (fun a _ v hv => by rw [List.mem_singleton.1 hv]; rfl) ha30 (by omega) (by decide) fun s29 w28 O hw28 gw28 => ?_
  replace S : St A N w w28 [oS T_int 1 IC s29 ((([] : List Int) ++ [r6.2.1]) ++ [r21.2.1]), oS T_int 1 IC s27 ([r21.2.1]), oT a_0 r21.1, oS T_int 1 IC s12 ([r6.2.1])] [fS 1 IC SlV.nil ([]), fS 1 FC s_1 ([FnV.mk (.func F_rule_pair_1) #[] #[.pointer (some ⟨b_1_1, 0, none⟩), .pointer (some ⟨b_1_2, 0, none⟩)], FnV.mk (.func F_rule_premises_1) #[] #[.pointer (some ⟨b_1_3, 0, none⟩)]]), oB b_1_1 T_int [.int .i64 a1_0], oB b_1_2 T_int [.int .i64 a1_1], oB b_1_3 T_Nd (Nd.C a1_2)] := S.push 2 O (by first | (simp; done) | (simp; omega)) hw28 gw28
  clear O
  refine wd (does_as_l rfl) ?_
  refine wl_nil ?_
  refine wc_region ?_
  refine wd (does_addc rfl rfl (c := 2) rfl (by decide) (by decide)) ?_
  refine wd (does_mv_i rfl) ?_
  refine wl_nil ?_
  refine ⟨rfl, ?_⟩
  refine rounds_s ?_
  refine wc_seq (wc_region ?_)
  refine wd (does_lt rfl rfl) ?_
  refine wl_nil ?_
  refine wc_seq ?_
  refine wc_false rfl ?_
  refine wc_exit ?_
  refine wc_seq (wc_region ?_)
  refine wd (does_mv_l rfl) ?_
  refine wd (does_as_l rfl) ?_
  refine wd (does_as_i rfl) ?_
  refine wl_nil ?_
  refine wc_ret ?_
  refine ⟨_, (rets2 (retOne_tmp rfl) (retOne_tmp rfl)), ?_⟩
  replace S : St A N w w28 [oT a_0 r21.1, oS T_int 1 IC s29 ((([] : List Int) ++ [r6.2.1]) ++ [r21.2.1])] [] := S.arr [2, 0] []
  obtain rfl := Option.some.inj H
  exact ⟨s29, rfl, S⟩
theorem rule_imps__rule_pair_1__rule_pair_1_st {A : Nat → Prop} {N : Oth} {w : World} {a0 : Tb} {a_0 : Option Addr} {a1_0 : Int} {a1_1 : Int} {a1_2 : Int} {a1_3 : Int} {s_1 : SlV} {b_1_1 : Nat} {b_1_2 : Nat} {b_1_3 : Nat} {b_1_4 : Nat} (S : St A N w w [oT a_0 a0] [fS 1 FC s_1 ([FnV.mk (.func F_rule_pair_1) #[] #[.pointer (some ⟨b_1_1, 0, none⟩), .pointer (some ⟨b_1_2, 0, none⟩)], FnV.mk (.func F_rule_pair_1) #[] #[.pointer (some ⟨b_1_3, 0, none⟩), .pointer (some ⟨b_1_4, 0, none⟩)]]), oB b_1_1 T_int [.int .i64 a1_0], oB b_1_2 T_int [.int .i64 a1_1], oB b_1_3 T_int [.int .i64 a1_2], oB b_1_4 T_int [.int .i64 a1_3]]) {r : Tb × List Int × Int} (H : rule_imps__rule_pair_1__rule_pair_1.f a0 a1_0 a1_1 a1_2 a1_3 = some r) :
    Calls PP F_rule_imps #[.pointer a_0, s_1.v] w fun e w' => ∃ v, e = .returned v ∧ (∃ so0 : SlV, v = .tuple #[so0.v, .int .i64 r.2.2] ∧ St A N w w' [oT a_0 r.1, oS T_int 1 IC so0 r.2.1] []) := by
  unfold rule_imps__rule_pair_1__rule_pair_1.f at H
  refine calls_of_wc (n := 41) fn_rule_imps rfl rfl (by simp) ?_
  refine wc_seq (wc_region ?_)
  refine wd (does_as_nil) ?_
  refine wd (does_as_i rfl) ?_
  refine wl_nil ?_
  refine wc_seq (wc_region ?_)
  refine wd (does_as_nil) ?_
  refine wl_nil ?_
  refine wc_seq (wc_seq (wc_region ?_))
  refine wd (does_mv_l rfl) ?_
  refine wd (does_lenR sl_L_func_L_int_int_int rfl (S.rd 0)) ?_
  refine wd (does_mv_i rfl) ?_
  refine wl_nil ?_
  refine wc_block ?_
  refine wc_rounds 3 ?_
  refine rounds_s ?_
  refine wc_seq (wc_region ?_)
  refine wd (does_lt rfl rfl) ?_
  refine wl_nil ?_
  refine wc_seq ?_
  refine wc_true rfl ?_
  refine wc_skip ?_
  refine wc_seq ?_
  refine wc_block ?_
  refine wc_seq (wc_region ?_)
  refine wd (does_indexR sl_L_func_L_int_int_int rfl rfl (S.rd 0) (by decide) (by simp)) ?_
  refine wd (does_load on_func_L_int_int_int rfl ((S.rd 0).one (at_some FnV.nil (And.intro (by decide) (by simp))) rfl)) ?_
  refine wd (does_as_f rfl) ?_
  refine wl_nil ?_
  refine wc_seq (wc_region ?_)
  refine wd (does_mv_f rfl) ?_
  refine wd (does_mv_l rfl) ?_
  replace S : St A N w w [oT a_0 a0] [fS 1 IC SlV.nil ([]), fS 1 FC s_1 ([FnV.mk (.func F_rule_pair_1) #[] #[.pointer (some ⟨b_1_1, 0, none⟩), .pointer (some ⟨b_1_2, 0, none⟩)], FnV.mk (.func F_rule_pair_1) #[] #[.pointer (some ⟨b_1_3, 0, none⟩), .pointer (some ⟨b_1_4, 0, none⟩)]]), oB b_1_1 T_int [.int .i64 a1_0], oB b_1_2 T_int [.int .i64 a1_1], oB b_1_3 T_int [.int .i64 a1_2], oB b_1_4 T_int [.int .i64 a1_3]] := S.nilZ 1 IC
  obtain ⟨r3, er3, H⟩ := bind_ex H
  obtain ⟨B5, MB5, SB5, back⟩ := S.calln 0 ((.z 0 rfl (.z 2 rfl (.z 3 rfl .nil))))
  refine wl_call (does_callv ca_rule_pair_1 rfl) (by decide) (rule_pair_1_st SB5 er3) ?_
  rintro _ w4 ⟨rfl, S2⟩
  replace S : St A N w w4 [oT a_0 a0] [fS 1 IC SlV.nil ([]), fS 1 FC s_1 ([FnV.mk (.func F_rule_pair_1) #[] #[.pointer (some ⟨b_1_1, 0, none⟩), .pointer (some ⟨b_1_2, 0, none⟩)], FnV.mk (.func F_rule_pair_1) #[] #[.pointer (some ⟨b_1_3, 0, none⟩), .pointer (some ⟨b_1_4, 0, none⟩)]]), oB b_1_1 T_int [.int .i64 a1_0], oB b_1_2 T_int [.int .i64 a1_1], oB b_1_3 T_int [.int .i64 a1_2], oB b_1_4 T_int [.int .i64 a1_3]] := back _ _ _ _ S2 rfl
  clear back S2 SB5
  refine wd (does_mv_t rfl) ?_
  refine wd (does_extract rfl rfl) ?_
  refine wd (does_extract rfl rfl) ?_
  refine wd (does_as_i rfl) ?_
  refine wd (does_as_i rfl) ?_
  refine wl_nil ?_
  refine wc_seq (wc_region ?_)
  refine wd (does_mv_p rfl) ?_
  refine wd (does_mv_i rfl) ?_
  refine wd (does_mv_i rfl) ?_
  obtain ⟨r6, er6, H⟩ := bind_ex H
  obtain ⟨B8, MB8, SB8, back⟩ := S.calln 1 ((.nil))
  refine wl_call (does_call ca_formula_Table_Imp) (by decide) (formula_Table_Imp_st SB8 er6) ?_
  rintro _ w7 ⟨rfl, S2⟩
  replace S : St A N w w7 [oT a_0 r6.1] [fS 1 IC SlV.nil ([]), fS 1 FC s_1 ([FnV.mk (.func F_rule_pair_1) #[] #[.pointer (some ⟨b_1_1, 0, none⟩), .pointer (some ⟨b_1_2, 0, none⟩)], FnV.mk (.func F_rule_pair_1) #[] #[.pointer (some ⟨b_1_3, 0, none⟩), .pointer (some ⟨b_1_4, 0, none⟩)]]), oB b_1_1 T_int [.int .i64 a1_0], oB b_1_2 T_int [.int .i64 a1_1], oB b_1_3 T_int [.int .i64 a1_2], oB b_1_4 T_int [.int .i64 a1_3]] := back _ _ _ _ S2 rfl
  clear back S2 SB8
  refine wd (does_mv_t rfl) ?_
  refine wd (does_extract rfl rfl) ?_
  refine wd (does_extract rfl rfl) ?_
  refine wd (does_as_i rfl) ?_
  refine wd (does_as_i rfl) ?_
  refine wl_nil ?_
  refine wc_seq (wc_seq (wc_region ?_))
  refine wd (does_mv_i rfl) ?_
  refine wd (does_ne rfl rfl) ?_
  refine wl_nil ?_
  refine wc_if rfl (fun hc9 => ?_) (fun hc9 => ?_)
  · replace H := if_t hc9 H
    refine wc_seq (wc_region ?_)
    refine wd (does_mv_i rfl) ?_
    refine wd (does_as_nil) ?_
    refine wd (does_as_i rfl) ?_
    refine wl_nil ?_
    refine wc_ret ?_
    replace S : St A N w w7 [oS T_int 1 IC SlV.nil ([] : List Int), oT a_0 r6.1] [fS 1 IC SlV.nil ([]), fS 1 FC s_1 ([FnV.mk (.func F_rule_pair_1) #[] #[.pointer (some ⟨b_1_1, 0, none⟩), .pointer (some ⟨b_1_2, 0, none⟩)], FnV.mk (.func F_rule_pair_1) #[] #[.pointer (some ⟨b_1_3, 0, none⟩), .pointer (some ⟨b_1_4, 0, none⟩)]]), oB b_1_1 T_int [.int .i64 a1_0], oB b_1_2 T_int [.int .i64 a1_1], oB b_1_3 T_int [.int .i64 a1_2], oB b_1_4 T_int [.int .i64 a1_3]] := S.nil T_int 1 IC
    refine ⟨_, (rets2 (retOne_tmp rfl) (retOne_tmp rfl)), ?_⟩
    replace S : St A N w w7 [oT a_0 r6.1, oS T_int 1 IC SlV.nil ([] : List Int)] [] := S.arr [1, 0] []
    obtain rfl := Option.some.inj H
    exact ⟨SlV.nil, rfl, S⟩
  replace H := if_f hc9 H
  refine wc_skip ?_
  refine wc_region ?_
  refine wd (does_mv_l rfl) ?_
  refine wd (does_mv_i rfl) ?_
  refine wl_lits (C := IC) (l := [r6.2.1]) (vs := [.int .i64 r6.2.1]) sl_L_int el_int.zero rfl rfl (fun _ _ => rfl) (by decide) rfl (by decide) fun b11 w10 s12 hBw10 hw10 => ?_
  replace S : St A N w w10 [oS T_int 1 IC s12 ([r6.2.1]), oT a_0 r6.1] [fS 1 IC SlV.nil ([]), fS 1 FC s_1 ([FnV.mk (.func F_rule_pair_1) #[] #[.pointer (some ⟨b_1_1, 0, none⟩), .pointer (some ⟨b_1_2, 0, none⟩)], FnV.mk (.func F_rule_pair_1) #[] #[.pointer (some ⟨b_1_3, 0, none⟩), .pointer (some ⟨b_1_4, 0, none⟩)]]), oB b_1_1 T_int [.int .i64 a1_0], oB b_1_2 T_int [.int .i64 a1_1], oB b_1_3 T_int [.int .i64 a1_2], oB b_1_4 T_int [.int .i64 a1_3]] := S.lit hBw10 hw10 (by simp)
  replace S : St A N w w10 [oS T_int 1 IC SlV.nil ([] : List Int), oS T_int 1 IC s12 ([r6.2.1]), oT a_0 r6.1] [fS 1 IC SlV.nil ([]), fS 1 FC s_1 ([FnV.mk (.func F_rule_pair_1) #[] #[.pointer (some ⟨b_1_1, 0, none⟩), .pointer (some ⟨b_1_2, 0, none⟩)], FnV.mk (.func F_rule_pair_1) #[] #[.pointer (some ⟨b_1_3, 0, none⟩), .pointer (some ⟨b_1_4, 0, none⟩)]]), oB b_1_1 T_int [.int .i64 a1_0], oB b_1_2 T_int [.int .i64 a1_1], oB b_1_3 T_int [.int .i64 a1_2], oB b_1_4 T_int [.int .i64 a1_3]] := S.nil T_int 1 IC
  obtain ⟨ha15, H⟩ := chk_ex H
  have ha15 := of_decide_eq_true ha15
  refine wl_appends (C := IC) sl_L_int el_int rfl rfl (S.sl 0) (S.rdO 1) (by simp) (fun a _ v hv => by rw [List.mem_singleton.1 hv]; rfl) ha15 (by omega) (by decide) fun s14 w13 O hw13 gw13 => ?_
  replace S : St A N w w13 [oS T_int 1 IC s14 (([] : List Int) ++ [r6.2.1]), oS T_int 1 IC s12 ([r6.2.1]), oT a_0 r6.1] [fS 1 IC SlV.nil ([]), fS 1 FC s_1 ([FnV.mk (.func F_rule_pair_1) #[] #[.pointer (some ⟨b_1_1, 0, none⟩), .pointer (some ⟨b_1_2, 0, none⟩)], FnV.mk (.func F_rule_pair_1) #[] #[.pointer (some ⟨b_1_3, 0, none⟩), .pointer (some ⟨b_1_4, 0, none⟩)]]), oB b_1_1 T_int [.int .i64 a1_0], oB b_1_2 T_int [.int .i64 a1_1], oB b_1_3 T_int [.int .i64 a1_2], oB b_1_4 T_int [.int .i64 a1_3]] := S.push 0 O (by first | (simp; done) | (simp; omega)) hw13 gw13
  clear O
  refine wd (does_as_l rfl) ?_
  refine wl_nil ?_
  refine wc_region ?_
  refine wd (does_addc rfl rfl (c := 1) rfl (by decide) (by decide)) ?_
  refine wd (does_mv_i rfl) ?_
  refine wl_nil ?_
  refine ⟨rfl, ?_⟩
  refine rounds_s ?_
  refine wc_seq (wc_region ?_)
  refine wd (does_lt rfl rfl) ?_
  refine wl_nil ?_
  refine wc_seq ?_
  refine wc_true rfl ?_
  refine wc_skip ?_
  refine wc_seq ?_
  refine wc_block ?_
  refine wc_seq (wc_region ?_)
  refine wd (does_indexR sl_L_func_L_int_int_int rfl rfl (S.rd 1) (by decide) (by simp)) ?_
  refine wd (does_load on_func_L_int_int_int rfl ((S.rd 1).one (at_some FnV.nil (And.intro (by decide) (by simp))) rfl)) ?_
  refine wd (does_as_f rfl) ?_
  refine wl_nil ?_
  refine wc_seq (wc_region ?_)
  refine wd (does_mv_f rfl) ?_
  refine wd (does_mv_l rfl) ?_
  obtain ⟨r18, er18, H⟩ := bind_ex H
  obtain ⟨B20, MB20, SB20, back⟩ := S.calln 0 ((.s 0 rfl (.z 4 rfl (.z 5 rfl .nil))))
  refine wl_call (does_callv ca_rule_pair_1 rfl) (by decide) (rule_pair_1_st SB20 er18) ?_
  rintro _ w19 ⟨rfl, S2⟩
  replace S : St A N w w19 [oS T_int 1 IC s14 (([] : List Int) ++ [r6.2.1]), oS T_int 1 IC s12 ([r6.2.1]), oT a_0 r6.1] [fS 1 IC SlV.nil ([]), fS 1 FC s_1 ([FnV.mk (.func F_rule_pair_1) #[] #[.pointer (some ⟨b_1_1, 0, none⟩), .pointer (some ⟨b_1_2, 0, none⟩)], FnV.mk (.func F_rule_pair_1) #[] #[.pointer (some ⟨b_1_3, 0, none⟩), .pointer (some ⟨b_1_4, 0, none⟩)]]), oB b_1_1 T_int [.int .i64 a1_0], oB b_1_2 T_int [.int .i64 a1_1], oB b_1_3 T_int [.int .i64 a1_2], oB b_1_4 T_int [.int .i64 a1_3]] := back _ _ _ _ S2 rfl
  clear back S2 SB20
  refine wd (does_mv_t rfl) ?_
  refine wd (does_extract rfl rfl) ?_
  refine wd (does_extract rfl rfl) ?_
  refine wd (does_as_i rfl) ?_
  refine wd (does_as_i rfl) ?_
  refine wl_nil ?_
  refine wc_seq (wc_region ?_)
  refine wd (does_mv_p rfl) ?_
  refine wd (does_mv_i rfl) ?_
  refine wd (does_mv_i rfl) ?_
  obtain ⟨r21, er21, H⟩ := bind_ex H
  replace S : St A N w w19 [oT a_0 r6.1, oS T_int 1 IC s14 (([] : List Int) ++ [r6.2.1]), oS T_int 1 IC s12 ([r6.2.1])] [fS 1 IC SlV.nil ([]), fS 1 FC s_1 ([FnV.mk (.func F_rule_pair_1) #[] #[.pointer (some ⟨b_1_1, 0, none⟩), .pointer (some ⟨b_1_2, 0, none⟩)], FnV.mk (.func F_rule_pair_1) #[] #[.pointer (some ⟨b_1_3, 0, none⟩), .pointer (some ⟨b_1_4, 0, none⟩)]]), oB b_1_1 T_int [.int .i64 a1_0], oB b_1_2 T_int [.int .i64 a1_1], oB b_1_3 T_int [.int .i64 a1_2], oB b_1_4 T_int [.int .i64 a1_3]] := S.front 2
  obtain ⟨B23, MB23, SB23, back⟩ := S.calln 1 ((.nil))
  refine wl_call (does_call ca_formula_Table_Imp) (by decide) (formula_Table_Imp_st SB23 er21) ?_
  rintro _ w22 ⟨rfl, S2⟩
  replace S : St A N w w22 [oT a_0 r21.1, oS T_int 1 IC s14 (([] : List Int) ++ [r6.2.1]), oS T_int 1 IC s12 ([r6.2.1])] [fS 1 IC SlV.nil ([]), fS 1 FC s_1 ([FnV.mk (.func F_rule_pair_1) #[] #[.pointer (some ⟨b_1_1, 0, none⟩), .pointer (some ⟨b_1_2, 0, none⟩)], FnV.mk (.func F_rule_pair_1) #[] #[.pointer (some ⟨b_1_3, 0, none⟩), .pointer (some ⟨b_1_4, 0, none⟩)]]), oB b_1_1 T_int [.int .i64 a1_0], oB b_1_2 T_int [.int .i64 a1_1], oB b_1_3 T_int [.int .i64 a1_2], oB b_1_4 T_int [.int .i64 a1_3]] := back _ _ _ _ S2 rfl
  clear back S2 SB23
  refine wd (does_mv_t rfl) ?_
  refine wd (does_extract rfl rfl) ?_
  refine wd (does_extract rfl rfl) ?_
  refine wd (does_as_i rfl) ?_
  refine wd (does_as_i rfl) ?_
  refine wl_nil ?_
  refine wc_seq (wc_seq (wc_region ?_))
  refine wd (does_mv_i rfl) ?_
  refine wd (does_ne rfl rfl) ?_
  refine wl_nil ?_
  refine wc_if rfl (fun hc24 => ?_) (fun hc24 => ?_)
  · replace H := if_t hc24 H
    refine wc_seq (wc_region ?_)
    refine wd (does_mv_i rfl) ?_
    refine wd (does_as_nil) ?_
    refine wd (does_as_i rfl) ?_
    refine wl_nil ?_
    refine wc_ret ?_
    replace S : St A N w w22 [oS T_int 1 IC SlV.nil ([] : List Int), oT a_0 r21.1, oS T_int 1 IC s14 (([] : List Int) ++ [r6.2.1]), oS T_int 1 IC s12 ([r6.2.1])] [fS 1 IC SlV.nil ([]), fS 1 FC s_1 ([FnV.mk (.func F_rule_pair_1) #[] #[.pointer (some ⟨b_1_1, 0, none⟩), .pointer (some ⟨b_1_2, 0, none⟩)], FnV.mk (.func F_rule_pair_1) #[] #[.pointer (some ⟨b_1_3, 0, none⟩), .pointer (some ⟨b_1_4, 0, none⟩)]]), oB b_1_1 T_int [.int .i64 a1_0], oB b_1_2 T_int [.int .i64 a1_1], oB b_1_3 T_int [.int .i64 a1_2], oB b_1_4 T_int [.int .i64 a1_3]] := S.nil T_int 1 IC
    refine ⟨_, (rets2 (retOne_tmp rfl) (retOne_tmp rfl)), ?_⟩
    replace S : St A N w w22 [oT a_0 r21.1, oS T_int 1 IC SlV.nil ([] : List Int)] [] := S.arr [1, 0] []
    obtain rfl := Option.some.inj H
    exact ⟨SlV.nil, rfl, S⟩
  replace H := if_f hc24 H
  refine wc_skip ?_
  refine wc_region ?_
  refine wd (does_mv_l rfl) ?_
  refine wd (does_mv_i rfl) ?_
  refine wl_lits (C := IC) (l := [r21.2.1]) (vs := [.int .i64 r21.2.1]) sl_L_int el_int.zero rfl rfl (fun _ _ => rfl) (by decide) rfl (by decide) fun b26 w25 s27 hBw25 hw25 => ?_
  replace S : St A N w w25 [oS T_int 1 IC s27 ([r21.2.1]), oT a_0 r21.1, oS T_int 1 IC s14 (([] : List Int) ++ [r6.2.1]), oS T_int 1 IC s12 ([r6.2.1])] [fS 1 IC SlV.nil ([]), fS 1 FC s_1 ([FnV.mk (.func F_rule_pair_1) #[] #[.pointer (some ⟨b_1_1, 0, none⟩), .pointer (some ⟨b_1_2, 0, none⟩)], FnV.mk (.func F_rule_pair_1) #[] #[.pointer (some ⟨b_1_3, 0, none⟩), .pointer (some ⟨b_1_4, 0, none⟩)]]), oB b_1_1 T_int [.int .i64 a1_0], oB b_1_2 T_int [.int .i64 a1_1], oB b_1_3 T_int [.int .i64 a1_2], oB b_1_4 T_int [.int .i64 a1_3]] := S.lit hBw25 hw25 (by simp)
  obtain ⟨ha30, H⟩ := chk_ex H
  have ha30 := of_decide_eq_true ha30
  refine wl_appends (C := IC) sl_L_int el_int rfl rfl (S.sl 2) (S.rdO 0) (by simp) (fun a _ v hv => by rw [List.mem_singleton.1 hv]; rfl) ha30 (by omega) (by decide) fun s29 w28 O hw28 gw28 => ?_
  replace S : St A N w w28 [oS T_int 1 IC s29 ((([] : List Int) ++ [r6.2.1]) ++ [r21.2.1]), oS T_int 1 IC s27 ([r21.2.1]), oT a_0 r21.1, oS T_int 1 IC s12 ([r6.2.1])] [fS 1 IC SlV.nil ([]), fS 1 FC s_1 ([FnV.mk (.func F_rule_pair_1) #[] #[.pointer (some ⟨b_1_1, 0, none⟩), .pointer (some ⟨b_1_2, 0, none⟩)], FnV.mk (.func F_rule_pair_1) #[] #[.pointer (some ⟨b_1_3, 0, none⟩), .pointer (some ⟨b_1_4, 0, none⟩)]]), oB b_1_1 T_int [.int .i64 a1_0], oB b_1_2 T_int [.int .i64 a1_1], oB b_1_3 T_int [.int .i64 a1_2], oB b_1_4 T_int [.int .i64 a1_3]] := S.push 2 O (by first | (simp; done) | (simp; omega)) hw28 gw28
  clear O
  refine wd (does_as_l rfl) ?_
  refine wl_nil ?_
  refine wc_region ?_
  refine wd (does_addc rfl rfl (c := 2) rfl (by decide) (by decide)) ?_
  refine wd (does_mv_i rfl) ?_
  refine wl_nil ?_
  refine ⟨rfl, ?_⟩
  refine rounds_s ?_
  refine wc_seq (wc_region ?_)
  refine wd (does_lt rfl rfl) ?_
  refine wl_nil ?_
  refine wc_seq ?_
  refine wc_false rfl ?_
  refine wc_exit ?_
  refine wc_seq (wc_region ?_)
  refine wd (does_mv_l rfl) ?_
  refine wd (does_as_l rfl) ?_
  refine wd (does_as_i rfl) ?_
  refine wl_nil ?_
  refine wc_ret ?_
  refine ⟨_, (rets2 (retOne_tmp rfl) (retOne_tmp rfl)), ?_⟩
  replace S : St A N w w28 [oT a_0 r21.1, oS T_int 1 IC s29 ((([] : List Int) ++ [r6.2.1]) ++ [r21.2.1])] [] := S.arr [2, 0] []
  obtain rfl := Option.some.inj H
  exact ⟨s29, rfl, S⟩
theorem rule_imps__rule_pair_1_st {A : Nat → Prop} {N : Oth} {w : World} {a0 : Tb} {a_0 : Option Addr} {a1_0 : Int} {a1_1 : Int} {s_1 : SlV} {b_1_1 : Nat} {b_1_2 : Nat} (S : St A N w w [oT a_0 a0] [fS 1 FC s_1 ([FnV.mk (.func F_rule_pair_1) #[] #[.pointer (some ⟨b_1_1, 0, none⟩), .pointer (some ⟨b_1_2, 0, none⟩)]]), oB b_1_1 T_int [.int .i64 a1_0], oB b_1_2 T_int [.int .i64 a1_1]]) {r : Tb × List Int × Int} (H : rule_imps__rule_pair_1.f a0 a1_0 a1_1 = some r) :
    Calls PP F_rule_imps #[.pointer a_0, s_1.v] w fun e w' => ∃ v, e = .returned v ∧ (∃ so0 : SlV, v = .tuple #[so0.v, .int .i64 r.2.2] ∧ St A N w w' [oT a_0 r.1, oS T_int 1 IC so0 r.2.1] []) := by
  unfold rule_imps__rule_pair_1.f at H
  refine calls_of_wc (n := 41) fn_rule_imps rfl rfl (by simp) ?_
  refine wc_seq (wc_region ?_)
  refine wd (does_as_nil) ?_
  refine wd (does_as_i rfl) ?_
  refine wl_nil ?_
  refine wc_seq (wc_region ?_)
  refine wd (does_as_nil) ?_
  refine wl_nil ?_
  refine wc_seq (wc_seq (wc_region ?_))
  refine wd (does_mv_l rfl) ?_
  refine wd (does_lenR sl_L_func_L_int_int_int rfl (S.rd 0)) ?_
  refine wd (does_mv_i rfl) ?_
  refine wl_nil ?_
  refine wc_block ?_
  refine wc_rounds 2 ?_
  refine rounds_s ?_
  refine wc_seq (wc_region ?_)
  refine wd (does_lt rfl rfl) ?_
  refine wl_nil ?_
  refine wc_seq ?_
  refine wc_true rfl ?_
  refine wc_skip ?_
  refine wc_seq ?_
  refine wc_block ?_
  refine wc_seq (wc_region ?_)
  refine wd (does_indexR sl_L_func_L_int_int_int rfl rfl (S.rd 0) (by decide) (by simp)) ?_
  refine wd (does_load on_func_L_int_int_int rfl ((S.rd 0).one (at_some FnV.nil (And.intro (by decide) (by simp))) rfl)) ?_
  refine wd (does_as_f rfl) ?_
  refine wl_nil ?_
  refine wc_seq (wc_region ?_)
  refine wd (does_mv_f rfl) ?_
  refine wd (does_mv_l rfl) ?_
  replace S : St A N w w [oT a_0 a0] [fS 1 IC SlV.nil ([]), fS 1 FC s_1 ([FnV.mk (.func F_rule_pair_1) #[] #[.pointer (some ⟨b_1_1, 0, none⟩), .pointer (some ⟨b_1_2, 0, none⟩)]]), oB b_1_1 T_int [.int .i64 a1_0], oB b_1_2 T_int [.int .i64 a1_1]] := S.nilZ 1 IC
  obtain ⟨r3, er3, H⟩ := bind_ex H
  obtain ⟨B5, MB5, SB5, back⟩ := S.calln 0 ((.z 0 rfl (.z 2 rfl (.z 3 rfl .nil))))
  refine wl_call (does_callv ca_rule_pair_1 rfl) (by decide) (rule_pair_1_st SB5 er3) ?_
  rintro _ w4 ⟨rfl, S2⟩
  replace S : St A N w w4 [oT a_0 a0] [fS 1 IC SlV.nil ([]), fS 1 FC s_1 ([FnV.mk (.func F_rule_pair_1) #[] #[.pointer (some ⟨b_1_1, 0, none⟩), .pointer (some ⟨b_1_2, 0, none⟩)]]), oB b_1_1 T_int [.int .i64 a1_0], oB b_1_2 T_int [.int .i64 a1_1]] := back _ _ _ _ S2 rfl
  clear back S2 SB5
  refine wd (does_mv_t rfl) ?_
  refine wd (does_extract rfl rfl) ?_
  refine wd (does_extract rfl rfl) ?_
  refine wd (does_as_i rfl) ?_
  refine wd (does_as_i rfl) ?_
  refine wl_nil ?_
  refine wc_seq (wc_region ?_)
  refine wd (does_mv_p rfl) ?_
  refine wd (does_mv_i rfl) ?_
  refine wd (does_mv_i rfl) ?_
  obtain ⟨r6, er6, H⟩ := bind_ex H
  obtain ⟨B8, MB8, SB8, back⟩ := S.calln 1 ((.nil))
  refine wl_call (does_call ca_formula_Table_Imp) (by decide) (formula_Table_Imp_st SB8 er6) ?_
  rintro _ w7 ⟨rfl, S2⟩
  replace S : St A N w w7 [oT a_0 r6.1] [fS 1 IC SlV.nil ([]), fS 1 FC s_1 ([FnV.mk (.func F_rule_pair_1) #[] #[.pointer (some ⟨b_1_1, 0, none⟩), .pointer (some ⟨b_1_2, 0, none⟩)]]), oB b_1_1 T_int [.int .i64 a1_0], oB b_1_2 T_int [.int .i64 a1_1]] := back _ _ _ _ S2 rfl
  clear back S2 SB8
  refine wd (does_mv_t rfl) ?_
  refine wd (does_extract rfl rfl) ?_
  refine wd (does_extract rfl rfl) ?_
  refine wd (does_as_i rfl) ?_
  refine wd (does_as_i rfl) ?_
  refine wl_nil ?_
  refine wc_seq (wc_seq (wc_region ?_))
  refine wd (does_mv_i rfl) ?_
  refine wd (does_ne rfl rfl) ?_
  refine wl_nil ?_
  refine wc_if rfl (fun hc9 => ?_) (fun hc9 => ?_)
  · replace H := if_t hc9 H
    refine wc_seq (wc_region ?_)
    refine wd (does_mv_i rfl) ?_
    refine wd (does_as_nil) ?_
    refine wd (does_as_i rfl) ?_
    refine wl_nil ?_
    refine wc_ret ?_
    replace S : St A N w w7 [oS T_int 1 IC SlV.nil ([] : List Int), oT a_0 r6.1] [fS 1 IC SlV.nil ([]), fS 1 FC s_1 ([FnV.mk (.func F_rule_pair_1) #[] #[.pointer (some ⟨b_1_1, 0, none⟩), .pointer (some ⟨b_1_2, 0, none⟩)]]), oB b_1_1 T_int [.int .i64 a1_0], oB b_1_2 T_int [.int .i64 a1_1]] := S.nil T_int 1 IC
    refine ⟨_, (rets2 (retOne_tmp rfl) (retOne_tmp rfl)), ?_⟩
    replace S : St A N w w7 [oT a_0 r6.1, oS T_int 1 IC SlV.nil ([] : List Int)] [] := S.arr [1, 0] []
    obtain rfl := Option.some.inj H
    exact ⟨SlV.nil, rfl, S⟩
  replace H := if_f hc9 H
  refine wc_skip ?_
  refine wc_region ?_
  refine wd (does_mv_l rfl) ?_
  refine wd (does_mv_i rfl) ?_
  refine wl_lits (C := IC) (l := [r6.2.1]) (vs := [.int .i64 r6.2.1]) sl_L_int el_int.zero rfl rfl (fun _ _ => rfl) (by decide) rfl (by decide) fun b11 w10 s12 hBw10 hw10 => ?_
  replace S : St A N w w10 [oS T_int 1 IC s12 ([r6.2.1]), oT a_0 r6.1] [fS 1 IC SlV.nil ([]), fS 1 FC s_1 ([FnV.mk (.func F_rule_pair_1) #[] #[.pointer (some ⟨b_1_1, 0, none⟩), .pointer (some ⟨b_1_2, 0, none⟩)]]), oB b_1_1 T_int [.int .i64 a1_0], oB b_1_2 T_int [.int .i64 a1_1]] := S.lit hBw10 hw10 (by simp)
  replace S : St A N w w10 [oS T_int 1 IC SlV.nil ([] : List Int), oS T_int 1 IC s12 ([r6.2.1]), oT a_0 r6.1] [fS 1 IC SlV.nil ([]), fS 1 FC s_1 ([FnV.mk (.func F_rule_pair_1) #[] #[.pointer (some ⟨b_1_1, 0, none⟩), .pointer (some ⟨b_1_2, 0, none⟩)]]), oB b_1_1 T_int [.int .i64 a1_0], oB b_1_2 T_int [.int .i64 a1_1]] := S.nil T_int 1 IC
  obtain ⟨ha15, H⟩ := chk_ex H
  have ha15 := of_decide_eq_true ha15
  refine wl_appends (C := IC) sl_L_int el_int rfl rfl (S.sl 0) (S.rdO 1) (by simp) (fun a _ v hv => by rw [List.mem_singleton.1 hv]; rfl) ha15 (by omega) (by decide) fun s14 w13 O hw13 gw13 => ?_
  replace S : St A N w w13 [oS T_int 1 IC s14 (([] : List Int) ++ [r6.2.1]), oS T_int 1 IC s12 ([r6.2.1]), oT a_0 r6.1] [fS 1 IC SlV.nil ([]), fS 1 FC s_1 ([FnV.mk (.func F_rule_pair_1) #[] #[.pointer (some ⟨b_1_1, 0, none⟩), .pointer (some ⟨b_1_2, 0, none⟩)]]), oB b_1_1 T_int [.int .i64 a1_0], oB b_1_2 T_int [.int .i64 a1_1]] := S.push 0 O (by first | (simp; done) | (simp; omega)) hw13 gw13
  clear O
  refine wd (does_as_l rfl) ?_
  refine wl_nil ?_
  refine wc_region ?_
  refine wd (does_addc rfl rfl (c := 1) rfl (by decide) (by decide)) ?_
  refine wd (does_mv_i rfl) ?_
  refine wl_nil ?_
  refine ⟨rfl, ?_⟩
  refine rounds_s ?_
  refine wc_seq (wc_region ?_)
  refine wd (does_lt rfl rfl) ?_
  refine wl_nil ?_
  refine wc_seq ?_
  refine wc_false rfl ?_
  refine wc_exit ?_
  refine wc_seq (wc_region ?_)
  refine wd (does_mv_l rfl) ?_
  refine wd (does_as_l rfl) ?_
  refine wd (does_as_i rfl) ?_
  refine wl_nil ?_
  refine wc_ret ?_
  refine ⟨_, (rets2 (retOne_tmp rfl) (retOne_tmp rfl)), ?_⟩
  replace S : St A N w w13 [oT a_0 r6.1, oS T_int 1 IC s14 (([] : List Int) ++ [r6.2.1])] [] := S.arr [2, 0] []
  obtain rfl := Option.some.inj H
  exact ⟨s14, rfl, S⟩
theorem rule_premises_st {A : Nat → Prop} {N : Oth} {w : World} {a0 : Tb} {a_0 : Option Addr} {a1 : Sq} {a2 : Int} {a3 : Int} (S : St A N w w [oT a_0 a0] []) {r : Tb × List Sq × Int} (H : rule_premises.f a0 a1 a2 a3 = some r) :
    Calls PP F_rule_premises #[.pointer a_0, .agg (Sq.C a1).toArray, .int .i64 a2, .int .i64 a3] w fun e w' => ∃ v, e = .returned v ∧ (∃ so0 : SlV, v = .tuple #[so0.v, .int .i64 r.2.2] ∧ St A N w w' [oT a_0 r.1, oS T_Sq 17 Sq.C so0 r.2.1] []) := by
  unfold rule_premises.f at H
  refine calls_of_wc (n := 181) fn_rule_premises rfl rfl (by simp) ?_
  refine wc_seq (wc_region ?_)
  refine wl_box_agg rfl (by decide) fun b2 w1 hw1 => ?_
  replace S : St A N w w1 [oB b2 T_Sq (Sq.C a1), oT a_0 a0] [] := S.new hw1
  refine wd (does_as_nil) ?_
  refine wd (does_as_i rfl) ?_
  refine wl_nil ?_
  refine wc_seq (wc_region ?_)
  refine wd (does_mv_p rfl) ?_
  refine wd (does_mv_i rfl) ?_
  obtain ⟨r3, er3, H⟩ := bind_ex H
  obtain ⟨B5, MB5, SB5, back⟩ := S.calln 0 ((.o 1 rfl .nil))
  refine wl_call (does_call ca_rule_node) (by decide) (rule_node_st SB5 er3) ?_
  rintro _ w4 ⟨rfl, S2⟩
  replace S : St A N w w4 [oB b2 T_Sq (Sq.C a1), oT a_0 a0] [] := back _ _ _ _ S2 rfl
  clear back S2 SB5
  refine wl_alloc ze_Nd (by decide) fun b7 w6 hw6 => ?_
  replace S : St A N w w6 [oB b7 T_Nd (Nd.C Nd.z), oB b2 T_Sq (Sq.C a1), oT a_0 a0] [] := S.new hw6
  refine wl_store_agg ag_Nd rfl rfl (S.blk 0) (Nd.len _) (by rw [Nd.len]; decide) (Nd.one _) (store_all (Nd.len _)) fun w8 B hw8 zw8 => ?_
  replace S : St A N w w8 [oB b7 T_Nd (Nd.C r3), oB b2 T_Sq (Sq.C a1), oT a_0 a0] [] := S.store 0 B hw8
  clear B
  refine wl_nil ?_
  refine wc_seq (wc_region ?_)
  refine wd (does_mv_p rfl) ?_
  refine wd (does_fieldAddr fl_Nd_l rfl (o' := 2) rfl) ?_
  refine wd (does_load on_int rfl ((S.blk 0).cell (Nd.get_l _))) ?_
  obtain ⟨r9, er9, H⟩ := bind_ex H
  obtain ⟨B11, MB11, SB11, back⟩ := S.calln 0 ((.o 2 rfl .nil))
  refine wl_call (does_call ca_rule_node) (by decide) (rule_node_st SB11 er9) ?_
  rintro _ w10 ⟨rfl, S2⟩
  replace S : St A N w w10 [oB b7 T_Nd (Nd.C r3), oB b2 T_Sq (Sq.C a1), oT a_0 a0] [] := back _ _ _ _ S2 rfl
  clear back S2 SB11
  refine wl_alloc ze_Nd (by decide) fun b13 w12 hw12 => ?_
  replace S : St A N w w12 [oB b13 T_Nd (Nd.C Nd.z), oB b7 T_Nd (Nd.C r3), oB b2 T_Sq (Sq.C a1), oT a_0 a0] [] := S.new hw12
  refine wl_store_agg ag_Nd rfl rfl (S.blk 0) (Nd.len _) (by rw [Nd.len]; decide) (Nd.one _) (store_all (Nd.len _)) fun w14 B hw14 zw14 => ?_
  replace S : St A N w w14 [oB b13 T_Nd (Nd.C r9), oB b7 T_Nd (Nd.C r3), oB b2 T_Sq (Sq.C a1), oT a_0 a0] [] := S.store 0 B hw14
  clear B
  refine wl_nil ?_
  refine wc_seq (wc_region ?_)
  refine wd (does_load_agg ag_Sq rfl ((S.blk 2).all _ (Sq.len _)) (Sq.len _)) ?_
  refine wl_alloc ze_Sq (by decide) fun b16 w15 hw15 => ?_
  replace S : St A N w w15 [oB b16 T_Sq (Sq.C Sq.z), oB b13 T_Nd (Nd.C r9), oB b7 T_Nd (Nd.C r3), oB b2 T_Sq (Sq.C a1), oT a_0 a0] [] := S.new hw15
  refine wl_store_agg ag_Sq rfl rfl (S.blk 0) (Sq.len _) (by rw [Sq.len]; decide) (Sq.one _) (store_all (Sq.len _)) fun w17 B hw17 zw17 => ?_
  replace S : St A N w w17 [oB b16 T_Sq (Sq.C a1), oB b13 T_Nd (Nd.C r9), oB b7 T_Nd (Nd.C r3), oB b2 T_Sq (Sq.C a1), oT a_0 a0] [] := S.store 0 B hw17
  clear B
  refine wl_nil ?_
  refine wc_seq (wc_region ?_)
  refine wd (does_fieldAddr fl_Sq_left rfl (o' := 0) rfl) ?_
  refine wd (does_load_agg ag_Bits rfl ((S.blk 3).cells (Sq.sub_left _)) (Bits.len _)) ?_
  refine wd (does_mv_i rfl) ?_
  obtain ⟨r18, er18, H⟩ := bind_ex H
  obtain ⟨B20, MB20, SB20, back⟩ := S.calln 0 ((.nil))
  refine wl_call (does_call ca_bits_Drop) (by decide) (bits_Drop_st SB20 er18) ?_
  rintro _ w19 ⟨rfl, S2⟩
  replace S : St A N w w19 [oB b16 T_Sq (Sq.C a1), oB b13 T_Nd (Nd.C r9), oB b7 T_Nd (Nd.C r3), oB b2 T_Sq (Sq.C a1), oT a_0 a0] [] := back _ _ _ _ S2 rfl
  clear back S2 SB20
  refine wd (does_fieldAddr fl_Sq_left rfl (o' := 0) rfl) ?_
  refine wl_store_agg ag_Bits rfl rfl (S.blk 0) (Bits.len _) (by rw [Sq.len]; decide) (Bits.one _) (Sq.put_left _ _) fun w21 B hw21 zw21 => ?_
  replace S : St A N w w21 [oB b16 T_Sq (Sq.C ({ a1 with left := r18 })), oB b13 T_Nd (Nd.C r9), oB b7 T_Nd (Nd.C r3), oB b2 T_Sq (Sq.C a1), oT a_0 a0] [] := S.store 0 B hw21
  clear B
  refine wl_nil ?_
  refine wc_seq (wc_seq (wc_region ?_))
  refine wd (does_mv_i rfl) ?_
  refine wl_nil ?_
  refine wc_block ?_
  refine wc_seq (wc_region ?_)
  refine wd (does_eq rfl rfl) ?_
  refine wd (does_as_b rfl) ?_
  refine wl_nil ?_
  refine wc_if rfl (fun hc22 => ?_) (fun hc22 => ?_)
  · replace H := if_t hc22 H
    refine wc_seq (wc_region ?_)
    refine wd (does_load_agg ag_Sq rfl ((S.blk 0).all _ (Sq.len _)) (Sq.len _)) ?_
    refine wd (does_fieldAddr fl_Nd_l rfl (o' := 2) rfl) ?_
    refine wd (does_load on_int rfl ((S.blk 2).cell (Nd.get_l _))) ?_
    refine wd (does_fieldAddr fl_Nd_r rfl (o' := 3) rfl) ?_
    refine wd (does_load on_int rfl ((S.blk 2).cell (Nd.get_r _))) ?_
    refine wl_lits (C := IC) (l := [r3.l, r3.r]) (vs := [.int .i64 r3.l, .int .i64 r3.r]) sl_L_int el_int.zero rfl rfl (fun _ _ => rfl) (by decide) rfl (by decide) fun b24 w23 s25 hBw23 hw23 => ?_
    replace S : St A N w w23 [oS T_int 1 IC s25 ([r3.l, r3.r]), oB b16 T_Sq (Sq.C ({ a1 with left := r18 })), oB b13 T_Nd (Nd.C r9), oB b7 T_Nd (Nd.C r3), oB b2 T_Sq (Sq.C a1), oT a_0 a0] [] := S.lit hBw23 hw23 (by simp)
    obtain ⟨r26, er26, H⟩ := bind_ex H
    obtain ⟨B28, MB28, SB28, back⟩ := S.calln 0 ((.s 0 rfl .nil))
    refine wl_call (does_call ca_rule_with) (by decide) (rule_with_st SB28 er26) ?_
    rintro _ w27 ⟨rfl, S2⟩
    replace S : St A N w w27 [oS T_int 1 IC s25 ([r3.l, r3.r]), oB b16 T_Sq (Sq.C ({ a1 with left := r18 })), oB b13 T_Nd (Nd.C r9), oB b7 T_Nd (Nd.C r3), oB b2 T_Sq (Sq.C a1), oT a_0 a0] [] := back _ _ _ _ S2 rfl
    clear back S2 SB28
    refine wl_lits (C := Sq.C) (l := [r26]) (vs := [.agg (Sq.C r26).toArray]) sl_L_api_Seq el_Sq.zero rfl rfl (fun a _ => Sq.len a) (by decide) rfl (by decide) fun b30 w29 s31 hBw29 hw29 => ?_
    replace S : St A N w w29 [oS T_Sq 17 Sq.C s31 ([r26]), oS T_int 1 IC s25 ([r3.l, r3.r]), oB b16 T_Sq (Sq.C ({ a1 with left := r18 })), oB b13 T_Nd (Nd.C r9), oB b7 T_Nd (Nd.C r3), oB b2 T_Sq (Sq.C a1), oT a_0 a0] [] := S.lit hBw29 hw29 (by simp)
    refine wd (does_as_l rfl) ?_
    refine wd (does_as_i rfl) ?_
    refine wl_nil ?_
    refine wc_ret ?_
    refine ⟨_, (rets2 (retOne_tmp rfl) (retOne_tmp rfl)), ?_⟩
    replace S : St A N w w29 [oT a_0 a0, oS T_Sq 17 Sq.C s31 ([r26])] [] := S.arr [6, 0] []
    obtain rfl := Option.some.inj H
    exact ⟨s31, rfl, S⟩
  replace H := if_f hc22 H
  refine wc_seq (wc_region ?_)
  refine wd (does_eq rfl rfl) ?_
  refine wd (does_as_b rfl) ?_
  refine wl_nil ?_
  refine wc_if rfl (fun hc32 => ?_) (fun hc32 => ?_)
  · replace H := if_t hc32 H
    refine wc_seq (wc_region ?_)
    refine wd (does_load_agg ag_Sq rfl ((S.blk 0).all _ (Sq.len _)) (Sq.len _)) ?_
    refine wd (does_fieldAddr fl_Nd_r rfl (o' := 3) rfl) ?_
    refine wd (does_load on_int rfl ((S.blk 2).cell (Nd.get_r _))) ?_
    refine wl_lits (C := IC) (l := [r3.r]) (vs := [.int .i64 r3.r]) sl_L_int el_int.zero rfl rfl (fun _ _ => rfl) (by decide) rfl (by decide) fun b34 w33 s35 hBw33 hw33 => ?_
    replace S : St A N w w33 [oS T_int 1 IC s35 ([r3.r]), oB b16 T_Sq (Sq.C ({ a1 with left := r18 })), oB b13 T_Nd (Nd.C r9), oB b7 T_Nd (Nd.C r3), oB b2 T_Sq (Sq.C a1), oT a_0 a0] [] := S.lit hBw33 hw33 (by simp)
    obtain ⟨r36, er36, H⟩ := bind_ex H
    obtain ⟨B38, MB38, SB38, back⟩ := S.calln 0 ((.s 0 rfl .nil))
    refine wl_call (does_call ca_rule_with) (by decide) (rule_with_st SB38 er36) ?_
    rintro _ w37 ⟨rfl, S2⟩
    replace S : St A N w w37 [oS T_int 1 IC s35 ([r3.r]), oB b16 T_Sq (Sq.C ({ a1 with left := r18 })), oB b13 T_Nd (Nd.C r9), oB b7 T_Nd (Nd.C r3), oB b2 T_Sq (Sq.C a1), oT a_0 a0] [] := back _ _ _ _ S2 rfl
    clear back S2 SB38
    refine wl_lits (C := Sq.C) (l := [r36]) (vs := [.agg (Sq.C r36).toArray]) sl_L_api_Seq el_Sq.zero rfl rfl (fun a _ => Sq.len a) (by decide) rfl (by decide) fun b40 w39 s41 hBw39 hw39 => ?_
    replace S : St A N w w39 [oS T_Sq 17 Sq.C s41 ([r36]), oS T_int 1 IC s35 ([r3.r]), oB b16 T_Sq (Sq.C ({ a1 with left := r18 })), oB b13 T_Nd (Nd.C r9), oB b7 T_Nd (Nd.C r3), oB b2 T_Sq (Sq.C a1), oT a_0 a0] [] := S.lit hBw39 hw39 (by simp)
    refine wd (does_as_l rfl) ?_
    refine wd (does_as_i rfl) ?_
    refine wl_nil ?_
    refine wc_ret ?_
    refine ⟨_, (rets2 (retOne_tmp rfl) (retOne_tmp rfl)), ?_⟩
    replace S : St A N w w39 [oT a_0 a0, oS T_Sq 17 Sq.C s41 ([r36])] [] := S.arr [6, 0] []
    obtain rfl := Option.some.inj H
    exact ⟨s41, rfl, S⟩
  replace H := if_f hc32 H
  refine wc_seq (wc_region ?_)
  refine wd (does_eq rfl rfl) ?_
  refine wd (does_as_b rfl) ?_
  refine wl_nil ?_
  refine wc_if rfl (fun hc42 => ?_) (fun hc42 => ?_)
  · replace H := if_t hc42 H
    refine wc_seq (wc_region ?_)
    refine wd (does_load_agg ag_Sq rfl ((S.blk 0).all _ (Sq.len _)) (Sq.len _)) ?_
    refine wl_lits (C := Sq.C) (l := [{ a1 with left := r18 }]) (vs := [.agg (Sq.C ({ a1 with left := r18 })).toArray]) sl_L_api_Seq el_Sq.zero rfl rfl (fun a _ => Sq.len a) (by decide) rfl (by decide) fun b44 w43 s45 hBw43 hw43 => ?_
    replace S : St A N w w43 [oS T_Sq 17 Sq.C s45 ([{ a1 with left := r18 }]), oB b16 T_Sq (Sq.C ({ a1 with left := r18 })), oB b13 T_Nd (Nd.C r9), oB b7 T_Nd (Nd.C r3), oB b2 T_Sq (Sq.C a1), oT a_0 a0] [] := S.lit hBw43 hw43 (by simp)
    refine wd (does_as_l rfl) ?_
    refine wd (does_as_i rfl) ?_
    refine wl_nil ?_
    refine wc_ret ?_
    refine ⟨_, (rets2 (retOne_tmp rfl) (retOne_tmp rfl)), ?_⟩
    replace S : St A N w w43 [oT a_0 a0, oS T_Sq 17 Sq.C s45 ([{ a1 with left := r18 }])] [] := S.arr [5, 0] []
    obtain rfl := Option.some.inj H
    exact ⟨s45, rfl, S⟩
  replace H := if_f hc42 H
  refine wc_seq (wc_region ?_)
  refine wd (does_eq rfl rfl) ?_
  refine wd (does_as_b rfl) ?_
  refine wl_nil ?_
  refine wc_if rfl (fun hc46 => ?_) (fun hc46 => ?_)
  · replace H := if_t hc46 H
    refine wc_seq (wc_region ?_)
    refine wd (does_mv_p rfl) ?_
    refine wd (does_fieldAddr fl_Nd_r rfl (o' := 3) rfl) ?_
    refine wd (does_load on_int rfl ((S.blk 1).cell (Nd.get_r _))) ?_
    refine wd (does_fieldAddr fl_Nd_r rfl (o' := 3) rfl) ?_
    refine wd (does_load on_int rfl ((S.blk 2).cell (Nd.get_r _))) ?_
    obtain ⟨r47, er47, H⟩ := bind_ex H
    obtain ⟨B49, MB49, SB49, back⟩ := S.sub [] [] [oB b16 T_Sq (Sq.C ({ a1 with left := r18 })), oB b13 T_Nd (Nd.C r9), oB b7 T_Nd (Nd.C r3), oB b2 T_Sq (Sq.C a1), oT a_0 a0]
    refine wl_call (does_call ca_rule_pair) (by decide) (rule_pair_st SB49 er47) ?_
    rintro _ w48 ⟨b50, b51, rfl, hnww48, S2⟩
    replace S : St A N w w48 [oB b16 T_Sq (Sq.C ({ a1 with left := r18 })), oB b13 T_Nd (Nd.C r9), oB b7 T_Nd (Nd.C r3), oB b2 T_Sq (Sq.C a1), oT a_0 a0] [oB b50 T_int [.int .i64 r47.1], oB b51 T_int [.int .i64 r47.2]] := back _ _ _ _ _ S2 rfl rfl
    clear back S2 SB49
    refine wd (does_funcl) ?_
    refine wl_lits (C := FC) (l := [FnV.mk (.func F_rule_pair_1) #[] #[.pointer (some ⟨b50, 0, none⟩), .pointer (some ⟨b51, 0, none⟩)], FnV.mk (.func F_rule_premises_1) #[] #[.pointer (some ⟨b13, 0, none⟩)]]) (vs := [.func (.func F_rule_pair_1) #[] #[.pointer (some ⟨b50, 0, none⟩), .pointer (some ⟨b51, 0, none⟩)], .func (.func F_rule_premises_1) #[] #[.pointer (some ⟨b13, 0, none⟩)]]) sl_L_func_L_int_int_int el_func_L_int_int_int.zero rfl rfl (fun _ _ => rfl) (by decide) rfl (by decide) fun b53 w52 s54 hBw52 hw52 => ?_
    replace S : St A N w w52 [oS T_func_L_int_int_int 1 FC s54 ([FnV.mk (.func F_rule_pair_1) #[] #[.pointer (some ⟨b50, 0, none⟩), .pointer (some ⟨b51, 0, none⟩)], FnV.mk (.func F_rule_premises_1) #[] #[.pointer (some ⟨b13, 0, none⟩)]]), oB b16 T_Sq (Sq.C ({ a1 with left := r18 })), oB b13 T_Nd (Nd.C r9), oB b7 T_Nd (Nd.C r3), oB b2 T_Sq (Sq.C a1), oT a_0 a0] [oB b50 T_int [.int .i64 r47.1], oB b51 T_int [.int .i64 r47.2]] := S.lit hBw52 hw52 (by simp)
    obtain ⟨r55, er55, H⟩ := bind_ex H
    replace S : St A N w w52 [oT a_0 a0, oS T_func_L_int_int_int 1 FC s54 ([FnV.mk (.func F_rule_pair_1) #[] #[.pointer (some ⟨b50, 0, none⟩), .pointer (some ⟨b51, 0, none⟩)], FnV.mk (.func F_rule_premises_1) #[] #[.pointer (some ⟨b13, 0, none⟩)]]), oB b16 T_Sq (Sq.C ({ a1 with left := r18 })), oB b13 T_Nd (Nd.C r9), oB b7 T_Nd (Nd.C r3), oB b2 T_Sq (Sq.C a1)] [oB b50 T_int [.int .i64 r47.1], oB b51 T_int [.int .i64 r47.2]] := S.front 5
    obtain ⟨B57, MB57, SB57, back⟩ := S.calln 1 ((.s 0 rfl (.z 0 rfl (.z 1 rfl (.o 2 rfl .nil)))))
    refine wl_call (does_call ca_rule_imps) (by decide) (rule_imps__rule_pair_1__rule_premises_1_st SB57 er55) ?_
    rintro _ w56 ⟨s58, rfl, S2⟩
    replace S : St A N w w56 [oT a_0 r55.1, oS T_int 1 IC s58 r55.2.1, oS T_func_L_int_int_int 1 FC s54 ([FnV.mk (.func F_rule_pair_1) #[] #[.pointer (some ⟨b50, 0, none⟩), .pointer (some ⟨b51, 0, none⟩)], FnV.mk (.func F_rule_premises_1) #[] #[.pointer (some ⟨b13, 0, none⟩)]]), oB b16 T_Sq (Sq.C ({ a1 with left := r18 })), oB b13 T_Nd (Nd.C r9), oB b7 T_Nd (Nd.C r3), oB b2 T_Sq (Sq.C a1)] [oB b50 T_int [.int .i64 r47.1], oB b51 T_int [.int .i64 r47.2]] := back _ _ _ _ S2 rfl
    clear back S2 SB57
    refine wd (does_mv_t rfl) ?_
    refine wd (does_extract rfl rfl) ?_
    refine wd (does_extract rfl rfl) ?_
    refine wd (does_as_l rfl) ?_
    refine wd (does_as_i rfl) ?_
    refine wl_nil ?_
    refine wc_seq (wc_seq (wc_region ?_))
    refine wd (does_mv_i rfl) ?_
    refine wd (does_ne rfl rfl) ?_
    refine wl_nil ?_
    refine wc_if rfl (fun hc59 => ?_) (fun hc59 => ?_)
    · replace H := if_t hc59 H
      refine wc_seq (wc_region ?_)
      refine wd (does_mv_i rfl) ?_
      refine wd (does_as_nil) ?_
      refine wd (does_as_i rfl) ?_
      refine wl_nil ?_
      refine wc_ret ?_
      replace S : St A N w w56 [oS T_Sq 17 Sq.C SlV.nil ([] : List Sq), oT a_0 r55.1, oS T_int 1 IC s58 r55.2.1, oS T_func_L_int_int_int 1 FC s54 ([FnV.mk (.func F_rule_pair_1) #[] #[.pointer (some ⟨b50, 0, none⟩), .pointer (some ⟨b51, 0, none⟩)], FnV.mk (.func F_rule_premises_1) #[] #[.pointer (some ⟨b13, 0, none⟩)]]), oB b16 T_Sq (Sq.C ({ a1 with left := r18 })), oB b13 T_Nd (Nd.C r9), oB b7 T_Nd (Nd.C r3), oB b2 T_Sq (Sq.C a1)] [oB b50 T_int [.int .i64 r47.1], oB b51 T_int [.int .i64 r47.2]] := S.nil T_Sq 17 Sq.C
      refine ⟨_, (rets2 (retOne_tmp rfl) (retOne_tmp rfl)), ?_⟩
      replace S : St A N w w56 [oT a_0 r55.1, oS T_Sq 17 Sq.C SlV.nil ([] : List Sq)] [] := S.arr [1, 0] []
      obtain rfl := Option.some.inj H
      exact ⟨SlV.nil, rfl, S⟩
    replace H := if_f hc59 H
    refine wc_skip ?_
    refine wc_seq ?_
    obtain ⟨hi60, H⟩ := chk_ex H
    refine wc_semi 5 [4]
      (fun i v u => match i with
      | 4 => ∃ sl, v = SlV.v sl ∧ Rd u 1 sl ([at_ (0 : Int) r55.2.1 1].map IC) ∧ (∀ j, sl.fp j → w56.heap.size ≤ j)
      | _ => True) hmix (by kernel_rfl) (by kernel_rfl) ?_ ?_
    · intro i v u u' hi hx hv
      match i, hv with
      | 4, ⟨b, e1, hr, hl⟩ => exact ⟨b, e1, hr.ext hx, hl⟩
      | 0, _ => exact trivial
      | 1, _ => exact trivial
      | 2, _ => exact trivial
      | 3, _ => exact trivial
      | _ + 5, _ => exact trivial
    refine wm_does (fun v K => does_load_agg ag_Sq rfl (((S.ext K).blk 3).all _ (Sq.len _)) (Sq.len _)) rfl ?_
    refine wm_does (fun v K => does_mv_l rfl) rfl ?_
    refine wm_does (fun v K => does_indexR sl_L_int rfl rfl ((S.ext K).rdO 1) (inb_ex hi60).1 (inb_ex hi60).2) rfl ?_
    refine wm_does (fun v K => does_load on_int rfl (((S.ext K).rdO 1).one (at_some (0 : Int) (inb_ex hi60)) rfl)) rfl ?_
    refine wm_new (fun g v K G => (have ⟨sl, v', hd, hx, ho, hf⟩ := does_lits (C := IC) (l := [at_ (0 : Int) r55.2.1 1]) (vs := [.int .i64 (at_ (0 : Int) r55.2.1 1)]) sl_L_int el_int.zero rfl rfl (fun _ _ => rfl) (by first | decide | simp) rfl; ⟨_, v', hd, hx, sl, rfl, ho.toRd, (fun j hj => by have := hf j hj; have := K.size; omega)⟩)) rfl ?_
    refine wm_nil fun g w62 K hV => ?_
    obtain ⟨s61, hv634, hr4, hf4⟩ := hV 4 rfl (by decide)
    replace S : St A N w w62 [oT a_0 r55.1, oS T_int 1 IC s58 r55.2.1, oS T_func_L_int_int_int 1 FC s54 ([FnV.mk (.func F_rule_pair_1) #[] #[.pointer (some ⟨b50, 0, none⟩), .pointer (some ⟨b51, 0, none⟩)], FnV.mk (.func F_rule_premises_1) #[] #[.pointer (some ⟨b13, 0, none⟩)]]), oB b16 T_Sq (Sq.C ({ a1 with left := r18 })), oB b13 T_Nd (Nd.C r9), oB b7 T_Nd (Nd.C r3), oB b2 T_Sq (Sq.C a1)] [fS 1 IC s61 ([at_ (0 : Int) r55.2.1 1]), oB b50 T_int [.int .i64 r47.1], oB b51 T_int [.int .i64 r47.2]] := S.addZs K (.s hr4 (by simp) hf4 .nil)
    clear K hV
    obtain ⟨r64, er64, H⟩ := bind_ex H
    obtain ⟨B66, MB66, SB66, back⟩ := S.calln 0 ((.z 0 rfl .nil))
    refine wl_call (does_callg ca_rule_with (cons2 rfl (cons2 hv634 rfl))) (by decide) (rule_with_st SB66 er64) ?_
    rintro _ w65 ⟨rfl, S2⟩
    replace S : St A N w w65 [oT a_0 r55.1, oS T_int 1 IC s58 r55.2.1, oS T_func_L_int_int_int 1 FC s54 ([FnV.mk (.func F_rule_pair_1) #[] #[.pointer (some ⟨b50, 0, none⟩), .pointer (some ⟨b51, 0, none⟩)], FnV.mk (.func F_rule_premises_1) #[] #[.pointer (some ⟨b13, 0, none⟩)]]), oB b16 T_Sq (Sq.C ({ a1 with left := r18 })), oB b13 T_Nd (Nd.C r9), oB b7 T_Nd (Nd.C r3), oB b2 T_Sq (Sq.C a1)] [fS 1 IC s61 ([at_ (0 : Int) r55.2.1 1]), oB b50 T_int [.int .i64 r47.1], oB b51 T_int [.int .i64 r47.2]] := back _ _ _ _ S2 rfl
    clear back S2 SB66
    refine wl_lits (C := Sq.C) (l := [r64]) (vs := [.agg (Sq.C r64).toArray]) sl_L_api_Seq el_Sq.zero rfl rfl (fun a _ => Sq.len a) (by decide) rfl (by decide) fun b68 w67 s69 hBw67 hw67 => ?_
    replace S : St A N w w67 [oS T_Sq 17 Sq.C s69 ([r64]), oT a_0 r55.1, oS T_int 1 IC s58 r55.2.1, oS T_func_L_int_int_int 1 FC s54 ([FnV.mk (.func F_rule_pair_1) #[] #[.pointer (some ⟨b50, 0, none⟩), .pointer (some ⟨b51, 0, none⟩)], FnV.mk (.func F_rule_premises_1) #[] #[.pointer (some ⟨b13, 0, none⟩)]]), oB b16 T_Sq (Sq.C ({ a1 with left := r18 })), oB b13 T_Nd (Nd.C r9), oB b7 T_Nd (Nd.C r3), oB b2 T_Sq (Sq.C a1)] [fS 1 IC s61 ([at_ (0 : Int) r55.2.1 1]), oB b50 T_int [.int .i64 r47.1], oB b51 T_int [.int .i64 r47.2]] := S.lit hBw67 hw67 (by simp)
    refine wd (does_as_l rfl) ?_
    refine wd (does_as_i rfl) ?_
    refine wl_nil ?_
    refine wc_ret ?_
    refine ⟨_, (rets2 (retOne_tmp rfl) (retOne_tmp rfl)), ?_⟩
    replace S : St A N w w67 [oT a_0 r55.1, oS T_Sq 17 Sq.C s69 ([r64])] [] := S.arr [1, 0] []
    obtain rfl := Option.some.inj H
    exact ⟨s69, rfl, S⟩
  replace H := if_f hc46 H
  refine wc_seq (wc_region ?_)
  refine wd (does_eq rfl rfl) ?_
  refine wd (does_as_b rfl) ?_
  refine wl_nil ?_
  refine wc_if rfl (fun hc70 => ?_) (fun hc70 => ?_)
  · replace H := if_t hc70 H
    refine wc_seq ?_
    refine wc_ws hmix fun w78 K => ?_
    replace S := S.ext K
    clear K
    obtain ⟨r79, er79, H⟩ := bind_ex H
    obtain ⟨r82, er82, H⟩ := bind_ex H
    refine ws_semi 0 12 [5, 10, 11] (by kernel_rfl) (by decide) (by kernel_rfl)
     (V := fun i v u => match i with
      | 5 => ∃ b80 : Nat, ∃ b81 : Nat, v = Value.func (.func F_rule_pair_1) #[] #[.pointer (some ⟨b80, 0, none⟩), .pointer (some ⟨b81, 0, none⟩)] ∧ Blk u b80 T_int [.int .i64 r79.1] ∧ w78.heap.size ≤ b80 ∧ Blk u b81 T_int [.int .i64 r79.2] ∧ w78.heap.size ≤ b81
      | 10 => ∃ b83 : Nat, ∃ b84 : Nat, v = Value.func (.func F_rule_pair_1) #[] #[.pointer (some ⟨b83, 0, none⟩), .pointer (some ⟨b84, 0, none⟩)] ∧ Blk u b83 T_int [.int .i64 r82.1] ∧ w78.heap.size ≤ b83 ∧ Blk u b84 T_int [.int .i64 r82.2] ∧ w78.heap.size ≤ b84
      | 11 => ∃ sl, ∃ b80 : Nat, ∃ b81 : Nat, ∃ b83 : Nat, ∃ b84 : Nat, v = SlV.v sl ∧ Rd u 1 sl ([FnV.mk (.func F_rule_pair_1) #[] #[.pointer (some ⟨b80, 0, none⟩), .pointer (some ⟨b81, 0, none⟩)], FnV.mk (.func F_rule_pair_1) #[] #[.pointer (some ⟨b83, 0, none⟩), .pointer (some ⟨b84, 0, none⟩)]].map FC) ∧ (∀ j, sl.fp j → w78.heap.size ≤ j) ∧ Blk u b80 T_int [.int .i64 r79.1] ∧ w78.heap.size ≤ b80 ∧ Blk u b81 T_int [.int .i64 r79.2] ∧ w78.heap.size ≤ b81 ∧ Blk u b83 T_int [.int .i64 r82.1] ∧ w78.heap.size ≤ b83 ∧ Blk u b84 T_int [.int .i64 r82.2] ∧ w78.heap.size ≤ b84
      | _ => True) ?_ ?_
    · intro i v u u' hi hx hv
      match i, hv with
      | 5, ⟨b80, b81, e1, hbb80, hlb80, hbb81, hlb81⟩ => exact ⟨b80, b81, e1, hbb80.ext hx, hlb80, hbb81.ext hx, hlb81⟩
      | 10, ⟨b83, b84, e1, hbb83, hlb83, hbb84, hlb84⟩ => exact ⟨b83, b84, e1, hbb83.ext hx, hlb83, hbb84.ext hx, hlb84⟩
      | 11, ⟨b, b80, b81, b83, b84, e1, hr, hl, hbb80, hlb80, hbb81, hlb81, hbb83, hlb83, hbb84, hlb84⟩ => exact ⟨b, b80, b81, b83, b84, e1, hr.ext hx, hl, hbb80.ext hx, hlb80, hbb81.ext hx, hlb81, hbb83.ext hx, hlb83, hbb84.ext hx, hlb84⟩
      | 0, _ => exact trivial
      | 1, _ => exact trivial
      | 2, _ => exact trivial
      | 3, _ => exact trivial
      | 4, _ => exact trivial
      | 6, _ => exact trivial
      | 7, _ => exact trivial
      | 8, _ => exact trivial
      | 9, _ => exact trivial
      | _ + 12, _ => exact trivial
    refine wm_does (fun v K => does_mv_p rfl) rfl ?_
    refine wm_does (fun v K => does_fieldAddr fl_Nd_l rfl (o' := 2) rfl) rfl ?_
    refine wm_does (fun v K => does_load on_int rfl (((S.ext K).blk 1).cell (Nd.get_l _))) rfl ?_
    refine wm_does (fun v K => does_fieldAddr fl_Nd_r rfl (o' := 3) rfl) rfl ?_
    refine wm_does (fun v K => does_load on_int rfl (((S.ext K).blk 2).cell (Nd.get_r _))) rfl ?_
    refine wm_newcall (fun g v K G => (have ⟨M, SS⟩ := (S.ext K).lend ((.nil)); ⟨_, _, does_callg ca_rule_pair (cons2 rfl (cons2 rfl rfl)), newc (rule_pair_st SS er79) fun _ _ ⟨b80, b81, hv, h⟩ => ⟨h.2.frame, b80, b81, hv, (h.2.blkZ 0), (by have := h.1.1; have := K.size; omega), (h.2.blkZ 1), (by have := h.1.2; have := K.size; omega)⟩⟩)) rfl ?_
    refine wm_does (fun v K => does_fieldAddr fl_Nd_r rfl (o' := 3) rfl) rfl ?_
    refine wm_does (fun v K => does_load on_int rfl (((S.ext K).blk 1).cell (Nd.get_r _))) rfl ?_
    refine wm_does (fun v K => does_fieldAddr fl_Nd_r rfl (o' := 3) rfl) rfl ?_
    refine wm_does (fun v K => does_load on_int rfl (((S.ext K).blk 2).cell (Nd.get_r _))) rfl ?_
    refine wm_newcall (fun g v K G => (have ⟨M, SS⟩ := (S.ext K).lend ((.nil)); ⟨_, _, does_callg ca_rule_pair (cons2 rfl (cons2 rfl rfl)), newc (rule_pair_st SS er82) fun _ _ ⟨b83, b84, hv, h⟩ => ⟨h.2.frame, b83, b84, hv, (h.2.blkZ 0), (by have := h.1.1; have := K.size; omega), (h.2.blkZ 1), (by have := h.1.2; have := K.size; omega)⟩⟩)) rfl ?_
    refine wm_new (fun g v K G => (have ⟨b80, b81, hv5, hbb80, hlb80, hbb81, hlb81⟩ := G 5 (by decide) rfl; have ⟨b83, b84, hv10, hbb83, hlb83, hbb84, hlb84⟩ := G 10 (by decide) rfl; have ⟨sl, v', hd, hx, ho, hf⟩ := does_lits (C := FC) (l := [FnV.mk (.func F_rule_pair_1) #[] #[.pointer (some ⟨b80, 0, none⟩), .pointer (some ⟨b81, 0, none⟩)], FnV.mk (.func F_rule_pair_1) #[] #[.pointer (some ⟨b83, 0, none⟩), .pointer (some ⟨b84, 0, none⟩)]]) (vs := [.func (.func F_rule_pair_1) #[] #[.pointer (some ⟨b80, 0, none⟩), .pointer (some ⟨b81, 0, none⟩)], .func (.func F_rule_pair_1) #[] #[.pointer (some ⟨b83, 0, none⟩), .pointer (some ⟨b84, 0, none⟩)]]) sl_L_func_L_int_int_int el_func_L_int_int_int.zero (by exact (consP hv5 (consP hv10 rfl))) rfl (fun _ _ => rfl) (by first | decide | simp) rfl; ⟨_, v', hd, hx, sl, b80, b81, b83, b84, rfl, ho.toRd, (fun j hj => by have := hf j hj; have := K.size; omega), (hbb80.ext hx), hlb80, (hbb81.ext hx), hlb81, (hbb83.ext hx), hlb83, (hbb84.ext hx), hlb84⟩)) rfl ?_
    refine wm_nil fun g w86 K hV => ?_
    obtain ⟨s85, b80, b81, b83, b84, hv8711, hr11, hf11, hbb80, hlb80, hbb81, hlb81, hbb83, hlb83, hbb84, hlb84⟩ := hV 11 rfl (by decide)
    replace S : St A N w w86 [oB b16 T_Sq (Sq.C ({ a1 with left := r18 })), oB b13 T_Nd (Nd.C r9), oB b7 T_Nd (Nd.C r3), oB b2 T_Sq (Sq.C a1), oT a_0 a0] [fS 1 FC s85 ([FnV.mk (.func F_rule_pair_1) #[] #[.pointer (some ⟨b80, 0, none⟩), .pointer (some ⟨b81, 0, none⟩)], FnV.mk (.func F_rule_pair_1) #[] #[.pointer (some ⟨b83, 0, none⟩), .pointer (some ⟨b84, 0, none⟩)]]), oB b80 T_int [.int .i64 r79.1], oB b81 T_int [.int .i64 r79.2], oB b83 T_int [.int .i64 r82.1], oB b84 T_int [.int .i64 r82.2]] := S.addZs K (.s hr11 (by simp) hf11 (.b hbb80 hlb80 (.b hbb81 hlb81 (.b hbb83 hlb83 (.b hbb84 hlb84 .nil)))))
    clear K hV
    refine ws_chain 12 14 (by kernel_rfl) (by decide) ?_
    obtain ⟨r88, er88, H⟩ := bind_ex H
    replace S : St A N w w86 [oT a_0 a0, oB b16 T_Sq (Sq.C ({ a1 with left := r18 })), oB b13 T_Nd (Nd.C r9), oB b7 T_Nd (Nd.C r3), oB b2 T_Sq (Sq.C a1)] [fS 1 FC s85 ([FnV.mk (.func F_rule_pair_1) #[] #[.pointer (some ⟨b80, 0, none⟩), .pointer (some ⟨b81, 0, none⟩)], FnV.mk (.func F_rule_pair_1) #[] #[.pointer (some ⟨b83, 0, none⟩), .pointer (some ⟨b84, 0, none⟩)]]), oB b80 T_int [.int .i64 r79.1], oB b81 T_int [.int .i64 r79.2], oB b83 T_int [.int .i64 r82.1], oB b84 T_int [.int .i64 r82.2]] := S.front 4
    obtain ⟨B90, MB90, SB90, back⟩ := S.calln 1 ((.z 0 rfl (.z 1 rfl (.z 2 rfl (.z 3 rfl (.z 4 rfl .nil))))))
    refine wl_call (does_callg ca_rule_imps (cons2 rfl (cons2 hv8711 rfl))) (by decide) (rule_imps__rule_pair_1__rule_pair_1_st SB90 er88) ?_
    rintro _ w89 ⟨s91, rfl, S2⟩
    replace S : St A N w w89 [oT a_0 r88.1, oS T_int 1 IC s91 r88.2.1, oB b16 T_Sq (Sq.C ({ a1 with left := r18 })), oB b13 T_Nd (Nd.C r9), oB b7 T_Nd (Nd.C r3), oB b2 T_Sq (Sq.C a1)] [fS 1 FC s85 ([FnV.mk (.func F_rule_pair_1) #[] #[.pointer (some ⟨b80, 0, none⟩), .pointer (some ⟨b81, 0, none⟩)], FnV.mk (.func F_rule_pair_1) #[] #[.pointer (some ⟨b83, 0, none⟩), .pointer (some ⟨b84, 0, none⟩)]]), oB b80 T_int [.int .i64 r79.1], oB b81 T_int [.int .i64 r79.2], oB b83 T_int [.int .i64 r82.1], oB b84 T_int [.int .i64 r82.2]] := back _ _ _ _ S2 rfl
    clear back S2 SB90
    refine wd (does_mv_t rfl) ?_
    refine wl_nil ⟨rfl, ?_⟩
    refine ws_semi 14 17 [] (by kernel_rfl) (by decide) (by kernel_rfl)
     (V := fun i v u => match i with
      | _ => True) ?_ ?_
    · intro i v u u' hi hx hv
      match i, hv with
      | _, _ => exact trivial
    refine wm_does (fun v K => does_extract rfl rfl) rfl ?_
    refine wm_does (fun v K => does_extract rfl rfl) rfl ?_
    refine wm_does (fun v K => does_as_l rfl) rfl ?_
    refine wm_nil fun g w92 K hV => ?_
    replace S := S.ext K
    clear K hV
    refine ws_tail 17 (by kernel_rfl) (by decide) ?_
    refine wd (does_as_i rfl) ?_
    refine wl_nil ?_
    refine wc_seq (wc_seq (wc_region ?_))
    refine wd (does_mv_i rfl) ?_
    refine wd (does_ne rfl rfl) ?_
    refine wl_nil ?_
    refine wc_if rfl (fun hc94 => ?_) (fun hc94 => ?_)
    · replace H := if_t hc94 H
      refine wc_seq (wc_region ?_)
      refine wd (does_mv_i rfl) ?_
      refine wd (does_as_nil) ?_
      refine wd (does_as_i rfl) ?_
      refine wl_nil ?_
      refine wc_ret ?_
      replace S : St A N w w92 [oS T_Sq 17 Sq.C SlV.nil ([] : List Sq), oT a_0 r88.1, oS T_int 1 IC s91 r88.2.1, oB b16 T_Sq (Sq.C ({ a1 with left := r18 })), oB b13 T_Nd (Nd.C r9), oB b7 T_Nd (Nd.C r3), oB b2 T_Sq (Sq.C a1)] [fS 1 FC s85 ([FnV.mk (.func F_rule_pair_1) #[] #[.pointer (some ⟨b80, 0, none⟩), .pointer (some ⟨b81, 0, none⟩)], FnV.mk (.func F_rule_pair_1) #[] #[.pointer (some ⟨b83, 0, none⟩), .pointer (some ⟨b84, 0, none⟩)]]), oB b80 T_int [.int .i64 r79.1], oB b81 T_int [.int .i64 r79.2], oB b83 T_int [.int .i64 r82.1], oB b84 T_int [.int .i64 r82.2]] := S.nil T_Sq 17 Sq.C
      refine ⟨_, (rets2 (retOne_tmp rfl) (retOne_tmp rfl)), ?_⟩
      replace S : St A N w w92 [oT a_0 r88.1, oS T_Sq 17 Sq.C SlV.nil ([] : List Sq)] [] := S.arr [1, 0] []
      obtain rfl := Option.some.inj H
      exact ⟨SlV.nil, rfl, S⟩
    replace H := if_f hc94 H
    refine wc_skip ?_
    refine wc_seq (wc_region ?_)
    refine wd (does_load_agg ag_Sq rfl ((S.blk 2).all _ (Sq.len _)) (Sq.len _)) ?_
    refine wd (does_mv_l rfl) ?_
    obtain ⟨r95, er95, H⟩ := bind_ex H
    obtain ⟨B97, MB97, SB97, back⟩ := S.calln 0 ((.s 1 rfl .nil))
    refine wl_call (does_call ca_rule_with) (by decide) (rule_with_st SB97 er95) ?_
    rintro _ w96 ⟨rfl, S2⟩
    replace S : St A N w w96 [oT a_0 r88.1, oS T_int 1 IC s91 r88.2.1, oB b16 T_Sq (Sq.C ({ a1 with left := r18 })), oB b13 T_Nd (Nd.C r9), oB b7 T_Nd (Nd.C r3), oB b2 T_Sq (Sq.C a1)] [fS 1 FC s85 ([FnV.mk (.func F_rule_pair_1) #[] #[.pointer (some ⟨b80, 0, none⟩), .pointer (some ⟨b81, 0, none⟩)], FnV.mk (.func F_rule_pair_1) #[] #[.pointer (some ⟨b83, 0, none⟩), .pointer (some ⟨b84, 0, none⟩)]]), oB b80 T_int [.int .i64 r79.1], oB b81 T_int [.int .i64 r79.2], oB b83 T_int [.int .i64 r82.1], oB b84 T_int [.int .i64 r82.2]] := back _ _ _ _ S2 rfl
    clear back S2 SB97
    refine wl_lits (C := Sq.C) (l := [r95]) (vs := [.agg (Sq.C r95).toArray]) sl_L_api_Seq el_Sq.zero rfl rfl (fun a _ => Sq.len a) (by decide) rfl (by decide) fun b99 w98 s100 hBw98 hw98 => ?_
    replace S : St A N w w98 [oS T_Sq 17 Sq.C s100 ([r95]), oT a_0 r88.1, oS T_int 1 IC s91 r88.2.1, oB b16 T_Sq (Sq.C ({ a1 with left := r18 })), oB b13 T_Nd (Nd.C r9), oB b7 T_Nd (Nd.C r3), oB b2 T_Sq (Sq.C a1)] [fS 1 FC s85 ([FnV.mk (.func F_rule_pair_1) #[] #[.pointer (some ⟨b80, 0, none⟩), .pointer (some ⟨b81, 0, none⟩)], FnV.mk (.func F_rule_pair_1) #[] #[.pointer (some ⟨b83, 0, none⟩), .pointer (some ⟨b84, 0, none⟩)]]), oB b80 T_int [.int .i64 r79.1], oB b81 T_int [.int .i64 r79.2], oB b83 T_int [.int .i64 r82.1], oB b84 T_int [.int .i64 r82.2]] := S.lit hBw98 hw98 (by simp)
    refine wd (does_as_l rfl) ?_
    refine wd (does_as_i rfl) ?_
    refine wl_nil ?_
    refine wc_ret ?_
    refine ⟨_, (rets2 (retOne_tmp rfl) (retOne_tmp rfl)), ?_⟩
    replace S : St A N w w98 [oT a_0 r88.1, oS T_Sq 17 Sq.C s100 ([r95])] [] := S.arr [1, 0] []
    obtain rfl := Option.some.inj H
    exact ⟨s100, rfl, S⟩
  replace H := if_f hc70 H
  refine wc_seq (wc_region ?_)
  refine wd (does_eq rfl rfl) ?_
  refine wd (does_as_b rfl) ?_
  refine wl_nil ?_
  refine wc_if rfl (fun hc101 => ?_) (fun hc101 => ?_)
  · replace H := if_t hc101 H
    refine wc_seq ?_
    obtain ⟨r103, er103, H⟩ := bind_ex H
    refine wc_semi 7 [3, 4]
      (fun i v u => match i with
      | 3 => ∃ sl, v = SlV.v sl ∧ Rd u 1 sl ([r3.l].map IC) ∧ (∀ j, sl.fp j → w21.heap.size ≤ j)
      | 4 => v = Value.agg (Sq.C r103).toArray
      | _ => True) hmix (by kernel_rfl) (by kernel_rfl) ?_ ?_
    · intro i v u u' hi hx hv
      match i, hv with
      | 3, ⟨b, e1, hr, hl⟩ => exact ⟨b, e1, hr.ext hx, hl⟩
      | 4, hv => exact hv
      | 0, _ => exact trivial
      | 1, _ => exact trivial
      | 2, _ => exact trivial
      | _ + 5, _ => exact trivial
    refine wm_does (fun v K => does_load_agg ag_Sq rfl (((S.ext K).blk 3).all _ (Sq.len _)) (Sq.len _)) rfl ?_
    refine wm_does (fun v K => does_fieldAddr fl_Nd_l rfl (o' := 2) rfl) rfl ?_
    refine wm_does (fun v K => does_load on_int rfl (((S.ext K).blk 2).cell (Nd.get_l _))) rfl ?_
    refine wm_new (fun g v K G => (have ⟨sl, v', hd, hx, ho, hf⟩ := does_lits (C := IC) (l := [r3.l]) (vs := [.int .i64 r3.l]) sl_L_int el_int.zero rfl rfl (fun _ _ => rfl) (by first | decide | simp) rfl; ⟨_, v', hd, hx, sl, rfl, ho.toRd, (fun j hj => by have := hf j hj; have := K.size; omega)⟩)) rfl ?_
    refine wm_newcall (fun g v K G => (have ⟨s102, hv3, hr3, hf3⟩ := G 3 (by decide) rfl; have ⟨M, SS⟩ := (S.addS K hr3 (by simp) hf3).lend ((.z 0 rfl .nil)); ⟨_, _, does_callg ca_rule_with (cons2 rfl (cons2 hv3 rfl)), newc (rule_with_st SS er103) fun _ _ h => ⟨h.2.frame, h.1⟩⟩)) rfl ?_
    refine wm_does (fun v K => does_fieldAddr fl_Nd_r rfl (o' := 3) rfl) rfl ?_
    refine wm_does (fun v K => does_load on_int rfl (((S.ext K).blk 2).cell (Nd.get_r _))) rfl ?_
    refine wm_nil fun g w104 K hV => ?_
    obtain ⟨s102, hv1053, hr3, hf3⟩ := hV 3 rfl (by decide)
    have hv1054 := hV 4 rfl (by decide)
    replace S : St A N w w104 [oB b16 T_Sq (Sq.C ({ a1 with left := r18 })), oB b13 T_Nd (Nd.C r9), oB b7 T_Nd (Nd.C r3), oB b2 T_Sq (Sq.C a1), oT a_0 a0] [fS 1 IC s102 ([r3.l])] := S.addZs K (.s hr3 (by simp) hf3 .nil)
    clear K hV
    obtain ⟨r106, er106, H⟩ := bind_ex H
    obtain ⟨B108, MB108, SB108, back⟩ := S.calln 0 ((.nil))
    refine wl_call (does_callg ca_rule_to (cons2 hv1054 (cons2 rfl rfl))) (by decide) (rule_to_st SB108 er106) ?_
    rintro _ w107 ⟨rfl, S2⟩
    replace S : St A N w w107 [oB b16 T_Sq (Sq.C ({ a1 with left := r18 })), oB b13 T_Nd (Nd.C r9), oB b7 T_Nd (Nd.C r3), oB b2 T_Sq (Sq.C a1), oT a_0 a0] [fS 1 IC s102 ([r3.l])] := back _ _ _ _ S2 rfl
    clear back S2 SB108
    refine wl_lits (C := Sq.C) (l := [r106]) (vs := [.agg (Sq.C r106).toArray]) sl_L_api_Seq el_Sq.zero rfl rfl (fun a _ => Sq.len a) (by decide) rfl (by decide) fun b110 w109 s111 hBw109 hw109 => ?_
    replace S : St A N w w109 [oS T_Sq 17 Sq.C s111 ([r106]), oB b16 T_Sq (Sq.C ({ a1 with left := r18 })), oB b13 T_Nd (Nd.C r9), oB b7 T_Nd (Nd.C r3), oB b2 T_Sq (Sq.C a1), oT a_0 a0] [fS 1 IC s102 ([r3.l])] := S.lit hBw109 hw109 (by simp)
    refine wd (does_as_l rfl) ?_
    refine wd (does_as_i rfl) ?_
    refine wl_nil ?_
    refine wc_ret ?_
    refine ⟨_, (rets2 (retOne_tmp rfl) (retOne_tmp rfl)), ?_⟩
    replace S : St A N w w109 [oT a_0 a0, oS T_Sq 17 Sq.C s111 ([r106])] [] := S.arr [5, 0] []
    obtain rfl := Option.some.inj H
    exact ⟨s111, rfl, S⟩
  replace H := if_f hc101 H
  refine wc_seq (wc_region ?_)
  refine wd (does_eq rfl rfl) ?_
  refine wd (does_as_b rfl) ?_
  refine wl_nil ?_
  refine wc_if rfl (fun hc112 => ?_) (fun hc112 => ?_)
  · replace H := if_t hc112 H
    refine wc_seq ?_
    refine wc_quiet 7 (Ext w21) hmix (by kernel_rfl) (by kernel_rfl) (Ext.drawn _) ?_
    refine wq_does (fun v K => does_load_agg ag_Sq rfl (((S.ext K).blk 3).all _ (Sq.len _)) (Sq.len _)) ?_
    refine wq_does (fun v K => does_fieldAddr fl_Nd_l rfl (o' := 2) rfl) ?_
    refine wq_does (fun v K => does_load on_int rfl (((S.ext K).blk 2).cell (Nd.get_l _))) ?_
    obtain ⟨r113, er113, H⟩ := bind_ex H
    refine wq_call (fun v => does_call ca_rule_to) (fun v K => (have ⟨M, SS⟩ := (S.ext K).lend ((.nil)); quiet (rule_to_st SS er113) (fun v w' h => ⟨h.1, _, _, h.2⟩))) (fun v v' K h => K.thenExt h) ?_
    refine wq_does (fun v K => does_load_agg ag_Sq rfl (((S.ext K).blk 3).all _ (Sq.len _)) (Sq.len _)) ?_
    refine wq_does (fun v K => does_fieldAddr fl_Nd_r rfl (o' := 3) rfl) ?_
    refine wq_does (fun v K => does_load on_int rfl (((S.ext K).blk 2).cell (Nd.get_r _))) ?_
    refine wq_nil fun w114 K => ?_
    replace S := S.ext K
    clear K
    obtain ⟨r115, er115, H⟩ := bind_ex H
    obtain ⟨B117, MB117, SB117, back⟩ := S.calln 0 ((.nil))
    refine wl_call (does_call ca_rule_to) (by decide) (rule_to_st SB117 er115) ?_
    rintro _ w116 ⟨rfl, S2⟩
    replace S : St A N w w116 [oB b16 T_Sq (Sq.C ({ a1 with left := r18 })), oB b13 T_Nd (Nd.C r9), oB b7 T_Nd (Nd.C r3), oB b2 T_Sq (Sq.C a1), oT a_0 a0] [] := back _ _ _ _ S2 rfl
    clear back S2 SB117
    refine wl_lits (C := Sq.C) (l := [r113, r115]) (vs := [.agg (Sq.C r113).toArray, .agg (Sq.C r115).toArray]) sl_L_api_Seq el_Sq.zero rfl rfl (fun a _ => Sq.len a) (by decide) rfl (by decide) fun b119 w118 s120 hBw118 hw118 => ?_
    replace S : St A N w w118 [oS T_Sq 17 Sq.C s120 ([r113, r115]), oB b16 T_Sq (Sq.C ({ a1 with left := r18 })), oB b13 T_Nd (Nd.C r9), oB b7 T_Nd (Nd.C r3), oB b2 T_Sq (Sq.C a1), oT a_0 a0] [] := S.lit hBw118 hw118 (by simp)
    refine wd (does_as_l rfl) ?_
    refine wd (does_as_i rfl) ?_
    refine wl_nil ?_
    refine wc_ret ?_
    refine ⟨_, (rets2 (retOne_tmp rfl) (retOne_tmp rfl)), ?_⟩
    replace S : St A N w w118 [oT a_0 a0, oS T_Sq 17 Sq.C s120 ([r113, r115])] [] := S.arr [5, 0] []
    obtain rfl := Option.some.inj H
    exact ⟨s120, rfl, S⟩
  replace H := if_f hc112 H
  refine wc_seq (wc_region ?_)
  refine wd (does_eq rfl rfl) ?_
  refine wd (does_as_b rfl) ?_
  refine wl_nil ?_
  refine wc_if rfl (fun hc121 => ?_) (fun hc121 => ?_)
  · replace H := if_t hc121 H
    refine wc_seq ?_
    obtain ⟨r123, er123, H⟩ := bind_ex H
    refine wc_semi 9 [3, 4, 8]
      (fun i v u => match i with
      | 3 => ∃ sl, v = SlV.v sl ∧ Rd u 1 sl ([r3.l].map IC) ∧ (∀ j, sl.fp j → w21.heap.size ≤ j)
      | 4 => v = Value.agg (Sq.C r123).toArray
      | 8 => ∃ sl, v = SlV.v sl ∧ Rd u 1 sl ([r3.r].map IC) ∧ (∀ j, sl.fp j → w21.heap.size ≤ j)
      | _ => True) hmix (by kernel_rfl) (by kernel_rfl) ?_ ?_
    · intro i v u u' hi hx hv
      match i, hv with
      | 3, ⟨b, e1, hr, hl⟩ => exact ⟨b, e1, hr.ext hx, hl⟩
      | 4, hv => exact hv
      | 8, ⟨b, e1, hr, hl⟩ => exact ⟨b, e1, hr.ext hx, hl⟩
      | 0, _ => exact trivial
      | 1, _ => exact trivial
      | 2, _ => exact trivial
      | 5, _ => exact trivial
      | 6, _ => exact trivial
      | 7, _ => exact trivial
      | _ + 9, _ => exact trivial
    refine wm_does (fun v K => does_load_agg ag_Sq rfl (((S.ext K).blk 0).all _ (Sq.len _)) (Sq.len _)) rfl ?_
    refine wm_does (fun v K => does_fieldAddr fl_Nd_l rfl (o' := 2) rfl) rfl ?_
    refine wm_does (fun v K => does_load on_int rfl (((S.ext K).blk 2).cell (Nd.get_l _))) rfl ?_
    refine wm_new (fun g v K G => (have ⟨sl, v', hd, hx, ho, hf⟩ := does_lits (C := IC) (l := [r3.l]) (vs := [.int .i64 r3.l]) sl_L_int el_int.zero rfl rfl (fun _ _ => rfl) (by first | decide | simp) rfl; ⟨_, v', hd, hx, sl, rfl, ho.toRd, (fun j hj => by have := hf j hj; have := K.size; omega)⟩)) rfl ?_
    refine wm_newcall (fun g v K G => (have ⟨s122, hv3, hr3, hf3⟩ := G 3 (by decide) rfl; have ⟨M, SS⟩ := (S.addS K hr3 (by simp) hf3).lend ((.z 0 rfl .nil)); ⟨_, _, does_callg ca_rule_with (cons2 rfl (cons2 hv3 rfl)), newc (rule_with_st SS er123) fun _ _ h => ⟨h.2.frame, h.1⟩⟩)) rfl ?_
    refine wm_does (fun v K => does_load_agg ag_Sq rfl (((S.ext K).blk 0).all _ (Sq.len _)) (Sq.len _)) rfl ?_
    refine wm_does (fun v K => does_fieldAddr fl_Nd_r rfl (o' := 3) rfl) rfl ?_
    refine wm_does (fun v K => does_load on_int rfl (((S.ext K).blk 2).cell (Nd.get_r _))) rfl ?_
    refine wm_new (fun g v K G => (have ⟨sl, v', hd, hx, ho, hf⟩ := does_lits (C := IC) (l := [r3.r]) (vs := [.int .i64 r3.r]) sl_L_int el_int.zero rfl rfl (fun _ _ => rfl) (by first | decide | simp) rfl; ⟨_, v', hd, hx, sl, rfl, ho.toRd, (fun j hj => by have := hf j hj; have := K.size; omega)⟩)) rfl ?_
    refine wm_nil fun g w125 K hV => ?_
    obtain ⟨s122, hv1263, hr3, hf3⟩ := hV 3 rfl (by decide)
    have hv1264 := hV 4 rfl (by decide)
    obtain ⟨s124, hv1268, hr8, hf8⟩ := hV 8 rfl (by decide)
    replace S : St A N w w125 [oB b16 T_Sq (Sq.C ({ a1 with left := r18 })), oB b13 T_Nd (Nd.C r9), oB b7 T_Nd (Nd.C r3), oB b2 T_Sq (Sq.C a1), oT a_0 a0] [fS 1 IC s122 ([r3.l]), fS 1 IC s124 ([r3.r])] := S.addZs K (.s hr3 (by simp) hf3 (.s hr8 (by simp) hf8 .nil))
    clear K hV
    obtain ⟨r127, er127, H⟩ := bind_ex H
    obtain ⟨B129, MB129, SB129, back⟩ := S.calln 0 ((.z 1 rfl .nil))
    refine wl_call (does_callg ca_rule_with (cons2 rfl (cons2 hv1268 rfl))) (by decide) (rule_with_st SB129 er127) ?_
    rintro _ w128 ⟨rfl, S2⟩
    replace S : St A N w w128 [oB b16 T_Sq (Sq.C ({ a1 with left := r18 })), oB b13 T_Nd (Nd.C r9), oB b7 T_Nd (Nd.C r3), oB b2 T_Sq (Sq.C a1), oT a_0 a0] [fS 1 IC s122 ([r3.l]), fS 1 IC s124 ([r3.r])] := back _ _ _ _ S2 rfl
    clear back S2 SB129
    refine wl_lits (C := Sq.C) (l := [r123, r127]) (vs := [.agg (Sq.C r123).toArray, .agg (Sq.C r127).toArray]) sl_L_api_Seq el_Sq.zero (consP hv1264 (consP rfl rfl)) rfl (fun a _ => Sq.len a) (by decide) rfl (by decide) fun b131 w130 s132 hBw130 hw130 => ?_
    replace S : St A N w w130 [oS T_Sq 17 Sq.C s132 ([r123, r127]), oB b16 T_Sq (Sq.C ({ a1 with left := r18 })), oB b13 T_Nd (Nd.C r9), oB b7 T_Nd (Nd.C r3), oB b2 T_Sq (Sq.C a1), oT a_0 a0] [fS 1 IC s122 ([r3.l]), fS 1 IC s124 ([r3.r])] := S.lit hBw130 hw130 (by simp)
    refine wd (does_as_l rfl) ?_
    refine wd (does_as_i rfl) ?_
    refine wl_nil ?_
    refine wc_ret ?_
    refine ⟨_, (rets2 (retOne_tmp rfl) (retOne_tmp rfl)), ?_⟩
    replace S : St A N w w130 [oT a_0 a0, oS T_Sq 17 Sq.C s132 ([r123, r127])] [] := S.arr [5, 0] []
    obtain rfl := Option.some.inj H
    exact ⟨s132, rfl, S⟩
  replace H := if_f hc121 H
  refine wc_seq (wc_region ?_)
  refine wd (does_eq rfl rfl) ?_
  refine wd (does_as_b rfl) ?_
  refine wl_nil ?_
  refine wc_if rfl (fun hc133 => ?_) (fun hc133 => ?_)
  · replace H := if_t hc133 H
    refine wc_seq (wc_region ?_)
    refine wd (does_load_agg ag_Sq rfl ((S.blk 3).all _ (Sq.len _)) (Sq.len _)) ?_
    refine wd (does_fieldAddr fl_Nd_l rfl (o' := 2) rfl) ?_
    refine wd (does_load on_int rfl ((S.blk 2).cell (Nd.get_l _))) ?_
    obtain ⟨r134, er134, H⟩ := bind_ex H
    obtain ⟨B136, MB136, SB136, back⟩ := S.calln 0 ((.nil))
    refine wl_call (does_call ca_rule_to) (by decide) (rule_to_st SB136 er134) ?_
    rintro _ w135 ⟨rfl, S2⟩
    replace S : St A N w w135 [oB b16 T_Sq (Sq.C ({ a1 with left := r18 })), oB b13 T_Nd (Nd.C r9), oB b7 T_Nd (Nd.C r3), oB b2 T_Sq (Sq.C a1), oT a_0 a0] [] := back _ _ _ _ S2 rfl
    clear back S2 SB136
    refine wl_lits (C := Sq.C) (l := [r134]) (vs := [.agg (Sq.C r134).toArray]) sl_L_api_Seq el_Sq.zero rfl rfl (fun a _ => Sq.len a) (by decide) rfl (by decide) fun b138 w137 s139 hBw137 hw137 => ?_
    replace S : St A N w w137 [oS T_Sq 17 Sq.C s139 ([r134]), oB b16 T_Sq (Sq.C ({ a1 with left := r18 })), oB b13 T_Nd (Nd.C r9), oB b7 T_Nd (Nd.C r3), oB b2 T_Sq (Sq.C a1), oT a_0 a0] [] := S.lit hBw137 hw137 (by simp)
    refine wd (does_as_l rfl) ?_
    refine wd (does_as_i rfl) ?_
    refine wl_nil ?_
    refine wc_ret ?_
    refine ⟨_, (rets2 (retOne_tmp rfl) (retOne_tmp rfl)), ?_⟩
    replace S : St A N w w137 [oT a_0 a0, oS T_Sq 17 Sq.C s139 ([r134])] [] := S.arr [5, 0] []
    obtain rfl := Option.some.inj H
    exact ⟨s139, rfl, S⟩
  replace H := if_f hc133 H
  refine wc_seq (wc_region ?_)
  refine wd (does_eq rfl rfl) ?_
  refine wd (does_as_b rfl) ?_
  refine wl_nil ?_
  refine wc_if rfl (fun hc140 => ?_) (fun hc140 => ?_)
  · replace H := if_t hc140 H
    refine wc_seq (wc_region ?_)
    refine wd (does_load_agg ag_Sq rfl ((S.blk 3).all _ (Sq.len _)) (Sq.len _)) ?_
    refine wd (does_fieldAddr fl_Nd_r rfl (o' := 3) rfl) ?_
    refine wd (does_load on_int rfl ((S.blk 2).cell (Nd.get_r _))) ?_
    obtain ⟨r141, er141, H⟩ := bind_ex H
    obtain ⟨B143, MB143, SB143, back⟩ := S.calln 0 ((.nil))
    refine wl_call (does_call ca_rule_to) (by decide) (rule_to_st SB143 er141) ?_
    rintro _ w142 ⟨rfl, S2⟩
    replace S : St A N w w142 [oB b16 T_Sq (Sq.C ({ a1 with left := r18 })), oB b13 T_Nd (Nd.C r9), oB b7 T_Nd (Nd.C r3), oB b2 T_Sq (Sq.C a1), oT a_0 a0] [] := back _ _ _ _ S2 rfl
    clear back S2 SB143
    refine wl_lits (C := Sq.C) (l := [r141]) (vs := [.agg (Sq.C r141).toArray]) sl_L_api_Seq el_Sq.zero rfl rfl (fun a _ => Sq.len a) (by decide) rfl (by decide) fun b145 w144 s146 hBw144 hw144 => ?_
    replace S : St A N w w144 [oS T_Sq 17 Sq.C s146 ([r141]), oB b16 T_Sq (Sq.C ({ a1 with left := r18 })), oB b13 T_Nd (Nd.C r9), oB b7 T_Nd (Nd.C r3), oB b2 T_Sq (Sq.C a1), oT a_0 a0] [] := S.lit hBw144 hw144 (by simp)
    refine wd (does_as_l rfl) ?_
    refine wd (does_as_i rfl) ?_
    refine wl_nil ?_
    refine wc_ret ?_
    refine ⟨_, (rets2 (retOne_tmp rfl) (retOne_tmp rfl)), ?_⟩
    replace S : St A N w w144 [oT a_0 a0, oS T_Sq 17 Sq.C s146 ([r141])] [] := S.arr [5, 0] []
    obtain rfl := Option.some.inj H
    exact ⟨s146, rfl, S⟩
  replace H := if_f hc140 H
  refine wc_seq (wc_region ?_)
  refine wd (does_eq rfl rfl) ?_
  refine wd (does_as_b rfl) ?_
  refine wl_nil ?_
  refine wc_if rfl (fun hc147 => ?_) (fun hc147 => ?_)
  · replace H := if_t hc147 H
    refine wc_seq (wc_region ?_)
    refine wd (does_mv_p rfl) ?_
    refine wd (does_fieldAddr fl_Nd_r rfl (o' := 3) rfl) ?_
    refine wd (does_load on_int rfl ((S.blk 1).cell (Nd.get_r _))) ?_
    refine wd (does_fieldAddr fl_Nd_r rfl (o' := 3) rfl) ?_
    refine wd (does_load on_int rfl ((S.blk 2).cell (Nd.get_r _))) ?_
    obtain ⟨r148, er148, H⟩ := bind_ex H
    obtain ⟨B150, MB150, SB150, back⟩ := S.sub [] [] [oB b16 T_Sq (Sq.C ({ a1 with left := r18 })), oB b13 T_Nd (Nd.C r9), oB b7 T_Nd (Nd.C r3), oB b2 T_Sq (Sq.C a1), oT a_0 a0]
    refine wl_call (does_call ca_rule_pair) (by decide) (rule_pair_st SB150 er148) ?_
    rintro _ w149 ⟨b151, b152, rfl, hnww149, S2⟩
    replace S : St A N w w149 [oB b16 T_Sq (Sq.C ({ a1 with left := r18 })), oB b13 T_Nd (Nd.C r9), oB b7 T_Nd (Nd.C r3), oB b2 T_Sq (Sq.C a1), oT a_0 a0] [oB b151 T_int [.int .i64 r148.1], oB b152 T_int [.int .i64 r148.2]] := back _ _ _ _ _ S2 rfl rfl
    clear back S2 SB150
    refine wl_lits (C := FC) (l := [FnV.mk (.func F_rule_pair_1) #[] #[.pointer (some ⟨b151, 0, none⟩), .pointer (some ⟨b152, 0, none⟩)]]) (vs := [.func (.func F_rule_pair_1) #[] #[.pointer (some ⟨b151, 0, none⟩), .pointer (some ⟨b152, 0, none⟩)]]) sl_L_func_L_int_int_int el_func_L_int_int_int.zero rfl rfl (fun _ _ => rfl) (by decide) rfl (by decide) fun b154 w153 s155 hBw153 hw153 => ?_
    replace S : St A N w w153 [oS T_func_L_int_int_int 1 FC s155 ([FnV.mk (.func F_rule_pair_1) #[] #[.pointer (some ⟨b151, 0, none⟩), .pointer (some ⟨b152, 0, none⟩)]]), oB b16 T_Sq (Sq.C ({ a1 with left := r18 })), oB b13 T_Nd (Nd.C r9), oB b7 T_Nd (Nd.C r3), oB b2 T_Sq (Sq.C a1), oT a_0 a0] [oB b151 T_int [.int .i64 r148.1], oB b152 T_int [.int .i64 r148.2]] := S.lit hBw153 hw153 (by simp)
    obtain ⟨r156, er156, H⟩ := bind_ex H
    replace S : St A N w w153 [oT a_0 a0, oS T_func_L_int_int_int 1 FC s155 ([FnV.mk (.func F_rule_pair_1) #[] #[.pointer (some ⟨b151, 0, none⟩), .pointer (some ⟨b152, 0, none⟩)]]), oB b16 T_Sq (Sq.C ({ a1 with left := r18 })), oB b13 T_Nd (Nd.C r9), oB b7 T_Nd (Nd.C r3), oB b2 T_Sq (Sq.C a1)] [oB b151 T_int [.int .i64 r148.1], oB b152 T_int [.int .i64 r148.2]] := S.front 5
    obtain ⟨B158, MB158, SB158, back⟩ := S.calln 1 ((.s 0 rfl (.z 0 rfl (.z 1 rfl .nil))))
    refine wl_call (does_call ca_rule_imps) (by decide) (rule_imps__rule_pair_1_st SB158 er156) ?_
    rintro _ w157 ⟨s159, rfl, S2⟩
    replace S : St A N w w157 [oT a_0 r156.1, oS T_int 1 IC s159 r156.2.1, oS T_func_L_int_int_int 1 FC s155 ([FnV.mk (.func F_rule_pair_1) #[] #[.pointer (some ⟨b151, 0, none⟩), .pointer (some ⟨b152, 0, none⟩)]]), oB b16 T_Sq (Sq.C ({ a1 with left := r18 })), oB b13 T_Nd (Nd.C r9), oB b7 T_Nd (Nd.C r3), oB b2 T_Sq (Sq.C a1)] [oB b151 T_int [.int .i64 r148.1], oB b152 T_int [.int .i64 r148.2]] := back _ _ _ _ S2 rfl
    clear back S2 SB158
    refine wd (does_mv_t rfl) ?_
    refine wd (does_extract rfl rfl) ?_
    refine wd (does_extract rfl rfl) ?_
    refine wd (does_as_l rfl) ?_
    refine wd (does_as_i rfl) ?_
    refine wl_nil ?_
    refine wc_seq (wc_seq (wc_region ?_))
    refine wd (does_mv_i rfl) ?_
    refine wd (does_ne rfl rfl) ?_
    refine wl_nil ?_
    refine wc_if rfl (fun hc160 => ?_) (fun hc160 => ?_)
    · replace H := if_t hc160 H
      refine wc_seq (wc_region ?_)
      refine wd (does_mv_i rfl) ?_
      refine wd (does_as_nil) ?_
      refine wd (does_as_i rfl) ?_
      refine wl_nil ?_
      refine wc_ret ?_
      replace S : St A N w w157 [oS T_Sq 17 Sq.C SlV.nil ([] : List Sq), oT a_0 r156.1, oS T_int 1 IC s159 r156.2.1, oS T_func_L_int_int_int 1 FC s155 ([FnV.mk (.func F_rule_pair_1) #[] #[.pointer (some ⟨b151, 0, none⟩), .pointer (some ⟨b152, 0, none⟩)]]), oB b16 T_Sq (Sq.C ({ a1 with left := r18 })), oB b13 T_Nd (Nd.C r9), oB b7 T_Nd (Nd.C r3), oB b2 T_Sq (Sq.C a1)] [oB b151 T_int [.int .i64 r148.1], oB b152 T_int [.int .i64 r148.2]] := S.nil T_Sq 17 Sq.C
      refine ⟨_, (rets2 (retOne_tmp rfl) (retOne_tmp rfl)), ?_⟩
      replace S : St A N w w157 [oT a_0 r156.1, oS T_Sq 17 Sq.C SlV.nil ([] : List Sq)] [] := S.arr [1, 0] []
      obtain rfl := Option.some.inj H
      exact ⟨SlV.nil, rfl, S⟩
    replace H := if_f hc160 H
    refine wc_skip ?_
    refine wc_seq ?_
    obtain ⟨r161, er161, H⟩ := bind_ex H
    obtain ⟨r162, er162, H⟩ := bind_ex H
    refine wc_semi 10 [9]
      (fun i v u => match i with
      | 9 => ∃ sl, v = SlV.v sl ∧ Rd u 1 sl ([r3.r].map IC) ∧ (∀ j, sl.fp j → w157.heap.size ≤ j)
      | _ => True) hmix (by kernel_rfl) (by kernel_rfl) ?_ ?_
    · intro i v u u' hi hx hv
      match i, hv with
      | 9, ⟨b, e1, hr, hl⟩ => exact ⟨b, e1, hr.ext hx, hl⟩
      | 0, _ => exact trivial
      | 1, _ => exact trivial
      | 2, _ => exact trivial
      | 3, _ => exact trivial
      | 4, _ => exact trivial
      | 5, _ => exact trivial
      | 6, _ => exact trivial
      | 7, _ => exact trivial
      | 8, _ => exact trivial
      | _ + 10, _ => exact trivial
    refine wm_does (fun v K => does_load_agg ag_Sq rfl (((S.ext K).blk 3).all _ (Sq.len _)) (Sq.len _)) rfl ?_
    refine wm_does (fun v K => does_mv_l rfl) rfl ?_
    refine wm_call (fun v => does_call ca_rule_with) (fun v K => (have ⟨M, SS⟩ := (S.ext K).lend ((.s 1 rfl .nil)); quiet (rule_with_st SS er161) (fun v w' h => ⟨h.1, _, _, h.2⟩))) rfl ?_
    refine wm_does (fun v K => does_fieldAddr fl_Nd_l rfl (o' := 2) rfl) rfl ?_
    refine wm_does (fun v K => does_load on_int rfl (((S.ext K).blk 5).cell (Nd.get_l _))) rfl ?_
    refine wm_call (fun v => does_call ca_rule_to) (fun v K => (have ⟨M, SS⟩ := (S.ext K).lend ((.nil)); quiet (rule_to_st SS er162) (fun v w' h => ⟨h.1, _, _, h.2⟩))) rfl ?_
    refine wm_does (fun v K => does_load_agg ag_Sq rfl (((S.ext K).blk 3).all _ (Sq.len _)) (Sq.len _)) rfl ?_
    refine wm_does (fun v K => does_fieldAddr fl_Nd_r rfl (o' := 3) rfl) rfl ?_
    refine wm_does (fun v K => does_load on_int rfl (((S.ext K).blk 5).cell (Nd.get_r _))) rfl ?_
    refine wm_new (fun g v K G => (have ⟨sl, v', hd, hx, ho, hf⟩ := does_lits (C := IC) (l := [r3.r]) (vs := [.int .i64 r3.r]) sl_L_int el_int.zero rfl rfl (fun _ _ => rfl) (by first | decide | simp) rfl; ⟨_, v', hd, hx, sl, rfl, ho.toRd, (fun j hj => by have := hf j hj; have := K.size; omega)⟩)) rfl ?_
    refine wm_nil fun g w164 K hV => ?_
    obtain ⟨s163, hv1659, hr9, hf9⟩ := hV 9 rfl (by decide)
    replace S : St A N w w164 [oT a_0 r156.1, oS T_int 1 IC s159 r156.2.1, oS T_func_L_int_int_int 1 FC s155 ([FnV.mk (.func F_rule_pair_1) #[] #[.pointer (some ⟨b151, 0, none⟩), .pointer (some ⟨b152, 0, none⟩)]]), oB b16 T_Sq (Sq.C ({ a1 with left := r18 })), oB b13 T_Nd (Nd.C r9), oB b7 T_Nd (Nd.C r3), oB b2 T_Sq (Sq.C a1)] [fS 1 IC s163 ([r3.r]), oB b151 T_int [.int .i64 r148.1], oB b152 T_int [.int .i64 r148.2]] := S.addZs K (.s hr9 (by simp) hf9 .nil)
    clear K hV
    obtain ⟨r166, er166, H⟩ := bind_ex H
    obtain ⟨B168, MB168, SB168, back⟩ := S.calln 0 ((.z 0 rfl .nil))
    refine wl_call (does_callg ca_rule_with (cons2 rfl (cons2 hv1659 rfl))) (by decide) (rule_with_st SB168 er166) ?_
    rintro _ w167 ⟨rfl, S2⟩
    replace S : St A N w w167 [oT a_0 r156.1, oS T_int 1 IC s159 r156.2.1, oS T_func_L_int_int_int 1 FC s155 ([FnV.mk (.func F_rule_pair_1) #[] #[.pointer (some ⟨b151, 0, none⟩), .pointer (some ⟨b152, 0, none⟩)]]), oB b16 T_Sq (Sq.C ({ a1 with left := r18 })), oB b13 T_Nd (Nd.C r9), oB b7 T_Nd (Nd.C r3), oB b2 T_Sq (Sq.C a1)] [fS 1 IC s163 ([r3.r]), oB b151 T_int [.int .i64 r148.1], oB b152 T_int [.int .i64 r148.2]] := back _ _ _ _ S2 rfl
    clear back S2 SB168
    refine wl_lits (C := Sq.C) (l := [r162, r166]) (vs := [.agg (Sq.C r162).toArray, .agg (Sq.C r166).toArray]) sl_L_api_Seq el_Sq.zero rfl rfl (fun a _ => Sq.len a) (by decide) rfl (by decide) fun b170 w169 s171 hBw169 hw169 => ?_
    replace S : St A N w w169 [oS T_Sq 17 Sq.C s171 ([r162, r166]), oT a_0 r156.1, oS T_int 1 IC s159 r156.2.1, oS T_func_L_int_int_int 1 FC s155 ([FnV.mk (.func F_rule_pair_1) #[] #[.pointer (some ⟨b151, 0, none⟩), .pointer (some ⟨b152, 0, none⟩)]]), oB b16 T_Sq (Sq.C ({ a1 with left := r18 })), oB b13 T_Nd (Nd.C r9), oB b7 T_Nd (Nd.C r3), oB b2 T_Sq (Sq.C a1)] [fS 1 IC s163 ([r3.r]), oB b151 T_int [.int .i64 r148.1], oB b152 T_int [.int .i64 r148.2]] := S.lit hBw169 hw169 (by simp)
    refine wd (does_as_l rfl) ?_
    refine wd (does_as_i rfl) ?_
    refine wl_nil ?_
    refine wc_ret ?_
    refine ⟨_, (rets2 (retOne_tmp rfl) (retOne_tmp rfl)), ?_⟩
    replace S : St A N w w169 [oT a_0 r156.1, oS T_Sq 17 Sq.C s171 ([r162, r166])] [] := S.arr [1, 0] []
    obtain rfl := Option.some.inj H
    exact ⟨s171, rfl, S⟩
  replace H := if_f hc147 H
  refine wc_skip ?_
  refine wc_seq (wc_region ?_)
  refine wd (does_as_nil) ?_
  refine wd (does_as_i rfl) ?_
  refine wl_nil ?_
  refine wc_ret ?_
  replace S : St A N w w21 [oS T_Sq 17 Sq.C SlV.nil ([] : List Sq), oB b16 T_Sq (Sq.C ({ a1 with left := r18 })), oB b13 T_Nd (Nd.C r9), oB b7 T_Nd (Nd.C r3), oB b2 T_Sq (Sq.C a1), oT a_0 a0] [] := S.nil T_Sq 17 Sq.C
  refine ⟨_, (rets2 (retOne_tmp rfl) (retOne_tmp rfl)), ?_⟩
  replace S : St A N w w21 [oT a_0 a0, oS T_Sq 17 Sq.C SlV.nil ([] : List Sq)] [] := S.arr [5, 0] []
  obtain rfl := Option.some.inj H
  exact ⟨SlV.nil, rfl, S⟩
theorem rule_Premises_st {A : Nat → Prop} {N : Oth} {w : World} {a0 : Tb} {a_0 : Option Addr} {a1 : Sq} {a2 : Int} {a3 : Int} (S : St A N w w [oT a_0 a0] [oTz]) {r : Tb × List Sq × Int} (H : rule_Premises.f a0 a1 a2 a3 = some r) :
    Calls PP F_rule_Premises #[.pointer a_0, .agg (Sq.C a1).toArray, .int .i64 a2, .int .i64 a3] w fun e w' => ∃ v, e = .returned v ∧ (∃ so0 : SlV, v = .tuple #[so0.v, .int .i64 r.2.2] ∧ St A N w w' [oT a_0 r.1, oS T_Sq 17 Sq.C so0 r.2.1] []) := by
  unfold rule_Premises.f at H
  refine calls_of_wc (n := 43) fn_rule_Premises rfl rfl (by simp) ?_
  refine wc_seq (wc_region ?_)
  refine wl_box_agg rfl (by decide) fun b2 w1 hw1 => ?_
  replace S : St A N w w1 [oB b2 T_Sq (Sq.C a1), oT a_0 a0] [oTz] := S.new hw1
  refine wd (does_as_nil) ?_
  refine wd (does_as_i rfl) ?_
  refine wl_nil ?_
  refine wc_seq (wc_seq (wc_region ?_))
  refine wd (does_mv_p rfl) ?_
  refine wd (does_load_agg ag_Sq rfl ((S.blk 0).all _ (Sq.len _)) (Sq.len _)) ?_
  obtain ⟨r3, er3, H⟩ := bind_ex H
  obtain ⟨B5, MB5, SB5, back⟩ := S.calln 0 ((.o 1 rfl (.z 0 rfl .nil)))
  refine wl_call (does_call ca_rule_look) (by decide) (rule_look_st SB5 er3) ?_
  rintro _ w4 ⟨rfl, S2⟩
  replace S : St A N w w4 [oB b2 T_Sq (Sq.C a1), oT a_0 a0] [oTz] := back _ _ _ _ S2 rfl
  clear back S2 SB5
  refine wd (does_as_i rfl) ?_
  refine wl_nil ?_
  refine wc_seq (wc_region ?_)
  refine wd (does_mv_i rfl) ?_
  refine wd (does_ne rfl rfl) ?_
  refine wl_nil ?_
  refine wc_if rfl (fun hc6 => ?_) (fun hc6 => ?_)
  · replace H := if_t hc6 H
    refine wc_seq (wc_region ?_)
    refine wd (does_mv_i rfl) ?_
    refine wd (does_as_nil) ?_
    refine wd (does_as_i rfl) ?_
    refine wl_nil ?_
    refine wc_ret ?_
    replace S : St A N w w4 [oS T_Sq 17 Sq.C SlV.nil ([] : List Sq), oB b2 T_Sq (Sq.C a1), oT a_0 a0] [oTz] := S.nil T_Sq 17 Sq.C
    refine ⟨_, (rets2 (retOne_tmp rfl) (retOne_tmp rfl)), ?_⟩
    replace S : St A N w w4 [oT a_0 a0, oS T_Sq 17 Sq.C SlV.nil ([] : List Sq)] [] := S.arr [2, 0] []
    obtain rfl := Option.some.inj H
    exact ⟨SlV.nil, rfl, S⟩
  replace H := if_f hc6 H
  refine wc_skip ?_
  refine wc_seq (wc_seq (wc_region ?_))
  refine wd (does_mv_p rfl) ?_
  refine wd (does_load_agg ag_Sq rfl ((S.blk 0).all _ (Sq.len _)) (Sq.len _)) ?_
  refine wd (does_mv_i rfl) ?_
  refine wd (does_mv_i rfl) ?_
  obtain ⟨r7, er7, H⟩ := bind_ex H
  obtain ⟨B9, MB9, SB9, back⟩ := S.calln 0 ((.o 1 rfl .nil))
  refine wl_call (does_call ca_rule_fits) (by decide) (rule_fits_st SB9 er7) ?_
  rintro _ w8 ⟨rfl, S2⟩
  replace S : St A N w w8 [oB b2 T_Sq (Sq.C a1), oT a_0 a0] [oTz] := back _ _ _ _ S2 rfl
  clear back S2 SB9
  refine wd (does_not rfl) ?_
  refine wl_nil ?_
  refine wc_if rfl (fun hc10 => ?_) (fun hc10 => ?_)
  · replace H := if_t hc10 H
    refine wc_seq (wc_region ?_)
    refine wd (does_as_nil) ?_
    refine wd (does_as_i rfl) ?_
    refine wl_nil ?_
    refine wc_ret ?_
    replace S : St A N w w8 [oS T_Sq 17 Sq.C SlV.nil ([] : List Sq), oB b2 T_Sq (Sq.C a1), oT a_0 a0] [oTz] := S.nil T_Sq 17 Sq.C
    refine ⟨_, (rets2 (retOne_tmp rfl) (retOne_tmp rfl)), ?_⟩
    replace S : St A N w w8 [oT a_0 a0, oS T_Sq 17 Sq.C SlV.nil ([] : List Sq)] [] := S.arr [2, 0] []
    obtain rfl := Option.some.inj H
    exact ⟨SlV.nil, rfl, S⟩
  replace H := if_f hc10 H
  refine wc_skip ?_
  refine wc_seq (wc_region ?_)
  refine wd (does_mv_p rfl) ?_
  obtain ⟨r11, er11, H⟩ := bind_ex H
  obtain ⟨B13, MB13, SB13, back⟩ := S.calln 0 ((.o 1 rfl .nil))
  refine wl_call (does_call ca_formula_Table_Len) (by decide) (formula_Table_Len_st SB13 er11) ?_
  rintro _ w12 ⟨rfl, S2⟩
  replace S : St A N w w12 [oB b2 T_Sq (Sq.C a1), oT a_0 a0] [oTz] := back _ _ _ _ S2 rfl
  clear back S2 SB13
  refine wd (does_as_i rfl) ?_
  refine wl_nil ?_
  refine wc_seq (wc_region ?_)
  refine wd (does_mv_p rfl) ?_
  refine wd (does_load_agg ag_Sq rfl ((S.blk 0).all _ (Sq.len _)) (Sq.len _)) ?_
  refine wd (does_mv_i rfl) ?_
  refine wd (does_mv_i rfl) ?_
  obtain ⟨r14, er14, H⟩ := bind_ex H
  replace S : St A N w w12 [oT a_0 a0, oB b2 T_Sq (Sq.C a1)] [oTz] := S.front 1
  obtain ⟨B16, MB16, SB16, back⟩ := S.calln 1 ((.nil))
  refine wl_call (does_call ca_rule_premises) (by decide) (rule_premises_st SB16 er14) ?_
  rintro _ w15 ⟨s17, rfl, S2⟩
  replace S : St A N w w15 [oT a_0 r14.1, oS T_Sq 17 Sq.C s17 r14.2.1, oB b2 T_Sq (Sq.C a1)] [oTz] := back _ _ _ _ S2 rfl
  clear back S2 SB16
  refine wd (does_mv_t rfl) ?_
  refine wd (does_extract rfl rfl) ?_
  refine wd (does_extract rfl rfl) ?_
  refine wd (does_as_l rfl) ?_
  refine wd (does_as_i rfl) ?_
  refine wl_nil ?_
  refine wc_seq (wc_seq (wc_region ?_))
  refine wd (does_mv_i rfl) ?_
  refine wd (does_ne rfl rfl) ?_
  refine wl_nil ?_
  refine wc_if rfl (fun hc18 => ?_) (fun hc18 => ?_)
  · replace H := if_t hc18 H
    refine wc_seq (wc_region ?_)
    refine wd (does_mv_p rfl) ?_
    refine wd (does_mv_i rfl) ?_
    obtain ⟨r19, er19, H⟩ := bind_ex H
    obtain ⟨B21, MB21, SB21, back⟩ := S.calln 1 ((.nil))
    refine wl_call (does_call ca_formula_Table_Cut) (by decide) (formula_Table_Cut_st SB21 er19) ?_
    rintro _ w20 ⟨rfl, S2⟩
    replace S : St A N w w20 [oT a_0 r19.1, oS T_Sq 17 Sq.C s17 r14.2.1, oB b2 T_Sq (Sq.C a1)] [oTz] := back _ _ _ _ S2 rfl
    clear back S2 SB21
    refine wl_nil ?_
    refine wc_seq (wc_region ?_)
    refine wd (does_mv_i rfl) ?_
    refine wd (does_as_nil) ?_
    refine wd (does_as_i rfl) ?_
    refine wl_nil ?_
    refine wc_ret ?_
    replace S : St A N w w20 [oS T_Sq 17 Sq.C SlV.nil ([] : List Sq), oT a_0 r19.1, oS T_Sq 17 Sq.C s17 r14.2.1, oB b2 T_Sq (Sq.C a1)] [oTz] := S.nil T_Sq 17 Sq.C
    refine ⟨_, (rets2 (retOne_tmp rfl) (retOne_tmp rfl)), ?_⟩
    replace S : St A N w w20 [oT a_0 r19.1, oS T_Sq 17 Sq.C SlV.nil ([] : List Sq)] [] := S.arr [1, 0] []
    obtain rfl := Option.some.inj H
    exact ⟨SlV.nil, rfl, S⟩
  replace H := if_f hc18 H
  refine wc_skip ?_
  refine wc_seq (wc_region ?_)
  refine wd (does_mv_l rfl) ?_
  refine wd (does_as_l rfl) ?_
  refine wd (does_as_i rfl) ?_
  refine wl_nil ?_
  refine wc_ret ?_
  refine ⟨_, (rets2 (retOne_tmp rfl) (retOne_tmp rfl)), ?_⟩
  replace S : St A N w w15 [oT a_0 r14.1, oS T_Sq 17 Sq.C s17 r14.2.1] [] := S.arr [0, 1] []
  obtain rfl := Option.some.inj H
  exact ⟨s17, rfl, S⟩
end Go.Proofs.YtjjkhjieegmphaaDoor
