/- Texts put together: Chapter 09, premises: the walks. Printed by pp.py, a program of mine. Chapter 11, the search: the walks. Printed by pp.py, a program of mine. Chapter 09, the heads: the walks. Printed by pp.py, a program of mine. Chapter 09, the document's functions: the walks. Printed by pp.py, a program of mine. -/
import Derived.Test.YtjjkhjieegmphaaDoorMSNobody3
section
namespace Go.Proofs.YtjjkhjieegmphaaDoor
open Gw Go.RowKit
set_option linter.unusedVariables false
set_option linter.unusedSimpArgs false

theorem rule_pair_1_st {A : Nat → Prop} {N : Oth} {w : World} {a0 : List Int} {s_0 : SlV} {a1 : Int} {b_1 : Nat} {a2 : Int} {b_2 : Nat} (S : St A N w w [] [fS 1 IC s_0 a0, oB b_1 T_int [.int .i64 a1], oB b_2 T_int [.int .i64 a2]]) {r : Int × Int} (H : rule_pair_1.f a0 a1 a2 = some r) :
    Calls PP F_rule_pair_1 #[s_0.v, .pointer (some ⟨b_1, 0, none⟩), .pointer (some ⟨b_2, 0, none⟩)] w fun e w' => ∃ v, e = .returned v ∧ (v = .tuple #[.int .i64 r.1, .int .i64 r.2] ∧ St A N w w' [] []) := by
  unfold rule_pair_1.f at H
  refine calls_of_wc (n := 8) fn_rule_pair_1 rfl rfl (by simp) ?_
  refine wc_seq (wc_region ?_)
  refine wd (does_as_i rfl) ?_
  refine wd (does_as_i rfl) ?_
  refine wl_nil ?_
  refine wc_seq ?_
  refine wc_quiet 3 (Ext w) hmix (by kernel_rfl) (by kernel_rfl) (Ext.drawn _) ?_
  refine wq_does (fun v K => does_load on_int rfl (((S.ext K).blkZ 1).cell rfl)) ?_
  refine wq_does (fun v K => does_load on_int rfl (((S.ext K).blkZ 2).cell rfl)) ?_
  refine wq_does (fun v K => does_as_i rfl) ?_
  refine wq_nil fun w1 K => ?_
  replace S := S.ext K
  clear K
  refine wd (does_as_i rfl) ?_
  refine wl_nil ?_
  refine wc_ret ?_
  refine ⟨_, (rets2 (retOne_tmp rfl) (retOne_tmp rfl)), ?_⟩
  replace S : St A N w w1 [] [] := S.arr [] []
  obtain rfl := Option.some.inj H
  exact ⟨rfl, S⟩
theorem rule_pair_st {A : Nat → Prop} {N : Oth} {w : World} {a0 : Int} {a1 : Int} (S : St A N w w [] []) {r : Int × Int} (H : rule_pair.f a0 a1 = some r) :
    Calls PP F_rule_pair #[.int .i64 a0, .int .i64 a1] w fun e w' => ∃ v, e = .returned v ∧ (∃ bo0 : Nat, ∃ bo1 : Nat, v = .func (.func F_rule_pair_1) #[] #[.pointer (some ⟨bo0, 0, none⟩), .pointer (some ⟨bo1, 0, none⟩)] ∧ (w.heap.size ≤ bo0 ∧ w.heap.size ≤ bo1) ∧ St A N w w' [] [oB bo0 T_int [.int .i64 r.1], oB bo1 T_int [.int .i64 r.2]]) := by
  unfold rule_pair.f at H
  refine calls_of_wc (n := 6) fn_rule_pair rfl rfl (by simp) ?_
  refine wc_seq (wc_region ?_)
  refine wl_box_i rfl (by decide) fun b2 w1 hw1 => ?_
  have lb2 : w.heap.size ≤ b2 := by have := S.size; have := hw1.at_; omega
  replace S : St A N w w1 [oB b2 T_int [.int .i64 a0]] [] := S.new hw1
  refine wl_box_i rfl (by decide) fun b4 w3 hw3 => ?_
  have lb4 : w.heap.size ≤ b4 := by have := S.size; have := hw3.at_; omega
  replace S : St A N w w3 [oB b4 T_int [.int .i64 a1], oB b2 T_int [.int .i64 a0]] [] := S.new hw3
  refine wd (does_assign rfl) ?_
  refine wl_nil ?_
  refine wc_seq (wc_region ?_)
  refine wd (does_funcl) ?_
  refine wd (does_as_f rfl) ?_
  refine wl_nil ?_
  refine wc_ret ?_
  replace S : St A N w w3 [oB b4 T_int [.int .i64 a1]] [oB b2 T_int [.int .i64 a0]] := S.frzB 1
  replace S : St A N w w3 [] [oB b4 T_int [.int .i64 a1], oB b2 T_int [.int .i64 a0]] := S.frzB 0
  refine ⟨_, (rets1 (retOne_tmp rfl)), ?_⟩
  replace S : St A N w w3 [] [oB b2 T_int [.int .i64 a0], oB b4 T_int [.int .i64 a1]] := S.arr [] [1, 0]
  obtain rfl := Option.some.inj H
  exact ⟨b2, b4, rfl, ⟨lb2, lb4⟩, S⟩
theorem rule_premises_1_st {A : Nat → Prop} {N : Oth} {w : World} {a0 : List Int} {s_0 : SlV} {a1 : Nd} {b_1 : Nat} (S : St A N w w [] [fS 1 IC s_0 a0, oB b_1 T_Nd (Nd.C a1)]) {r : Int × Int} (H : rule_premises_1.f a0 a1 = some r) :
    Calls PP F_rule_premises_1 #[s_0.v, .pointer (some ⟨b_1, 0, none⟩)] w fun e w' => ∃ v, e = .returned v ∧ (v = .tuple #[.int .i64 r.1, .int .i64 r.2] ∧ St A N w w' [] []) := by
  unfold rule_premises_1.f at H
  refine calls_of_wc (n := 10) fn_rule_premises_1 rfl rfl (by simp) ?_
  refine wc_seq (wc_region ?_)
  refine wd (does_as_i rfl) ?_
  refine wd (does_as_i rfl) ?_
  refine wl_nil ?_
  refine wc_seq ?_
  refine wc_quiet 6 (Ext w) hmix (by kernel_rfl) (by kernel_rfl) (Ext.drawn _) ?_
  refine wq_does (fun v K => does_fieldAddr fl_Nd_l rfl (o' := 2) rfl) ?_
  refine wq_does (fun v K => does_load on_int rfl (((S.ext K).blkZ 1).cell (Nd.get_l _))) ?_
  refine wq_does (fun v K => does_mv_l rfl) ?_
  obtain ⟨hi1, H⟩ := chk_ex H
  refine wq_does (fun v K => does_indexR sl_L_int rfl rfl ((S.ext K).rd 0) (inb_ex hi1).1 (inb_ex hi1).2) ?_
  refine wq_does (fun v K => does_load on_int rfl (((S.ext K).rd 0).one (at_some (0 : Int) (inb_ex hi1)) rfl)) ?_
  refine wq_does (fun v K => does_as_i rfl) ?_
  refine wq_nil fun w2 K => ?_
  replace S := S.ext K
  clear K
  refine wd (does_as_i rfl) ?_
  refine wl_nil ?_
  refine wc_ret ?_
  refine ⟨_, (rets2 (retOne_tmp rfl) (retOne_tmp rfl)), ?_⟩
  replace S : St A N w w2 [] [] := S.arr [] []
  obtain rfl := Option.some.inj H
  exact ⟨rfl, S⟩
theorem rule_imps__rule_pair_1__rule_premises_1_st {A : Nat → Prop} {N : Oth} {w : World} {a0 : Tb} {a_0 : Option Addr} {a1_0 : Int} {a1_1 : Int} {a1_2 : Nd} {s_1 : SlV} {b_1_1 : Nat} {b_1_2 : Nat} {b_1_3 : Nat} (S : St A N w w [oT a_0 a0] [fS 1 FC s_1 ([FnV.mk (.func F_rule_pair_1) #[] #[.pointer (some ⟨b_1_1, 0, none⟩), .pointer (some ⟨b_1_2, 0, none⟩)], FnV.mk (.func F_rule_premises_1) #[] #[.pointer (some ⟨b_1_3, 0, none⟩)]]), oB b_1_1 T_int [.int .i64 a1_0], oB b_1_2 T_int [.int .i64 a1_1], oB b_1_3 T_Nd (Nd.C a1_2)]) {r : Tb × List Int × Int} (H : rule_imps__rule_pair_1__rule_premises_1.f a0 a1_0 a1_1 a1_2 = some r) :
    Calls PP F_rule_imps #[.pointer a_0, s_1.v] w fun e w' => ∃ v, e = .returned v ∧ (∃ so0 : SlV, v = .tuple #[so0.v, .int .i64 r.2.2] ∧ St A N w w' [oT a_0 r.1, oS T_int 1 IC so0 r.2.1] []) := by
  unfold rule_imps__rule_pair_1__rule_premises_1.f at H
  refine calls_of_wc (n := 41) fn_rule_imps rfl rfl (by simp) ?_
  refine wc_seq (wc_region ?_)
  refine wd (does_as_nil) ?_
  refine wd (does_as_i rfl) ?_
  refine wl_nil ?_
  refine wc_seq (wc_region ?_)
  refine wd (does_as_nil) ?_
  refine wl_nil ?_
  refine wc_seq (wc_seq (wc_region ?_))
  refine wd (does_mv_l rfl) ?_
  refine wd (does_lenR sl_L_func_L_int_int_int rfl (S.rd 0)) ?_
  refine wd (does_mv_i rfl) ?_
  refine wl_nil ?_
  refine wc_block ?_
  refine wc_rounds 3 ?_
  refine rounds_s ?_
  refine wc_seq (wc_region ?_)
  refine wd (does_lt rfl rfl) ?_
  refine wl_nil ?_
  refine wc_seq ?_
  refine wc_true rfl ?_
  refine wc_skip ?_
  refine wc_seq ?_
  refine wc_block ?_
  refine wc_seq (wc_region ?_)
  refine wd (does_indexR sl_L_func_L_int_int_int rfl rfl (S.rd 0) (by decide) (by simp)) ?_
  refine wd (does_load on_func_L_int_int_int rfl ((S.rd 0).one (at_some FnV.nil (And.intro (by decide) (by simp))) rfl)) ?_
  refine wd (does_as_f rfl) ?_
  refine wl_nil ?_
  refine wc_seq (wc_region ?_)
  refine wd (does_mv_f rfl) ?_
  refine wd (does_mv_l rfl) ?_
  replace S : St A N w w [oT a_0 a0] [fS 1 IC SlV.nil ([]), fS 1 FC s_1 ([FnV.mk (.func F_rule_pair_1) #[] #[.pointer (some ⟨b_1_1, 0, none⟩), .pointer (some ⟨b_1_2, 0, none⟩)], FnV.mk (.func F_rule_premises_1) #[] #[.pointer (some ⟨b_1_3, 0, none⟩)]]), oB b_1_1 T_int [.int .i64 a1_0], oB b_1_2 T_int [.int .i64 a1_1], oB b_1_3 T_Nd (Nd.C a1_2)] := S.nilZ 1 IC
  obtain ⟨r3, er3, H⟩ := bind_ex H
  obtain ⟨B5, MB5, SB5, back⟩ := S.calln 0 ((.z 0 rfl (.z 2 rfl (.z 3 rfl .nil))))
  refine wl_call (does_callv ca_rule_pair_1 rfl) (by decide) (rule_pair_1_st SB5 er3) ?_
  rintro _ w4 ⟨rfl, S2⟩
  replace S : St A N w w4 [oT a_0 a0] [fS 1 IC SlV.nil ([]), fS 1 FC s_1 ([FnV.mk (.func F_rule_pair_1) #[] #[.pointer (some ⟨b_1_1, 0, none⟩), .pointer (some ⟨b_1_2, 0, none⟩)], FnV.mk (.func F_rule_premises_1) #[] #[.pointer (some ⟨b_1_3, 0, none⟩)]]), oB b_1_1 T_int [.int .i64 a1_0], oB b_1_2 T_int [.int .i64 a1_1], oB b_1_3 T_Nd (Nd.C a1_2)] := back _ _ _ _ S2 rfl
  clear back S2 SB5
  refine wd (does_mv_t rfl) ?_
  refine wd (does_extract rfl rfl) ?_
  refine wd (does_extract rfl rfl) ?_
  refine wd (does_as_i rfl) ?_
  refine wd (does_as_i rfl) ?_
  refine wl_nil ?_
  refine wc_seq (wc_region ?_)
  refine wd (does_mv_p rfl) ?_
  refine wd (does_mv_i rfl) ?_
  refine wd (does_mv_i rfl) ?_
  obtain ⟨r6, er6, H⟩ := bind_ex H
  obtain ⟨B8, MB8, SB8, back⟩ := S.calln 1 ((.nil))
  refine wl_call (does_call ca_formula_Table_Imp) (by decide) (formula_Table_Imp_st SB8 er6) ?_
  rintro _ w7 ⟨rfl, S2⟩
  replace S : St A N w w7 [oT a_0 r6.1] [fS 1 IC SlV.nil ([]), fS 1 FC s_1 ([FnV.mk (.func F_rule_pair_1) #[] #[.pointer (some ⟨b_1_1, 0, none⟩), .pointer (some ⟨b_1_2, 0, none⟩)], FnV.mk (.func F_rule_premises_1) #[] #[.pointer (some ⟨b_1_3, 0, none⟩)]]), oB b_1_1 T_int [.int .i64 a1_0], oB b_1_2 T_int [.int .i64 a1_1], oB b_1_3 T_Nd (Nd.C a1_2)] := back _ _ _ _ S2 rfl
  clear back S2 SB8
  refine wd (does_mv_t rfl) ?_
  refine wd (does_extract rfl rfl) ?_
  refine wd (does_extract rfl rfl) ?_
  refine wd (does_as_i rfl) ?_
  refine wd (does_as_i rfl) ?_
  refine wl_nil ?_
  refine wc_seq (wc_seq (wc_region ?_))
  refine wd (does_mv_i rfl) ?_
  refine wd (does_ne rfl rfl) ?_
  refine wl_nil ?_
  refine wc_if rfl (fun hc9 => ?_) (fun hc9 => ?_)
  · replace H := if_t hc9 H
    refine wc_seq (wc_region ?_)
    refine wd (does_mv_i rfl) ?_
    refine wd (does_as_nil) ?_
    refine wd (does_as_i rfl) ?_
    refine wl_nil ?_
    refine wc_ret ?_
    replace S : St A N w w7 [oS T_int 1 IC SlV.nil ([] : List Int), oT a_0 r6.1] [fS 1 IC SlV.nil ([]), fS 1 FC s_1 ([FnV.mk (.func F_rule_pair_1) #[] #[.pointer (some ⟨b_1_1, 0, none⟩), .pointer (some ⟨b_1_2, 0, none⟩)], FnV.mk (.func F_rule_premises_1) #[] #[.pointer (some ⟨b_1_3, 0, none⟩)]]), oB b_1_1 T_int [.int .i64 a1_0], oB b_1_2 T_int [.int .i64 a1_1], oB b_1_3 T_Nd (Nd.C a1_2)] := S.nil T_int 1 IC
    refine ⟨_, (rets2 (retOne_tmp rfl) (retOne_tmp rfl)), ?_⟩
    replace S : St A N w w7 [oT a_0 r6.1, oS T_int 1 IC SlV.nil ([] : List Int)] [] := S.arr [1, 0] []
    obtain rfl := Option.some.inj H
    exact ⟨SlV.nil, rfl, S⟩
  replace H := if_f hc9 H
  refine wc_skip ?_
  refine wc_region ?_
  refine wd (does_mv_l rfl) ?_
  refine wd (does_mv_i rfl) ?_
  refine wl_lits (C := IC) (l := [r6.2.1]) (vs := [.int .i64 r6.2.1]) sl_L_int el_int.zero rfl rfl (fun _ _ => rfl) (by decide) rfl (by decide) fun b11 w10 s12 hBw10 hw10 => ?_
  replace S : St A N w w10 [oS T_int 1 IC s12 ([r6.2.1]), oT a_0 r6.1] [fS 1 IC SlV.nil ([]), fS 1 FC s_1 ([FnV.mk (.func F_rule_pair_1) #[] #[.pointer (some ⟨b_1_1, 0, none⟩), .pointer (some ⟨b_1_2, 0, none⟩)], FnV.mk (.func F_rule_premises_1) #[] #[.pointer (some ⟨b_1_3, 0, none⟩)]]), oB b_1_1 T_int [.int .i64 a1_0], oB b_1_2 T_int [.int .i64 a1_1], oB b_1_3 T_Nd (Nd.C a1_2)] := S.lit hBw10 hw10 (by simp)
  replace S : St A N w w10 [oS T_int 1 IC SlV.nil ([] : List Int), oS T_int 1 IC s12 ([r6.2.1]), oT a_0 r6.1] [fS 1 IC SlV.nil ([]), fS 1 FC s_1 ([FnV.mk (.func F_rule_pair_1) #[] #[.pointer (some ⟨b_1_1, 0, none⟩), .pointer (some ⟨b_1_2, 0, none⟩)], FnV.mk (.func F_rule_premises_1) #[] #[.pointer (some ⟨b_1_3, 0, none⟩)]]), oB b_1_1 T_int [.int .i64 a1_0], oB b_1_2 T_int [.int .i64 a1_1], oB b_1_3 T_Nd (Nd.C a1_2)] := S.nil T_int 1 IC
  obtain ⟨ha15, H⟩ := chk_ex H
  have ha15 := of_decide_eq_true ha15
  refine wl_appends (C := IC) sl_L_int el_int rfl rfl (S.sl 0) (S.rdO 1) (by simp) (fun a _ v hv => by rw [List.mem_singleton.1 hv]; rfl) ha15 (by omega) (by decide) fun s14 w13 O hw13 gw13 => ?_
  replace S : St A N w w13 [oS T_int 1 IC s14 (([] : List Int) ++ [r6.2.1]), oS T_int 1 IC s12 ([r6.2.1]), oT a_0 r6.1] [fS 1 IC SlV.nil ([]), fS 1 FC s_1 ([FnV.mk (.func F_rule_pair_1) #[] #[.pointer (some ⟨b_1_1, 0, none⟩), .pointer (some ⟨b_1_2, 0, none⟩)], FnV.mk (.func F_rule_premises_1) #[] #[.pointer (some ⟨b_1_3, 0, none⟩)]]), oB b_1_1 T_int [.int .i64 a1_0], oB b_1_2 T_int [.int .i64 a1_1], oB b_1_3 T_Nd (Nd.C a1_2)] := S.push 0 O (by first | (simp; done) | (simp; omega)) hw13 gw13
  clear O
  refine wd (does_as_l rfl) ?_
  refine wl_nil ?_
  refine wc_region ?_
  refine wd (does_addc rfl rfl (c := 1) rfl (by decide) (by decide)) ?_
  refine wd (does_mv_i rfl) ?_
  refine wl_nil ?_
  refine ⟨rfl, ?_⟩
  refine rounds_s ?_
  refine wc_seq (wc_region ?_)
  refine wd (does_lt rfl rfl) ?_
  refine wl_nil ?_
  refine wc_seq ?_
  refine wc_true rfl ?_
  refine wc_skip ?_
  refine wc_seq ?_
  refine wc_block ?_
  refine wc_seq (wc_region ?_)
  refine wd (does_indexR sl_L_func_L_int_int_int rfl rfl (S.rd 1) (by decide) (by simp)) ?_
  refine wd (does_load on_func_L_int_int_int rfl ((S.rd 1).one (at_some FnV.nil (And.intro (by decide) (by simp))) rfl)) ?_
  refine wd (does_as_f rfl) ?_
  refine wl_nil ?_
  refine wc_seq (wc_region ?_)
  refine wd (does_mv_f rfl) ?_
  refine wd (does_mv_l rfl) ?_
  obtain ⟨r18, er18, H⟩ := bind_ex H
  obtain ⟨B20, MB20, SB20, back⟩ := S.calln 0 ((.s 0 rfl (.z 4 rfl .nil)))
  refine wl_call (does_callv ca_rule_premises_1 rfl) (by decide) (rule_premises_1_st SB20 er18) ?_
  rintro _ w19 ⟨rfl, S2⟩
  replace S : St A N w w19 [oS T_int 1 IC s14 (([] : List Int) ++ [r6.2.1]), oS T_int 1 IC s12 ([r6.2.1]), oT a_0 r6.1] [fS 1 IC SlV.nil ([]), fS 1 FC s_1 ([FnV.mk (.func F_rule_pair_1) #[] #[.pointer (some ⟨b_1_1, 0, none⟩), .pointer (some ⟨b_1_2, 0, none⟩)], FnV.mk (.func F_rule_premises_1) #[] #[.pointer (some ⟨b_1_3, 0, none⟩)]]), oB b_1_1 T_int [.int .i64 a1_0], oB b_1_2 T_int [.int .i64 a1_1], oB b_1_3 T_Nd (Nd.C a1_2)] := back _ _ _ _ S2 rfl
  clear back S2 SB20
  refine wd (does_mv_t rfl) ?_
  refine wd (does_extract rfl rfl) ?_
  refine wd (does_extract rfl rfl) ?_
  refine wd (does_as_i rfl) ?_
  refine wd (does_as_i rfl) ?_
  refine wl_nil ?_
  refine wc_seq (wc_region ?_)
  refine wd (does_mv_p rfl) ?_
  refine wd (does_mv_i rfl) ?_
  refine wd (does_mv_i rfl) ?_
  obtain ⟨r21, er21, H⟩ := bind_ex H
  replace S : St A N w w19 [oT a_0 r6.1, oS T_int 1 IC s14 (([] : List Int) ++ [r6.2.1]), oS T_int 1 IC s12 ([r6.2.1])] [fS 1 IC SlV.nil ([]), fS 1 FC s_1 ([FnV.mk (.func F_rule_pair_1) #[] #[.pointer (some ⟨b_1_1, 0, none⟩), .pointer (some ⟨b_1_2, 0, none⟩)], FnV.mk (.func F_rule_premises_1) #[] #[.pointer (some ⟨b_1_3, 0, none⟩)]]), oB b_1_1 T_int [.int .i64 a1_0], oB b_1_2 T_int [.int .i64 a1_1], oB b_1_3 T_Nd (Nd.C a1_2)] := S.front 2
  obtain ⟨B23, MB23, SB23, back⟩ := S.calln 1 ((.nil))
  refine wl_call (does_call ca_formula_Table_Imp) (by decide) (formula_Table_Imp_st SB23 er21) ?_
  rintro _ w22 ⟨rfl, S2⟩
  replace S : St A N w w22 [oT a_0 r21.1, oS T_int 1 IC s14 (([] : List Int) ++ [r6.2.1]), oS T_int 1 IC s12 ([r6.2.1])] [fS 1 IC SlV.nil ([]), fS 1 FC s_1 ([FnV.mk (.func F_rule_pair_1) #[] #[.pointer (some ⟨b_1_1, 0, none⟩), .pointer (some ⟨b_1_2, 0, none⟩)], FnV.mk (.func F_rule_premises_1) #[] #[.pointer (some ⟨b_1_3, 0, none⟩)]]), oB b_1_1 T_int [.int .i64 a1_0], oB b_1_2 T_int [.int .i64 a1_1], oB b_1_3 T_Nd (Nd.C a1_2)] := back _ _ _ _ S2 rfl
  clear back S2 SB23
  refine wd (does_mv_t rfl) ?_
  refine wd (does_extract rfl rfl) ?_
  refine wd (does_extract rfl rfl) ?_
  refine wd (does_as_i rfl) ?_
  refine wd (does_as_i rfl) ?_
  refine wl_nil ?_
  refine wc_seq (wc_seq (wc_region ?_))
  refine wd (does_mv_i rfl) ?_
  refine wd (does_ne rfl rfl) ?_
  refine wl_nil ?_
  refine wc_if rfl (fun hc24 => ?_) (fun hc24 => ?_)
  · replace H := if_t hc24 H
    refine wc_seq (wc_region ?_)
    refine wd (does_mv_i rfl) ?_
    refine wd (does_as_nil) ?_
    refine wd (does_as_i rfl) ?_
    refine wl_nil ?_
    refine wc_ret ?_
    replace S : St A N w w22 [oS T_int 1 IC SlV.nil ([] : List Int), oT a_0 r21.1, oS T_int 1 IC s14 (([] : List Int) ++ [r6.2.1]), oS T_int 1 IC s12 ([r6.2.1])] [fS 1 IC SlV.nil ([]), fS 1 FC s_1 ([FnV.mk (.func F_rule_pair_1) #[] #[.pointer (some ⟨b_1_1, 0, none⟩), .pointer (some ⟨b_1_2, 0, none⟩)], FnV.mk (.func F_rule_premises_1) #[] #[.pointer (some ⟨b_1_3, 0, none⟩)]]), oB b_1_1 T_int [.int .i64 a1_0], oB b_1_2 T_int [.int .i64 a1_1], oB b_1_3 T_Nd (Nd.C a1_2)] := S.nil T_int 1 IC
    refine ⟨_, (rets2 (retOne_tmp rfl) (retOne_tmp rfl)), ?_⟩
    replace S : St A N w w22 [oT a_0 r21.1, oS T_int 1 IC SlV.nil ([] : List Int)] [] := S.arr [1, 0] []
    obtain rfl := Option.some.inj H
    exact ⟨SlV.nil, rfl, S⟩
  replace H := if_f hc24 H
  refine wc_skip ?_
  refine wc_region ?_
  refine wd (does_mv_l rfl) ?_
  refine wd (does_mv_i rfl) ?_
  refine wl_lits (C := IC) (l := [r21.2.1]) (vs := [.int .i64 r21.2.1]) sl_L_int el_int.zero rfl rfl (fun _ _ => rfl) (by decide) rfl (by decide) fun b26 w25 s27 hBw25 hw25 => ?_
  replace S : St A N w w25 [oS T_int 1 IC s27 ([r21.2.1]), oT a_0 r21.1, oS T_int 1 IC s14 (([] : List Int) ++ [r6.2.1]), oS T_int 1 IC s12 ([r6.2.1])] [fS 1 IC SlV.nil ([]), fS 1 FC s_1 ([FnV.mk (.func F_rule_pair_1) #[] #[.pointer (some ⟨b_1_1, 0, none⟩), .pointer (some ⟨b_1_2, 0, none⟩)], FnV.mk (.func F_rule_premises_1) #[] #[.pointer (some ⟨b_1_3, 0, none⟩)]]), oB b_1_1 T_int [.int .i64 a1_0], oB b_1_2 T_int [.int .i64 a1_1], oB b_1_3 T_Nd (Nd.C a1_2)] := S.lit hBw25 hw25 (by simp)
  obtain ⟨ha30, H⟩ := chk_ex H
  have ha30 := of_decide_eq_true ha30
  refine wl_appends (C := IC) sl_L_int el_int rfl rfl (S.sl 2) (S.rdO 0) (by simp) (fun a _ v hv => by rw [List.mem_singleton.1 hv]; rfl) ha30 (by omega) (by decide) fun s29 w28 O hw28 gw28 => ?_
  replace S : St A N w w28 [oS T_int 1 IC s29 ((([] : List Int) ++ [r6.2.1]) ++ [r21.2.1]), oS T_int 1 IC s27 ([r21.2.1]), oT a_0 r21.1, oS T_int 1 IC s12 ([r6.2.1])] [fS 1 IC SlV.nil ([]), fS 1 FC s_1 ([FnV.mk (.func F_rule_pair_1) #[] #[.pointer (some ⟨b_1_1, 0, none⟩), .pointer (some ⟨b_1_2, 0, none⟩)], FnV.mk (.func F_rule_premises_1) #[] #[.pointer (some ⟨b_1_3, 0, none⟩)]]), oB b_1_1 T_int [.int .i64 a1_0], oB b_1_2 T_int [.int .i64 a1_1], oB b_1_3 T_Nd (Nd.C a1_2)] := S.push 2 O (by first | (simp; done) | (simp; omega)) hw28 gw28
  clear O
  refine wd (does_as_l rfl) ?_
  refine wl_nil ?_
  refine wc_region ?_
  refine wd (does_addc rfl rfl (c := 2) rfl (by decide) (by decide)) ?_
  refine wd (does_mv_i rfl) ?_
  refine wl_nil ?_
  refine ⟨rfl, ?_⟩
  refine rounds_s ?_
  refine wc_seq (wc_region ?_)
  refine wd (does_lt rfl rfl) ?_
  refine wl_nil ?_
  refine wc_seq ?_
  refine wc_false rfl ?_
  refine wc_exit ?_
  refine wc_seq (wc_region ?_)
  refine wd (does_mv_l rfl) ?_
  refine wd (does_as_l rfl) ?_
  refine wd (does_as_i rfl) ?_
  refine wl_nil ?_
  refine wc_ret ?_
  refine ⟨_, (rets2 (retOne_tmp rfl) (retOne_tmp rfl)), ?_⟩
  replace S : St A N w w28 [oT a_0 r21.1, oS T_int 1 IC s29 ((([] : List Int) ++ [r6.2.1]) ++ [r21.2.1])] [] := S.arr [2, 0] []
  obtain rfl := Option.some.inj H
  exact ⟨s29, rfl, S⟩
theorem rule_imps__rule_pair_1__rule_pair_1_st {A : Nat → Prop} {N : Oth} {w : World} {a0 : Tb} {a_0 : Option Addr} {a1_0 : Int} {a1_1 : Int} {a1_2 : Int} {a1_3 : Int} {s_1 : SlV} {b_1_1 : Nat} {b_1_2 : Nat} {b_1_3 : Nat} {b_1_4 : Nat} (S : St A N w w [oT a_0 a0] [fS 1 FC s_1 ([FnV.mk (.func F_rule_pair_1) #[] #[.pointer (some ⟨b_1_1, 0, none⟩), .pointer (some ⟨b_1_2, 0, none⟩)], FnV.mk (.func F_rule_pair_1) #[] #[.pointer (some ⟨b_1_3, 0, none⟩), .pointer (some ⟨b_1_4, 0, none⟩)]]), oB b_1_1 T_int [.int .i64 a1_0], oB b_1_2 T_int [.int .i64 a1_1], oB b_1_3 T_int [.int .i64 a1_2], oB b_1_4 T_int [.int .i64 a1_3]]) {r : Tb × List Int × Int} (H : rule_imps__rule_pair_1__rule_pair_1.f a0 a1_0 a1_1 a1_2 a1_3 = some r) :
    Calls PP F_rule_imps #[.pointer a_0, s_1.v] w fun e w' => ∃ v, e = .returned v ∧ (∃ so0 : SlV, v = .tuple #[so0.v, .int .i64 r.2.2] ∧ St A N w w' [oT a_0 r.1, oS T_int 1 IC so0 r.2.1] []) := by
  unfold rule_imps__rule_pair_1__rule_pair_1.f at H
  refine calls_of_wc (n := 41) fn_rule_imps rfl rfl (by simp) ?_
  refine wc_seq (wc_region ?_)
  refine wd (does_as_nil) ?_
  refine wd (does_as_i rfl) ?_
  refine wl_nil ?_
  refine wc_seq (wc_region ?_)
  refine wd (does_as_nil) ?_
  refine wl_nil ?_
  refine wc_seq (wc_seq (wc_region ?_))
  refine wd (does_mv_l rfl) ?_
  refine wd (does_lenR sl_L_func_L_int_int_int rfl (S.rd 0)) ?_
  refine wd (does_mv_i rfl) ?_
  refine wl_nil ?_
  refine wc_block ?_
  refine wc_rounds 3 ?_
  refine rounds_s ?_
  refine wc_seq (wc_region ?_)
  refine wd (does_lt rfl rfl) ?_
  refine wl_nil ?_
  refine wc_seq ?_
  refine wc_true rfl ?_
  refine wc_skip ?_
  refine wc_seq ?_
  refine wc_block ?_
  refine wc_seq (wc_region ?_)
  refine wd (does_indexR sl_L_func_L_int_int_int rfl rfl (S.rd 0) (by decide) (by simp)) ?_
  refine wd (does_load on_func_L_int_int_int rfl ((S.rd 0).one (at_some FnV.nil (And.intro (by decide) (by simp))) rfl)) ?_
  refine wd (does_as_f rfl) ?_
  refine wl_nil ?_
  refine wc_seq (wc_region ?_)
  refine wd (does_mv_f rfl) ?_
  refine wd (does_mv_l rfl) ?_
  replace S : St A N w w [oT a_0 a0] [fS 1 IC SlV.nil ([]), fS 1 FC s_1 ([FnV.mk (.func F_rule_pair_1) #[] #[.pointer (some ⟨b_1_1, 0, none⟩), .pointer (some ⟨b_1_2, 0, none⟩)], FnV.mk (.func F_rule_pair_1) #[] #[.pointer (some ⟨b_1_3, 0, none⟩), .pointer (some ⟨b_1_4, 0, none⟩)]]), oB b_1_1 T_int [.int .i64 a1_0], oB b_1_2 T_int [.int .i64 a1_1], oB b_1_3 T_int [.int .i64 a1_2], oB b_1_4 T_int [.int .i64 a1_3]] := S.nilZ 1 IC
  obtain ⟨r3, er3, H⟩ := bind_ex H
  obtain ⟨B5, MB5, SB5, back⟩ := S.calln 0 ((.z 0 rfl (.z 2 rfl (.z 3 rfl .nil))))
  refine wl_call (does_callv ca_rule_pair_1 rfl) (by decide) (rule_pair_1_st SB5 er3) ?_
  rintro _ w4 ⟨rfl, S2⟩
  replace S : St A N w w4 [oT a_0 a0] [fS 1 IC SlV.nil ([]), fS 1 FC s_1 ([FnV.mk (.func F_rule_pair_1) #[] #[.pointer (some ⟨b_1_1, 0, none⟩), .pointer (some ⟨b_1_2, 0, none⟩)], FnV.mk (.func F_rule_pair_1) #[] #[.pointer (some ⟨b_1_3, 0, none⟩), .pointer (some ⟨b_1_4, 0, none⟩)]]), oB b_1_1 T_int [.int .i64 a1_0], oB b_1_2 T_int [.int .i64 a1_1], oB b_1_3 T_int [.int .i64 a1_2], oB b_1_4 T_int [.int .i64 a1_3]] := back _ _ _ _ S2 rfl
  clear back S2 SB5
  refine wd (does_mv_t rfl) ?_
  refine wd (does_extract rfl rfl) ?_
  refine wd (does_extract rfl rfl) ?_
  refine wd (does_as_i rfl) ?_
  refine wd (does_as_i rfl) ?_
  refine wl_nil ?_
  refine wc_seq (wc_region ?_)
  refine wd (does_mv_p rfl) ?_
  refine wd (does_mv_i rfl) ?_
  refine wd (does_mv_i rfl) ?_
  obtain ⟨r6, er6, H⟩ := bind_ex H
  obtain ⟨B8, MB8, SB8, back⟩ := S.calln 1 ((.nil))
  refine wl_call (does_call ca_formula_Table_Imp) (by decide) (formula_Table_Imp_st SB8 er6) ?_
  rintro _ w7 ⟨rfl, S2⟩
  replace S : St A N w w7 [oT a_0 r6.1] [fS 1 IC SlV.nil ([]), fS 1 FC s_1 ([FnV.mk (.func F_rule_pair_1) #[] #[.pointer (some ⟨b_1_1, 0, none⟩), .pointer (some ⟨b_1_2, 0, none⟩)], FnV.mk (.func F_rule_pair_1) #[] #[.pointer (some ⟨b_1_3, 0, none⟩), .pointer (some ⟨b_1_4, 0, none⟩)]]), oB b_1_1 T_int [.int .i64 a1_0], oB b_1_2 T_int [.int .i64 a1_1], oB b_1_3 T_int [.int .i64 a1_2], oB b_1_4 T_int [.int .i64 a1_3]] := back _ _ _ _ S2 rfl
  clear back S2 SB8
  refine wd (does_mv_t rfl) ?_
  refine wd (does_extract rfl rfl) ?_
  refine wd (does_extract rfl rfl) ?_
  refine wd (does_as_i rfl) ?_
  refine wd (does_as_i rfl) ?_
  refine wl_nil ?_
  refine wc_seq (wc_seq (wc_region ?_))
  refine wd (does_mv_i rfl) ?_
  refine wd (does_ne rfl rfl) ?_
  refine wl_nil ?_
  refine wc_if rfl (fun hc9 => ?_) (fun hc9 => ?_)
  · replace H := if_t hc9 H
    refine wc_seq (wc_region ?_)
    refine wd (does_mv_i rfl) ?_
    refine wd (does_as_nil) ?_
    refine wd (does_as_i rfl) ?_
    refine wl_nil ?_
    refine wc_ret ?_
    replace S : St A N w w7 [oS T_int 1 IC SlV.nil ([] : List Int), oT a_0 r6.1] [fS 1 IC SlV.nil ([]), fS 1 FC s_1 ([FnV.mk (.func F_rule_pair_1) #[] #[.pointer (some ⟨b_1_1, 0, none⟩), .pointer (some ⟨b_1_2, 0, none⟩)], FnV.mk (.func F_rule_pair_1) #[] #[.pointer (some ⟨b_1_3, 0, none⟩), .pointer (some ⟨b_1_4, 0, none⟩)]]), oB b_1_1 T_int [.int .i64 a1_0], oB b_1_2 T_int [.int .i64 a1_1], oB b_1_3 T_int [.int .i64 a1_2], oB b_1_4 T_int [.int .i64 a1_3]] := S.nil T_int 1 IC
    refine ⟨_, (rets2 (retOne_tmp rfl) (retOne_tmp rfl)), ?_⟩
    replace S : St A N w w7 [oT a_0 r6.1, oS T_int 1 IC SlV.nil ([] : List Int)] [] := S.arr [1, 0] []
    obtain rfl := Option.some.inj H
    exact ⟨SlV.nil, rfl, S⟩
  replace H := if_f hc9 H
  refine wc_skip ?_
  refine wc_region ?_
  refine wd (does_mv_l rfl) ?_
  refine wd (does_mv_i rfl) ?_
  refine wl_lits (C := IC) (l := [r6.2.1]) (vs := [.int .i64 r6.2.1]) sl_L_int el_int.zero rfl rfl (fun _ _ => rfl) (by decide) rfl (by decide) fun b11 w10 s12 hBw10 hw10 => ?_
  replace S : St A N w w10 [oS T_int 1 IC s12 ([r6.2.1]), oT a_0 r6.1] [fS 1 IC SlV.nil ([]), fS 1 FC s_1 ([FnV.mk (.func F_rule_pair_1) #[] #[.pointer (some ⟨b_1_1, 0, none⟩), .pointer (some ⟨b_1_2, 0, none⟩)], FnV.mk (.func F_rule_pair_1) #[] #[.pointer (some ⟨b_1_3, 0, none⟩), .pointer (some ⟨b_1_4, 0, none⟩)]]), oB b_1_1 T_int [.int .i64 a1_0], oB b_1_2 T_int [.int .i64 a1_1], oB b_1_3 T_int [.int .i64 a1_2], oB b_1_4 T_int [.int .i64 a1_3]] := S.lit hBw10 hw10 (by simp)
  replace S : St A N w w10 [oS T_int 1 IC SlV.nil ([] : List Int), oS T_int 1 IC s12 ([r6.2.1]), oT a_0 r6.1] [fS 1 IC SlV.nil ([]), fS 1 FC s_1 ([FnV.mk (.func F_rule_pair_1) #[] #[.pointer (some ⟨b_1_1, 0, none⟩), .pointer (some ⟨b_1_2, 0, none⟩)], FnV.mk (.func F_rule_pair_1) #[] #[.pointer (some ⟨b_1_3, 0, none⟩), .pointer (some ⟨b_1_4, 0, none⟩)]]), oB b_1_1 T_int [.int .i64 a1_0], oB b_1_2 T_int [.int .i64 a1_1], oB b_1_3 T_int [.int .i64 a1_2], oB b_1_4 T_int [.int .i64 a1_3]] := S.nil T_int 1 IC
  obtain ⟨ha15, H⟩ := chk_ex H
  have ha15 := of_decide_eq_true ha15
  refine wl_appends (C := IC) sl_L_int el_int rfl rfl (S.sl 0) (S.rdO 1) (by simp) (fun a _ v hv => by rw [List.mem_singleton.1 hv]; rfl) ha15 (by omega) (by decide) fun s14 w13 O hw13 gw13 => ?_
  replace S : St A N w w13 [oS T_int 1 IC s14 (([] : List Int) ++ [r6.2.1]), oS T_int 1 IC s12 ([r6.2.1]), oT a_0 r6.1] [fS 1 IC SlV.nil ([]), fS 1 FC s_1 ([FnV.mk (.func F_rule_pair_1) #[] #[.pointer (some ⟨b_1_1, 0, none⟩), .pointer (some ⟨b_1_2, 0, none⟩)], FnV.mk (.func F_rule_pair_1) #[] #[.pointer (some ⟨b_1_3, 0, none⟩), .pointer (some ⟨b_1_4, 0, none⟩)]]), oB b_1_1 T_int [.int .i64 a1_0], oB b_1_2 T_int [.int .i64 a1_1], oB b_1_3 T_int [.int .i64 a1_2], oB b_1_4 T_int [.int .i64 a1_3]] := S.push 0 O (by first | (simp; done) | (simp; omega)) hw13 gw13
  clear O
  refine wd (does_as_l rfl) ?_
  refine wl_nil ?_
  refine wc_region ?_
  refine wd (does_addc rfl rfl (c := 1) rfl (by decide) (by decide)) ?_
  refine wd (does_mv_i rfl) ?_
  refine wl_nil ?_
  refine ⟨rfl, ?_⟩
  refine rounds_s ?_
  refine wc_seq (wc_region ?_)
  refine wd (does_lt rfl rfl) ?_
  refine wl_nil ?_
  refine wc_seq ?_
  refine wc_true rfl ?_
  refine wc_skip ?_
  refine wc_seq ?_
  refine wc_block ?_
  refine wc_seq (wc_region ?_)
  refine wd (does_indexR sl_L_func_L_int_int_int rfl rfl (S.rd 1) (by decide) (by simp)) ?_
  refine wd (does_load on_func_L_int_int_int rfl ((S.rd 1).one (at_some FnV.nil (And.intro (by decide) (by simp))) rfl)) ?_
  refine wd (does_as_f rfl) ?_
  refine wl_nil ?_
  refine wc_seq (wc_region ?_)
  refine wd (does_mv_f rfl) ?_
  refine wd (does_mv_l rfl) ?_
  obtain ⟨r18, er18, H⟩ := bind_ex H
  obtain ⟨B20, MB20, SB20, back⟩ := S.calln 0 ((.s 0 rfl (.z 4 rfl (.z 5 rfl .nil))))
  refine wl_call (does_callv ca_rule_pair_1 rfl) (by decide) (rule_pair_1_st SB20 er18) ?_
  rintro _ w19 ⟨rfl, S2⟩
  replace S : St A N w w19 [oS T_int 1 IC s14 (([] : List Int) ++ [r6.2.1]), oS T_int 1 IC s12 ([r6.2.1]), oT a_0 r6.1] [fS 1 IC SlV.nil ([]), fS 1 FC s_1 ([FnV.mk (.func F_rule_pair_1) #[] #[.pointer (some ⟨b_1_1, 0, none⟩), .pointer (some ⟨b_1_2, 0, none⟩)], FnV.mk (.func F_rule_pair_1) #[] #[.pointer (some ⟨b_1_3, 0, none⟩), .pointer (some ⟨b_1_4, 0, none⟩)]]), oB b_1_1 T_int [.int .i64 a1_0], oB b_1_2 T_int [.int .i64 a1_1], oB b_1_3 T_int [.int .i64 a1_2], oB b_1_4 T_int [.int .i64 a1_3]] := back _ _ _ _ S2 rfl
  clear back S2 SB20
  refine wd (does_mv_t rfl) ?_
  refine wd (does_extract rfl rfl) ?_
  refine wd (does_extract rfl rfl) ?_
  refine wd (does_as_i rfl) ?_
  refine wd (does_as_i rfl) ?_
  refine wl_nil ?_
  refine wc_seq (wc_region ?_)
  refine wd (does_mv_p rfl) ?_
  refine wd (does_mv_i rfl) ?_
  refine wd (does_mv_i rfl) ?_
  obtain ⟨r21, er21, H⟩ := bind_ex H
  replace S : St A N w w19 [oT a_0 r6.1, oS T_int 1 IC s14 (([] : List Int) ++ [r6.2.1]), oS T_int 1 IC s12 ([r6.2.1])] [fS 1 IC SlV.nil ([]), fS 1 FC s_1 ([FnV.mk (.func F_rule_pair_1) #[] #[.pointer (some ⟨b_1_1, 0, none⟩), .pointer (some ⟨b_1_2, 0, none⟩)], FnV.mk (.func F_rule_pair_1) #[] #[.pointer (some ⟨b_1_3, 0, none⟩), .pointer (some ⟨b_1_4, 0, none⟩)]]), oB b_1_1 T_int [.int .i64 a1_0], oB b_1_2 T_int [.int .i64 a1_1], oB b_1_3 T_int [.int .i64 a1_2], oB b_1_4 T_int [.int .i64 a1_3]] := S.front 2
  obtain ⟨B23, MB23, SB23, back⟩ := S.calln 1 ((.nil))
  refine wl_call (does_call ca_formula_Table_Imp) (by decide) (formula_Table_Imp_st SB23 er21) ?_
  rintro _ w22 ⟨rfl, S2⟩
  replace S : St A N w w22 [oT a_0 r21.1, oS T_int 1 IC s14 (([] : List Int) ++ [r6.2.1]), oS T_int 1 IC s12 ([r6.2.1])] [fS 1 IC SlV.nil ([]), fS 1 FC s_1 ([FnV.mk (.func F_rule_pair_1) #[] #[.pointer (some ⟨b_1_1, 0, none⟩), .pointer (some ⟨b_1_2, 0, none⟩)], FnV.mk (.func F_rule_pair_1) #[] #[.pointer (some ⟨b_1_3, 0, none⟩), .pointer (some ⟨b_1_4, 0, none⟩)]]), oB b_1_1 T_int [.int .i64 a1_0], oB b_1_2 T_int [.int .i64 a1_1], oB b_1_3 T_int [.int .i64 a1_2], oB b_1_4 T_int [.int .i64 a1_3]] := back _ _ _ _ S2 rfl
  clear back S2 SB23
  refine wd (does_mv_t rfl) ?_
  refine wd (does_extract rfl rfl) ?_
  refine wd (does_extract rfl rfl) ?_
  refine wd (does_as_i rfl) ?_
  refine wd (does_as_i rfl) ?_
  refine wl_nil ?_
  refine wc_seq (wc_seq (wc_region ?_))
  refine wd (does_mv_i rfl) ?_
  refine wd (does_ne rfl rfl) ?_
  refine wl_nil ?_
  refine wc_if rfl (fun hc24 => ?_) (fun hc24 => ?_)
  · replace H := if_t hc24 H
    refine wc_seq (wc_region ?_)
    refine wd (does_mv_i rfl) ?_
    refine wd (does_as_nil) ?_
    refine wd (does_as_i rfl) ?_
    refine wl_nil ?_
    refine wc_ret ?_
    replace S : St A N w w22 [oS T_int 1 IC SlV.nil ([] : List Int), oT a_0 r21.1, oS T_int 1 IC s14 (([] : List Int) ++ [r6.2.1]), oS T_int 1 IC s12 ([r6.2.1])] [fS 1 IC SlV.nil ([]), fS 1 FC s_1 ([FnV.mk (.func F_rule_pair_1) #[] #[.pointer (some ⟨b_1_1, 0, none⟩), .pointer (some ⟨b_1_2, 0, none⟩)], FnV.mk (.func F_rule_pair_1) #[] #[.pointer (some ⟨b_1_3, 0, none⟩), .pointer (some ⟨b_1_4, 0, none⟩)]]), oB b_1_1 T_int [.int .i64 a1_0], oB b_1_2 T_int [.int .i64 a1_1], oB b_1_3 T_int [.int .i64 a1_2], oB b_1_4 T_int [.int .i64 a1_3]] := S.nil T_int 1 IC
    refine ⟨_, (rets2 (retOne_tmp rfl) (retOne_tmp rfl)), ?_⟩
    replace S : St A N w w22 [oT a_0 r21.1, oS T_int 1 IC SlV.nil ([] : List Int)] [] := S.arr [1, 0] []
    obtain rfl := Option.some.inj H
    exact ⟨SlV.nil, rfl, S⟩
  replace H := if_f hc24 H
  refine wc_skip ?_
  refine wc_region ?_
  refine wd (does_mv_l rfl) ?_
  refine wd (does_mv_i rfl) ?_
  refine wl_lits (C := IC) (l := [r21.2.1]) (vs := [.int .i64 r21.2.1]) sl_L_int el_int.zero rfl rfl (fun _ _ => rfl) (by decide) rfl (by decide) fun b26 w25 s27 hBw25 hw25 => ?_
  replace S : St A N w w25 [oS T_int 1 IC s27 ([r21.2.1]), oT a_0 r21.1, oS T_int 1 IC s14 (([] : List Int) ++ [r6.2.1]), oS T_int 1 IC s12 ([r6.2.1])] [fS 1 IC SlV.nil ([]), fS 1 FC s_1 ([FnV.mk (.func F_rule_pair_1) #[] #[.pointer (some ⟨b_1_1, 0, none⟩), .pointer (some ⟨b_1_2, 0, none⟩)], FnV.mk (.func F_rule_pair_1) #[] #[.pointer (some ⟨b_1_3, 0, none⟩), .pointer (some ⟨b_1_4, 0, none⟩)]]), oB b_1_1 T_int [.int .i64 a1_0], oB b_1_2 T_int [.int .i64 a1_1], oB b_1_3 T_int [.int .i64 a1_2], oB b_1_4 T_int [.int .i64 a1_3]] := S.lit hBw25 hw25 (by simp)
  obtain ⟨ha30, H⟩ := chk_ex H
  have ha30 := of_decide_eq_true ha30
  refine wl_appends (C := IC) sl_L_int el_int rfl rfl (S.sl 2) (S.rdO 0) (by simp) (fun a _ v hv => by rw [List.mem_singleton.1 hv]; rfl) ha30 (by omega) (by decide) fun s29 w28 O hw28 gw28 => ?_
  replace S : St A N w w28 [oS T_int 1 IC s29 ((([] : List Int) ++ [r6.2.1]) ++ [r21.2.1]), oS T_int 1 IC s27 ([r21.2.1]), oT a_0 r21.1, oS T_int 1 IC s12 ([r6.2.1])] [fS 1 IC SlV.nil ([]), fS 1 FC s_1 ([FnV.mk (.func F_rule_pair_1) #[] #[.pointer (some ⟨b_1_1, 0, none⟩), .pointer (some ⟨b_1_2, 0, none⟩)], FnV.mk (.func F_rule_pair_1) #[] #[.pointer (some ⟨b_1_3, 0, none⟩), .pointer (some ⟨b_1_4, 0, none⟩)]]), oB b_1_1 T_int [.int .i64 a1_0], oB b_1_2 T_int [.int .i64 a1_1], oB b_1_3 T_int [.int .i64 a1_2], oB b_1_4 T_int [.int .i64 a1_3]] := S.push 2 O (by first | (simp; done) | (simp; omega)) hw28 gw28
  clear O
  refine wd (does_as_l rfl) ?_
  refine wl_nil ?_
  refine wc_region ?_
  refine wd (does_addc rfl rfl (c := 2) rfl (by decide) (by decide)) ?_
  refine wd (does_mv_i rfl) ?_
  refine wl_nil ?_
  refine ⟨rfl, ?_⟩
  refine rounds_s ?_
  refine wc_seq (wc_region ?_)
  refine wd (does_lt rfl rfl) ?_
  refine wl_nil ?_
  refine wc_seq ?_
  refine wc_false rfl ?_
  refine wc_exit ?_
  refine wc_seq (wc_region ?_)
  refine wd (does_mv_l rfl) ?_
  refine wd (does_as_l rfl) ?_
  refine wd (does_as_i rfl) ?_
  refine wl_nil ?_
  refine wc_ret ?_
  refine ⟨_, (rets2 (retOne_tmp rfl) (retOne_tmp rfl)), ?_⟩
  replace S : St A N w w28 [oT a_0 r21.1, oS T_int 1 IC s29 ((([] : List Int) ++ [r6.2.1]) ++ [r21.2.1])] [] := S.arr [2, 0] []
  obtain rfl := Option.some.inj H
  exact ⟨s29, rfl, S⟩
theorem rule_imps__rule_pair_1_st {A : Nat → Prop} {N : Oth} {w : World} {a0 : Tb} {a_0 : Option Addr} {a1_0 : Int} {a1_1 : Int} {s_1 : SlV} {b_1_1 : Nat} {b_1_2 : Nat} (S : St A N w w [oT a_0 a0] [fS 1 FC s_1 ([FnV.mk (.func F_rule_pair_1) #[] #[.pointer (some ⟨b_1_1, 0, none⟩), .pointer (some ⟨b_1_2, 0, none⟩)]]), oB b_1_1 T_int [.int .i64 a1_0], oB b_1_2 T_int [.int .i64 a1_1]]) {r : Tb × List Int × Int} (H : rule_imps__rule_pair_1.f a0 a1_0 a1_1 = some r) :
    Calls PP F_rule_imps #[.pointer a_0, s_1.v] w fun e w' => ∃ v, e = .returned v ∧ (∃ so0 : SlV, v = .tuple #[so0.v, .int .i64 r.2.2] ∧ St A N w w' [oT a_0 r.1, oS T_int 1 IC so0 r.2.1] []) := by
  unfold rule_imps__rule_pair_1.f at H
  refine calls_of_wc (n := 41) fn_rule_imps rfl rfl (by simp) ?_
  refine wc_seq (wc_region ?_)
  refine wd (does_as_nil) ?_
  refine wd (does_as_i rfl) ?_
  refine wl_nil ?_
  refine wc_seq (wc_region ?_)
  refine wd (does_as_nil) ?_
  refine wl_nil ?_
  refine wc_seq (wc_seq (wc_region ?_))
  refine wd (does_mv_l rfl) ?_
  refine wd (does_lenR sl_L_func_L_int_int_int rfl (S.rd 0)) ?_
  refine wd (does_mv_i rfl) ?_
  refine wl_nil ?_
  refine wc_block ?_
  refine wc_rounds 2 ?_
  refine rounds_s ?_
  refine wc_seq (wc_region ?_)
  refine wd (does_lt rfl rfl) ?_
  refine wl_nil ?_
  refine wc_seq ?_
  refine wc_true rfl ?_
  refine wc_skip ?_
  refine wc_seq ?_
  refine wc_block ?_
  refine wc_seq (wc_region ?_)
  refine wd (does_indexR sl_L_func_L_int_int_int rfl rfl (S.rd 0) (by decide) (by simp)) ?_
  refine wd (does_load on_func_L_int_int_int rfl ((S.rd 0).one (at_some FnV.nil (And.intro (by decide) (by simp))) rfl)) ?_
  refine wd (does_as_f rfl) ?_
  refine wl_nil ?_
  refine wc_seq (wc_region ?_)
  refine wd (does_mv_f rfl) ?_
  refine wd (does_mv_l rfl) ?_
  replace S : St A N w w [oT a_0 a0] [fS 1 IC SlV.nil ([]), fS 1 FC s_1 ([FnV.mk (.func F_rule_pair_1) #[] #[.pointer (some ⟨b_1_1, 0, none⟩), .pointer (some ⟨b_1_2, 0, none⟩)]]), oB b_1_1 T_int [.int .i64 a1_0], oB b_1_2 T_int [.int .i64 a1_1]] := S.nilZ 1 IC
  obtain ⟨r3, er3, H⟩ := bind_ex H
  obtain ⟨B5, MB5, SB5, back⟩ := S.calln 0 ((.z 0 rfl (.z 2 rfl (.z 3 rfl .nil))))
  refine wl_call (does_callv ca_rule_pair_1 rfl) (by decide) (rule_pair_1_st SB5 er3) ?_
  rintro _ w4 ⟨rfl, S2⟩
  replace S : St A N w w4 [oT a_0 a0] [fS 1 IC SlV.nil ([]), fS 1 FC s_1 ([FnV.mk (.func F_rule_pair_1) #[] #[.pointer (some ⟨b_1_1, 0, none⟩), .pointer (some ⟨b_1_2, 0, none⟩)]]), oB b_1_1 T_int [.int .i64 a1_0], oB b_1_2 T_int [.int .i64 a1_1]] := back _ _ _ _ S2 rfl
  clear back S2 SB5
  refine wd (does_mv_t rfl) ?_
  refine wd (does_extract rfl rfl) ?_
  refine wd (does_extract rfl rfl) ?_
  refine wd (does_as_i rfl) ?_
  refine wd (does_as_i rfl) ?_
  refine wl_nil ?_
  refine wc_seq (wc_region ?_)
  refine wd (does_mv_p rfl) ?_
  refine wd (does_mv_i rfl) ?_
  refine wd (does_mv_i rfl) ?_
  obtain ⟨r6, er6, H⟩ := bind_ex H
  obtain ⟨B8, MB8, SB8, back⟩ := S.calln 1 ((.nil))
  refine wl_call (does_call ca_formula_Table_Imp) (by decide) (formula_Table_Imp_st SB8 er6) ?_
  rintro _ w7 ⟨rfl, S2⟩
  replace S : St A N w w7 [oT a_0 r6.1] [fS 1 IC SlV.nil ([]), fS 1 FC s_1 ([FnV.mk (.func F_rule_pair_1) #[] #[.pointer (some ⟨b_1_1, 0, none⟩), .pointer (some ⟨b_1_2, 0, none⟩)]]), oB b_1_1 T_int [.int .i64 a1_0], oB b_1_2 T_int [.int .i64 a1_1]] := back _ _ _ _ S2 rfl
  clear back S2 SB8
  refine wd (does_mv_t rfl) ?_
  refine wd (does_extract rfl rfl) ?_
  refine wd (does_extract rfl rfl) ?_
  refine wd (does_as_i rfl) ?_
  refine wd (does_as_i rfl) ?_
  refine wl_nil ?_
  refine wc_seq (wc_seq (wc_region ?_))
  refine wd (does_mv_i rfl) ?_
  refine wd (does_ne rfl rfl) ?_
  refine wl_nil ?_
  refine wc_if rfl (fun hc9 => ?_) (fun hc9 => ?_)
  · replace H := if_t hc9 H
    refine wc_seq (wc_region ?_)
    refine wd (does_mv_i rfl) ?_
    refine wd (does_as_nil) ?_
    refine wd (does_as_i rfl) ?_
    refine wl_nil ?_
    refine wc_ret ?_
    replace S : St A N w w7 [oS T_int 1 IC SlV.nil ([] : List Int), oT a_0 r6.1] [fS 1 IC SlV.nil ([]), fS 1 FC s_1 ([FnV.mk (.func F_rule_pair_1) #[] #[.pointer (some ⟨b_1_1, 0, none⟩), .pointer (some ⟨b_1_2, 0, none⟩)]]), oB b_1_1 T_int [.int .i64 a1_0], oB b_1_2 T_int [.int .i64 a1_1]] := S.nil T_int 1 IC
    refine ⟨_, (rets2 (retOne_tmp rfl) (retOne_tmp rfl)), ?_⟩
    replace S : St A N w w7 [oT a_0 r6.1, oS T_int 1 IC SlV.nil ([] : List Int)] [] := S.arr [1, 0] []
    obtain rfl := Option.some.inj H
    exact ⟨SlV.nil, rfl, S⟩
  replace H := if_f hc9 H
  refine wc_skip ?_
  refine wc_region ?_
  refine wd (does_mv_l rfl) ?_
  refine wd (does_mv_i rfl) ?_
  refine wl_lits (C := IC) (l := [r6.2.1]) (vs := [.int .i64 r6.2.1]) sl_L_int el_int.zero rfl rfl (fun _ _ => rfl) (by decide) rfl (by decide) fun b11 w10 s12 hBw10 hw10 => ?_
  replace S : St A N w w10 [oS T_int 1 IC s12 ([r6.2.1]), oT a_0 r6.1] [fS 1 IC SlV.nil ([]), fS 1 FC s_1 ([FnV.mk (.func F_rule_pair_1) #[] #[.pointer (some ⟨b_1_1, 0, none⟩), .pointer (some ⟨b_1_2, 0, none⟩)]]), oB b_1_1 T_int [.int .i64 a1_0], oB b_1_2 T_int [.int .i64 a1_1]] := S.lit hBw10 hw10 (by simp)
  replace S : St A N w w10 [oS T_int 1 IC SlV.nil ([] : List Int), oS T_int 1 IC s12 ([r6.2.1]), oT a_0 r6.1] [fS 1 IC SlV.nil ([]), fS 1 FC s_1 ([FnV.mk (.func F_rule_pair_1) #[] #[.pointer (some ⟨b_1_1, 0, none⟩), .pointer (some ⟨b_1_2, 0, none⟩)]]), oB b_1_1 T_int [.int .i64 a1_0], oB b_1_2 T_int [.int .i64 a1_1]] := S.nil T_int 1 IC
  obtain ⟨ha15, H⟩ := chk_ex H
  have ha15 := of_decide_eq_true ha15
  refine wl_appends (C := IC) sl_L_int el_int rfl rfl (S.sl 0) (S.rdO 1) (by simp) (fun a _ v hv => by rw [List.mem_singleton.1 hv]; rfl) ha15 (by omega) (by decide) fun s14 w13 O hw13 gw13 => ?_
  replace S : St A N w w13 [oS T_int 1 IC s14 (([] : List Int) ++ [r6.2.1]), oS T_int 1 IC s12 ([r6.2.1]), oT a_0 r6.1] [fS 1 IC SlV.nil ([]), fS 1 FC s_1 ([FnV.mk (.func F_rule_pair_1) #[] #[.pointer (some ⟨b_1_1, 0, none⟩), .pointer (some ⟨b_1_2, 0, none⟩)]]), oB b_1_1 T_int [.int .i64 a1_0], oB b_1_2 T_int [.int .i64 a1_1]] := S.push 0 O (by first | (simp; done) | (simp; omega)) hw13 gw13
  clear O
  refine wd (does_as_l rfl) ?_
  refine wl_nil ?_
  refine wc_region ?_
  refine wd (does_addc rfl rfl (c := 1) rfl (by decide) (by decide)) ?_
  refine wd (does_mv_i rfl) ?_
  refine wl_nil ?_
  refine ⟨rfl, ?_⟩
  refine rounds_s ?_
  refine wc_seq (wc_region ?_)
  refine wd (does_lt rfl rfl) ?_
  refine wl_nil ?_
  refine wc_seq ?_
  refine wc_false rfl ?_
  refine wc_exit ?_
  refine wc_seq (wc_region ?_)
  refine wd (does_mv_l rfl) ?_
  refine wd (does_as_l rfl) ?_
  refine wd (does_as_i rfl) ?_
  refine wl_nil ?_
  refine wc_ret ?_
  refine ⟨_, (rets2 (retOne_tmp rfl) (retOne_tmp rfl)), ?_⟩
  replace S : St A N w w13 [oT a_0 r6.1, oS T_int 1 IC s14 (([] : List Int) ++ [r6.2.1])] [] := S.arr [2, 0] []
  obtain rfl := Option.some.inj H
  exact ⟨s14, rfl, S⟩
theorem rule_premises_st {A : Nat → Prop} {N : Oth} {w : World} {a0 : Tb} {a_0 : Option Addr} {a1 : Sq} {a2 : Int} {a3 : Int} (S : St A N w w [oT a_0 a0] []) {r : Tb × List Sq × Int} (H : rule_premises.f a0 a1 a2 a3 = some r) :
    Calls PP F_rule_premises #[.pointer a_0, .agg (Sq.C a1).toArray, .int .i64 a2, .int .i64 a3] w fun e w' => ∃ v, e = .returned v ∧ (∃ so0 : SlV, v = .tuple #[so0.v, .int .i64 r.2.2] ∧ St A N w w' [oT a_0 r.1, oS T_Sq 17 Sq.C so0 r.2.1] []) := by
  unfold rule_premises.f at H
  refine calls_of_wc (n := 181) fn_rule_premises rfl rfl (by simp) ?_
  refine wc_seq (wc_region ?_)
  refine wl_box_agg rfl (by decide) fun b2 w1 hw1 => ?_
  replace S : St A N w w1 [oB b2 T_Sq (Sq.C a1), oT a_0 a0] [] := S.new hw1
  refine wd (does_as_nil) ?_
  refine wd (does_as_i rfl) ?_
  refine wl_nil ?_
  refine wc_seq (wc_region ?_)
  refine wd (does_mv_p rfl) ?_
  refine wd (does_mv_i rfl) ?_
  obtain ⟨r3, er3, H⟩ := bind_ex H
  obtain ⟨B5, MB5, SB5, back⟩ := S.calln 0 ((.o 1 rfl .nil))
  refine wl_call (does_call ca_rule_node) (by decide) (rule_node_st SB5 er3) ?_
  rintro _ w4 ⟨rfl, S2⟩
  replace S : St A N w w4 [oB b2 T_Sq (Sq.C a1), oT a_0 a0] [] := back _ _ _ _ S2 rfl
  clear back S2 SB5
  refine wl_alloc ze_Nd (by decide) fun b7 w6 hw6 => ?_
  replace S : St A N w w6 [oB b7 T_Nd (Nd.C Nd.z), oB b2 T_Sq (Sq.C a1), oT a_0 a0] [] := S.new hw6
  refine wl_store_agg ag_Nd rfl rfl (S.blk 0) (Nd.len _) (by rw [Nd.len]; decide) (Nd.one _) (store_all (Nd.len _)) fun w8 B hw8 zw8 => ?_
  replace S : St A N w w8 [oB b7 T_Nd (Nd.C r3), oB b2 T_Sq (Sq.C a1), oT a_0 a0] [] := S.store 0 B hw8
  clear B
  refine wl_nil ?_
  refine wc_seq (wc_region ?_)
  refine wd (does_mv_p rfl) ?_
  refine wd (does_fieldAddr fl_Nd_l rfl (o' := 2) rfl) ?_
  refine wd (does_load on_int rfl ((S.blk 0).cell (Nd.get_l _))) ?_
  obtain ⟨r9, er9, H⟩ := bind_ex H
  obtain ⟨B11, MB11, SB11, back⟩ := S.calln 0 ((.o 2 rfl .nil))
  refine wl_call (does_call ca_rule_node) (by decide) (rule_node_st SB11 er9) ?_
  rintro _ w10 ⟨rfl, S2⟩
  replace S : St A N w w10 [oB b7 T_Nd (Nd.C r3), oB b2 T_Sq (Sq.C a1), oT a_0 a0] [] := back _ _ _ _ S2 rfl
  clear back S2 SB11
  refine wl_alloc ze_Nd (by decide) fun b13 w12 hw12 => ?_
  replace S : St A N w w12 [oB b13 T_Nd (Nd.C Nd.z), oB b7 T_Nd (Nd.C r3), oB b2 T_Sq (Sq.C a1), oT a_0 a0] [] := S.new hw12
  refine wl_store_agg ag_Nd rfl rfl (S.blk 0) (Nd.len _) (by rw [Nd.len]; decide) (Nd.one _) (store_all (Nd.len _)) fun w14 B hw14 zw14 => ?_
  replace S : St A N w w14 [oB b13 T_Nd (Nd.C r9), oB b7 T_Nd (Nd.C r3), oB b2 T_Sq (Sq.C a1), oT a_0 a0] [] := S.store 0 B hw14
  clear B
  refine wl_nil ?_
  refine wc_seq (wc_region ?_)
  refine wd (does_load_agg ag_Sq rfl ((S.blk 2).all _ (Sq.len _)) (Sq.len _)) ?_
  refine wl_alloc ze_Sq (by decide) fun b16 w15 hw15 => ?_
  replace S : St A N w w15 [oB b16 T_Sq (Sq.C Sq.z), oB b13 T_Nd (Nd.C r9), oB b7 T_Nd (Nd.C r3), oB b2 T_Sq (Sq.C a1), oT a_0 a0] [] := S.new hw15
  refine wl_store_agg ag_Sq rfl rfl (S.blk 0) (Sq.len _) (by rw [Sq.len]; decide) (Sq.one _) (store_all (Sq.len _)) fun w17 B hw17 zw17 => ?_
  replace S : St A N w w17 [oB b16 T_Sq (Sq.C a1), oB b13 T_Nd (Nd.C r9), oB b7 T_Nd (Nd.C r3), oB b2 T_Sq (Sq.C a1), oT a_0 a0] [] := S.store 0 B hw17
  clear B
  refine wl_nil ?_
  refine wc_seq (wc_region ?_)
  refine wd (does_fieldAddr fl_Sq_left rfl (o' := 0) rfl) ?_
  refine wd (does_load_agg ag_Bits rfl ((S.blk 3).cells (Sq.sub_left _)) (Bits.len _)) ?_
  refine wd (does_mv_i rfl) ?_
  obtain ⟨r18, er18, H⟩ := bind_ex H
  obtain ⟨B20, MB20, SB20, back⟩ := S.calln 0 ((.nil))
  refine wl_call (does_call ca_bits_Drop) (by decide) (bits_Drop_st SB20 er18) ?_
  rintro _ w19 ⟨rfl, S2⟩
  replace S : St A N w w19 [oB b16 T_Sq (Sq.C a1), oB b13 T_Nd (Nd.C r9), oB b7 T_Nd (Nd.C r3), oB b2 T_Sq (Sq.C a1), oT a_0 a0] [] := back _ _ _ _ S2 rfl
  clear back S2 SB20
  refine wd (does_fieldAddr fl_Sq_left rfl (o' := 0) rfl) ?_
  refine wl_store_agg ag_Bits rfl rfl (S.blk 0) (Bits.len _) (by rw [Sq.len]; decide) (Bits.one _) (Sq.put_left _ _) fun w21 B hw21 zw21 => ?_
  replace S : St A N w w21 [oB b16 T_Sq (Sq.C ({ a1 with left := r18 })), oB b13 T_Nd (Nd.C r9), oB b7 T_Nd (Nd.C r3), oB b2 T_Sq (Sq.C a1), oT a_0 a0] [] := S.store 0 B hw21
  clear B
  refine wl_nil ?_
  refine wc_seq (wc_seq (wc_region ?_))
  refine wd (does_mv_i rfl) ?_
  refine wl_nil ?_
  refine wc_block ?_
  refine wc_seq (wc_region ?_)
  refine wd (does_eq rfl rfl) ?_
  refine wd (does_as_b rfl) ?_
  refine wl_nil ?_
  refine wc_if rfl (fun hc22 => ?_) (fun hc22 => ?_)
  · replace H := if_t hc22 H
    refine wc_seq (wc_region ?_)
    refine wd (does_load_agg ag_Sq rfl ((S.blk 0).all _ (Sq.len _)) (Sq.len _)) ?_
    refine wd (does_fieldAddr fl_Nd_l rfl (o' := 2) rfl) ?_
    refine wd (does_load on_int rfl ((S.blk 2).cell (Nd.get_l _))) ?_
    refine wd (does_fieldAddr fl_Nd_r rfl (o' := 3) rfl) ?_
    refine wd (does_load on_int rfl ((S.blk 2).cell (Nd.get_r _))) ?_
    refine wl_lits (C := IC) (l := [r3.l, r3.r]) (vs := [.int .i64 r3.l, .int .i64 r3.r]) sl_L_int el_int.zero rfl rfl (fun _ _ => rfl) (by decide) rfl (by decide) fun b24 w23 s25 hBw23 hw23 => ?_
    replace S : St A N w w23 [oS T_int 1 IC s25 ([r3.l, r3.r]), oB b16 T_Sq (Sq.C ({ a1 with left := r18 })), oB b13 T_Nd (Nd.C r9), oB b7 T_Nd (Nd.C r3), oB b2 T_Sq (Sq.C a1), oT a_0 a0] [] := S.lit hBw23 hw23 (by simp)
    obtain ⟨r26, er26, H⟩ := bind_ex H
    obtain ⟨B28, MB28, SB28, back⟩ := S.calln 0 ((.s 0 rfl .nil))
    refine wl_call (does_call ca_rule_with) (by decide) (rule_with_st SB28 er26) ?_
    rintro _ w27 ⟨rfl, S2⟩
    replace S : St A N w w27 [oS T_int 1 IC s25 ([r3.l, r3.r]), oB b16 T_Sq (Sq.C ({ a1 with left := r18 })), oB b13 T_Nd (Nd.C r9), oB b7 T_Nd (Nd.C r3), oB b2 T_Sq (Sq.C a1), oT a_0 a0] [] := back _ _ _ _ S2 rfl
    clear back S2 SB28
    refine wl_lits (C := Sq.C) (l := [r26]) (vs := [.agg (Sq.C r26).toArray]) sl_L_api_Seq el_Sq.zero rfl rfl (fun a _ => Sq.len a) (by decide) rfl (by decide) fun b30 w29 s31 hBw29 hw29 => ?_
    replace S : St A N w w29 [oS T_Sq 17 Sq.C s31 ([r26]), oS T_int 1 IC s25 ([r3.l, r3.r]), oB b16 T_Sq (Sq.C ({ a1 with left := r18 })), oB b13 T_Nd (Nd.C r9), oB b7 T_Nd (Nd.C r3), oB b2 T_Sq (Sq.C a1), oT a_0 a0] [] := S.lit hBw29 hw29 (by simp)
    refine wd (does_as_l rfl) ?_
    refine wd (does_as_i rfl) ?_
    refine wl_nil ?_
    refine wc_ret ?_
    refine ⟨_, (rets2 (retOne_tmp rfl) (retOne_tmp rfl)), ?_⟩
    replace S : St A N w w29 [oT a_0 a0, oS T_Sq 17 Sq.C s31 ([r26])] [] := S.arr [6, 0] []
    obtain rfl := Option.some.inj H
    exact ⟨s31, rfl, S⟩
  replace H := if_f hc22 H
  refine wc_seq (wc_region ?_)
  refine wd (does_eq rfl rfl) ?_
  refine wd (does_as_b rfl) ?_
  refine wl_nil ?_
  refine wc_if rfl (fun hc32 => ?_) (fun hc32 => ?_)
  · replace H := if_t hc32 H
    refine wc_seq (wc_region ?_)
    refine wd (does_load_agg ag_Sq rfl ((S.blk 0).all _ (Sq.len _)) (Sq.len _)) ?_
    refine wd (does_fieldAddr fl_Nd_r rfl (o' := 3) rfl) ?_
    refine wd (does_load on_int rfl ((S.blk 2).cell (Nd.get_r _))) ?_
    refine wl_lits (C := IC) (l := [r3.r]) (vs := [.int .i64 r3.r]) sl_L_int el_int.zero rfl rfl (fun _ _ => rfl) (by decide) rfl (by decide) fun b34 w33 s35 hBw33 hw33 => ?_
    replace S : St A N w w33 [oS T_int 1 IC s35 ([r3.r]), oB b16 T_Sq (Sq.C ({ a1 with left := r18 })), oB b13 T_Nd (Nd.C r9), oB b7 T_Nd (Nd.C r3), oB b2 T_Sq (Sq.C a1), oT a_0 a0] [] := S.lit hBw33 hw33 (by simp)
    obtain ⟨r36, er36, H⟩ := bind_ex H
    obtain ⟨B38, MB38, SB38, back⟩ := S.calln 0 ((.s 0 rfl .nil))
    refine wl_call (does_call ca_rule_with) (by decide) (rule_with_st SB38 er36) ?_
    rintro _ w37 ⟨rfl, S2⟩
    replace S : St A N w w37 [oS T_int 1 IC s35 ([r3.r]), oB b16 T_Sq (Sq.C ({ a1 with left := r18 })), oB b13 T_Nd (Nd.C r9), oB b7 T_Nd (Nd.C r3), oB b2 T_Sq (Sq.C a1), oT a_0 a0] [] := back _ _ _ _ S2 rfl
    clear back S2 SB38
    refine wl_lits (C := Sq.C) (l := [r36]) (vs := [.agg (Sq.C r36).toArray]) sl_L_api_Seq el_Sq.zero rfl rfl (fun a _ => Sq.len a) (by decide) rfl (by decide) fun b40 w39 s41 hBw39 hw39 => ?_
    replace S : St A N w w39 [oS T_Sq 17 Sq.C s41 ([r36]), oS T_int 1 IC s35 ([r3.r]), oB b16 T_Sq (Sq.C ({ a1 with left := r18 })), oB b13 T_Nd (Nd.C r9), oB b7 T_Nd (Nd.C r3), oB b2 T_Sq (Sq.C a1), oT a_0 a0] [] := S.lit hBw39 hw39 (by simp)
    refine wd (does_as_l rfl) ?_
    refine wd (does_as_i rfl) ?_
    refine wl_nil ?_
    refine wc_ret ?_
    refine ⟨_, (rets2 (retOne_tmp rfl) (retOne_tmp rfl)), ?_⟩
    replace S : St A N w w39 [oT a_0 a0, oS T_Sq 17 Sq.C s41 ([r36])] [] := S.arr [6, 0] []
    obtain rfl := Option.some.inj H
    exact ⟨s41, rfl, S⟩
  replace H := if_f hc32 H
  refine wc_seq (wc_region ?_)
  refine wd (does_eq rfl rfl) ?_
  refine wd (does_as_b rfl) ?_
  refine wl_nil ?_
  refine wc_if rfl (fun hc42 => ?_) (fun hc42 => ?_)
  · replace H := if_t hc42 H
    refine wc_seq (wc_region ?_)
    refine wd (does_load_agg ag_Sq rfl ((S.blk 0).all _ (Sq.len _)) (Sq.len _)) ?_
    refine wl_lits (C := Sq.C) (l := [{ a1 with left := r18 }]) (vs := [.agg (Sq.C ({ a1 with left := r18 })).toArray]) sl_L_api_Seq el_Sq.zero rfl rfl (fun a _ => Sq.len a) (by decide) rfl (by decide) fun b44 w43 s45 hBw43 hw43 => ?_
    replace S : St A N w w43 [oS T_Sq 17 Sq.C s45 ([{ a1 with left := r18 }]), oB b16 T_Sq (Sq.C ({ a1 with left := r18 })), oB b13 T_Nd (Nd.C r9), oB b7 T_Nd (Nd.C r3), oB b2 T_Sq (Sq.C a1), oT a_0 a0] [] := S.lit hBw43 hw43 (by simp)
    refine wd (does_as_l rfl) ?_
    refine wd (does_as_i rfl) ?_
    refine wl_nil ?_
    refine wc_ret ?_
    refine ⟨_, (rets2 (retOne_tmp rfl) (retOne_tmp rfl)), ?_⟩
    replace S : St A N w w43 [oT a_0 a0, oS T_Sq 17 Sq.C s45 ([{ a1 with left := r18 }])] [] := S.arr [5, 0] []
    obtain rfl := Option.some.inj H
    exact ⟨s45, rfl, S⟩
  replace H := if_f hc42 H
  refine wc_seq (wc_region ?_)
  refine wd (does_eq rfl rfl) ?_
  refine wd (does_as_b rfl) ?_
  refine wl_nil ?_
  refine wc_if rfl (fun hc46 => ?_) (fun hc46 => ?_)
  · replace H := if_t hc46 H
    refine wc_seq (wc_region ?_)
    refine wd (does_mv_p rfl) ?_
    refine wd (does_fieldAddr fl_Nd_r rfl (o' := 3) rfl) ?_
    refine wd (does_load on_int rfl ((S.blk 1).cell (Nd.get_r _))) ?_
    refine wd (does_fieldAddr fl_Nd_r rfl (o' := 3) rfl) ?_
    refine wd (does_load on_int rfl ((S.blk 2).cell (Nd.get_r _))) ?_
    obtain ⟨r47, er47, H⟩ := bind_ex H
    obtain ⟨B49, MB49, SB49, back⟩ := S.sub [] [] [oB b16 T_Sq (Sq.C ({ a1 with left := r18 })), oB b13 T_Nd (Nd.C r9), oB b7 T_Nd (Nd.C r3), oB b2 T_Sq (Sq.C a1), oT a_0 a0]
    refine wl_call (does_call ca_rule_pair) (by decide) (rule_pair_st SB49 er47) ?_
    rintro _ w48 ⟨b50, b51, rfl, hnww48, S2⟩
    replace S : St A N w w48 [oB b16 T_Sq (Sq.C ({ a1 with left := r18 })), oB b13 T_Nd (Nd.C r9), oB b7 T_Nd (Nd.C r3), oB b2 T_Sq (Sq.C a1), oT a_0 a0] [oB b50 T_int [.int .i64 r47.1], oB b51 T_int [.int .i64 r47.2]] := back _ _ _ _ _ S2 rfl rfl
    clear back S2 SB49
    refine wd (does_funcl) ?_
    refine wl_lits (C := FC) (l := [FnV.mk (.func F_rule_pair_1) #[] #[.pointer (some ⟨b50, 0, none⟩), .pointer (some ⟨b51, 0, none⟩)], FnV.mk (.func F_rule_premises_1) #[] #[.pointer (some ⟨b13, 0, none⟩)]]) (vs := [.func (.func F_rule_pair_1) #[] #[.pointer (some ⟨b50, 0, none⟩), .pointer (some ⟨b51, 0, none⟩)], .func (.func F_rule_premises_1) #[] #[.pointer (some ⟨b13, 0, none⟩)]]) sl_L_func_L_int_int_int el_func_L_int_int_int.zero rfl rfl (fun _ _ => rfl) (by decide) rfl (by decide) fun b53 w52 s54 hBw52 hw52 => ?_
    replace S : St A N w w52 [oS T_func_L_int_int_int 1 FC s54 ([FnV.mk (.func F_rule_pair_1) #[] #[.pointer (some ⟨b50, 0, none⟩), .pointer (some ⟨b51, 0, none⟩)], FnV.mk (.func F_rule_premises_1) #[] #[.pointer (some ⟨b13, 0, none⟩)]]), oB b16 T_Sq (Sq.C ({ a1 with left := r18 })), oB b13 T_Nd (Nd.C r9), oB b7 T_Nd (Nd.C r3), oB b2 T_Sq (Sq.C a1), oT a_0 a0] [oB b50 T_int [.int .i64 r47.1], oB b51 T_int [.int .i64 r47.2]] := S.lit hBw52 hw52 (by simp)
    obtain ⟨r55, er55, H⟩ := bind_ex H
    replace S : St A N w w52 [oT a_0 a0, oS T_func_L_int_int_int 1 FC s54 ([FnV.mk (.func F_rule_pair_1) #[] #[.pointer (some ⟨b50, 0, none⟩), .pointer (some ⟨b51, 0, none⟩)], FnV.mk (.func F_rule_premises_1) #[] #[.pointer (some ⟨b13, 0, none⟩)]]), oB b16 T_Sq (Sq.C ({ a1 with left := r18 })), oB b13 T_Nd (Nd.C r9), oB b7 T_Nd (Nd.C r3), oB b2 T_Sq (Sq.C a1)] [oB b50 T_int [.int .i64 r47.1], oB b51 T_int [.int .i64 r47.2]] := S.front 5
    obtain ⟨B57, MB57, SB57, back⟩ := S.calln 1 ((.s 0 rfl (.z 0 rfl (.z 1 rfl (.o 2 rfl .nil)))))
    refine wl_call (does_call ca_rule_imps) (by decide) (rule_imps__rule_pair_1__rule_premises_1_st SB57 er55) ?_
    rintro _ w56 ⟨s58, rfl, S2⟩
    replace S : St A N w w56 [oT a_0 r55.1, oS T_int 1 IC s58 r55.2.1, oS T_func_L_int_int_int 1 FC s54 ([FnV.mk (.func F_rule_pair_1) #[] #[.pointer (some ⟨b50, 0, none⟩), .pointer (some ⟨b51, 0, none⟩)], FnV.mk (.func F_rule_premises_1) #[] #[.pointer (some ⟨b13, 0, none⟩)]]), oB b16 T_Sq (Sq.C ({ a1 with left := r18 })), oB b13 T_Nd (Nd.C r9), oB b7 T_Nd (Nd.C r3), oB b2 T_Sq (Sq.C a1)] [oB b50 T_int [.int .i64 r47.1], oB b51 T_int [.int .i64 r47.2]] := back _ _ _ _ S2 rfl
    clear back S2 SB57
    refine wd (does_mv_t rfl) ?_
    refine wd (does_extract rfl rfl) ?_
    refine wd (does_extract rfl rfl) ?_
    refine wd (does_as_l rfl) ?_
    refine wd (does_as_i rfl) ?_
    refine wl_nil ?_
    refine wc_seq (wc_seq (wc_region ?_))
    refine wd (does_mv_i rfl) ?_
    refine wd (does_ne rfl rfl) ?_
    refine wl_nil ?_
    refine wc_if rfl (fun hc59 => ?_) (fun hc59 => ?_)
    · replace H := if_t hc59 H
      refine wc_seq (wc_region ?_)
      refine wd (does_mv_i rfl) ?_
      refine wd (does_as_nil) ?_
      refine wd (does_as_i rfl) ?_
      refine wl_nil ?_
      refine wc_ret ?_
      replace S : St A N w w56 [oS T_Sq 17 Sq.C SlV.nil ([] : List Sq), oT a_0 r55.1, oS T_int 1 IC s58 r55.2.1, oS T_func_L_int_int_int 1 FC s54 ([FnV.mk (.func F_rule_pair_1) #[] #[.pointer (some ⟨b50, 0, none⟩), .pointer (some ⟨b51, 0, none⟩)], FnV.mk (.func F_rule_premises_1) #[] #[.pointer (some ⟨b13, 0, none⟩)]]), oB b16 T_Sq (Sq.C ({ a1 with left := r18 })), oB b13 T_Nd (Nd.C r9), oB b7 T_Nd (Nd.C r3), oB b2 T_Sq (Sq.C a1)] [oB b50 T_int [.int .i64 r47.1], oB b51 T_int [.int .i64 r47.2]] := S.nil T_Sq 17 Sq.C
      refine ⟨_, (rets2 (retOne_tmp rfl) (retOne_tmp rfl)), ?_⟩
      replace S : St A N w w56 [oT a_0 r55.1, oS T_Sq 17 Sq.C SlV.nil ([] : List Sq)] [] := S.arr [1, 0] []
      obtain rfl := Option.some.inj H
      exact ⟨SlV.nil, rfl, S⟩
    replace H := if_f hc59 H
    refine wc_skip ?_
    refine wc_seq ?_
    obtain ⟨hi60, H⟩ := chk_ex H
    refine wc_semi 5 [4]
      (fun i v u => match i with
      | 4 => ∃ sl, v = SlV.v sl ∧ Rd u 1 sl ([at_ (0 : Int) r55.2.1 1].map IC) ∧ (∀ j, sl.fp j → w56.heap.size ≤ j)
      | _ => True) hmix (by kernel_rfl) (by kernel_rfl) ?_ ?_
    · intro i v u u' hi hx hv
      match i, hv with
      | 4, ⟨b, e1, hr, hl⟩ => exact ⟨b, e1, hr.ext hx, hl⟩
      | 0, _ => exact trivial
      | 1, _ => exact trivial
      | 2, _ => exact trivial
      | 3, _ => exact trivial
      | _ + 5, _ => exact trivial
    refine wm_does (fun v K => does_load_agg ag_Sq rfl (((S.ext K).blk 3).all _ (Sq.len _)) (Sq.len _)) rfl ?_
    refine wm_does (fun v K => does_mv_l rfl) rfl ?_
    refine wm_does (fun v K => does_indexR sl_L_int rfl rfl ((S.ext K).rdO 1) (inb_ex hi60).1 (inb_ex hi60).2) rfl ?_
    refine wm_does (fun v K => does_load on_int rfl (((S.ext K).rdO 1).one (at_some (0 : Int) (inb_ex hi60)) rfl)) rfl ?_
    refine wm_new (fun g v K G => (have ⟨sl, v', hd, hx, ho, hf⟩ := does_lits (C := IC) (l := [at_ (0 : Int) r55.2.1 1]) (vs := [.int .i64 (at_ (0 : Int) r55.2.1 1)]) sl_L_int el_int.zero rfl rfl (fun _ _ => rfl) (by first | decide | simp) rfl; ⟨_, v', hd, hx, sl, rfl, ho.toRd, (fun j hj => by have := hf j hj; have := K.size; omega)⟩)) rfl ?_
    refine wm_nil fun g w62 K hV => ?_
    obtain ⟨s61, hv634, hr4, hf4⟩ := hV 4 rfl (by decide)
    replace S : St A N w w62 [oT a_0 r55.1, oS T_int 1 IC s58 r55.2.1, oS T_func_L_int_int_int 1 FC s54 ([FnV.mk (.func F_rule_pair_1) #[] #[.pointer (some ⟨b50, 0, none⟩), .pointer (some ⟨b51, 0, none⟩)], FnV.mk (.func F_rule_premises_1) #[] #[.pointer (some ⟨b13, 0, none⟩)]]), oB b16 T_Sq (Sq.C ({ a1 with left := r18 })), oB b13 T_Nd (Nd.C r9), oB b7 T_Nd (Nd.C r3), oB b2 T_Sq (Sq.C a1)] [fS 1 IC s61 ([at_ (0 : Int) r55.2.1 1]), oB b50 T_int [.int .i64 r47.1], oB b51 T_int [.int .i64 r47.2]] := S.addZs K (.s hr4 (by simp) hf4 .nil)
    clear K hV
    obtain ⟨r64, er64, H⟩ := bind_ex H
    obtain ⟨B66, MB66, SB66, back⟩ := S.calln 0 ((.z 0 rfl .nil))
    refine wl_call (does_callg ca_rule_with (cons2 rfl (cons2 hv634 rfl))) (by decide) (rule_with_st SB66 er64) ?_
    rintro _ w65 ⟨rfl, S2⟩
    replace S : St A N w w65 [oT a_0 r55.1, oS T_int 1 IC s58 r55.2.1, oS T_func_L_int_int_int 1 FC s54 ([FnV.mk (.func F_rule_pair_1) #[] #[.pointer (some ⟨b50, 0, none⟩), .pointer (some ⟨b51, 0, none⟩)], FnV.mk (.func F_rule_premises_1) #[] #[.pointer (some ⟨b13, 0, none⟩)]]), oB b16 T_Sq (Sq.C ({ a1 with left := r18 })), oB b13 T_Nd (Nd.C r9), oB b7 T_Nd (Nd.C r3), oB b2 T_Sq (Sq.C a1)] [fS 1 IC s61 ([at_ (0 : Int) r55.2.1 1]), oB b50 T_int [.int .i64 r47.1], oB b51 T_int [.int .i64 r47.2]] := back _ _ _ _ S2 rfl
    clear back S2 SB66
    refine wl_lits (C := Sq.C) (l := [r64]) (vs := [.agg (Sq.C r64).toArray]) sl_L_api_Seq el_Sq.zero rfl rfl (fun a _ => Sq.len a) (by decide) rfl (by decide) fun b68 w67 s69 hBw67 hw67 => ?_
    replace S : St A N w w67 [oS T_Sq 17 Sq.C s69 ([r64]), oT a_0 r55.1, oS T_int 1 IC s58 r55.2.1, oS T_func_L_int_int_int 1 FC s54 ([FnV.mk (.func F_rule_pair_1) #[] #[.pointer (some ⟨b50, 0, none⟩), .pointer (some ⟨b51, 0, none⟩)], FnV.mk (.func F_rule_premises_1) #[] #[.pointer (some ⟨b13, 0, none⟩)]]), oB b16 T_Sq (Sq.C ({ a1 with left := r18 })), oB b13 T_Nd (Nd.C r9), oB b7 T_Nd (Nd.C r3), oB b2 T_Sq (Sq.C a1)] [fS 1 IC s61 ([at_ (0 : Int) r55.2.1 1]), oB b50 T_int [.int .i64 r47.1], oB b51 T_int [.int .i64 r47.2]] := S.lit hBw67 hw67 (by simp)
    refine wd (does_as_l rfl) ?_
    refine wd (does_as_i rfl) ?_
    refine wl_nil ?_
    refine wc_ret ?_
    refine ⟨_, (rets2 (retOne_tmp rfl) (retOne_tmp rfl)), ?_⟩
    replace S : St A N w w67 [oT a_0 r55.1, oS T_Sq 17 Sq.C s69 ([r64])] [] := S.arr [1, 0] []
    obtain rfl := Option.some.inj H
    exact ⟨s69, rfl, S⟩
  replace H := if_f hc46 H
  refine wc_seq (wc_region ?_)
  refine wd (does_eq rfl rfl) ?_
  refine wd (does_as_b rfl) ?_
  refine wl_nil ?_
  refine wc_if rfl (fun hc70 => ?_) (fun hc70 => ?_)
  · replace H := if_t hc70 H
    refine wc_seq ?_
    refine wc_ws hmix fun w78 K => ?_
    replace S := S.ext K
    clear K
    obtain ⟨r79, er79, H⟩ := bind_ex H
    obtain ⟨r82, er82, H⟩ := bind_ex H
    refine ws_semi 0 12 [5, 10, 11] (by kernel_rfl) (by decide) (by kernel_rfl)
     (V := fun i v u => match i with
      | 5 => ∃ b80 : Nat, ∃ b81 : Nat, v = Value.func (.func F_rule_pair_1) #[] #[.pointer (some ⟨b80, 0, none⟩), .pointer (some ⟨b81, 0, none⟩)] ∧ Blk u b80 T_int [.int .i64 r79.1] ∧ w78.heap.size ≤ b80 ∧ Blk u b81 T_int [.int .i64 r79.2] ∧ w78.heap.size ≤ b81
      | 10 => ∃ b83 : Nat, ∃ b84 : Nat, v = Value.func (.func F_rule_pair_1) #[] #[.pointer (some ⟨b83, 0, none⟩), .pointer (some ⟨b84, 0, none⟩)] ∧ Blk u b83 T_int [.int .i64 r82.1] ∧ w78.heap.size ≤ b83 ∧ Blk u b84 T_int [.int .i64 r82.2] ∧ w78.heap.size ≤ b84
      | 11 => ∃ sl, ∃ b80 : Nat, ∃ b81 : Nat, ∃ b83 : Nat, ∃ b84 : Nat, v = SlV.v sl ∧ Rd u 1 sl ([FnV.mk (.func F_rule_pair_1) #[] #[.pointer (some ⟨b80, 0, none⟩), .pointer (some ⟨b81, 0, none⟩)], FnV.mk (.func F_rule_pair_1) #[] #[.pointer (some ⟨b83, 0, none⟩), .pointer (some ⟨b84, 0, none⟩)]].map FC) ∧ (∀ j, sl.fp j → w78.heap.size ≤ j) ∧ Blk u b80 T_int [.int .i64 r79.1] ∧ w78.heap.size ≤ b80 ∧ Blk u b81 T_int [.int .i64 r79.2] ∧ w78.heap.size ≤ b81 ∧ Blk u b83 T_int [.int .i64 r82.1] ∧ w78.heap.size ≤ b83 ∧ Blk u b84 T_int [.int .i64 r82.2] ∧ w78.heap.size ≤ b84
      | _ => True) ?_ ?_
    · intro i v u u' hi hx hv
      match i, hv with
      | 5, ⟨b80, b81, e1, hbb80, hlb80, hbb81, hlb81⟩ => exact ⟨b80, b81, e1, hbb80.ext hx, hlb80, hbb81.ext hx, hlb81⟩
      | 10, ⟨b83, b84, e1, hbb83, hlb83, hbb84, hlb84⟩ => exact ⟨b83, b84, e1, hbb83.ext hx, hlb83, hbb84.ext hx, hlb84⟩
      | 11, ⟨b, b80, b81, b83, b84, e1, hr, hl, hbb80, hlb80, hbb81, hlb81, hbb83, hlb83, hbb84, hlb84⟩ => exact ⟨b, b80, b81, b83, b84, e1, hr.ext hx, hl, hbb80.ext hx, hlb80, hbb81.ext hx, hlb81, hbb83.ext hx, hlb83, hbb84.ext hx, hlb84⟩
      | 0, _ => exact trivial
      | 1, _ => exact trivial
      | 2, _ => exact trivial
      | 3, _ => exact trivial
      | 4, _ => exact trivial
      | 6, _ => exact trivial
      | 7, _ => exact trivial
      | 8, _ => exact trivial
      | 9, _ => exact trivial
      | _ + 12, _ => exact trivial
    refine wm_does (fun v K => does_mv_p rfl) rfl ?_
    refine wm_does (fun v K => does_fieldAddr fl_Nd_l rfl (o' := 2) rfl) rfl ?_
    refine wm_does (fun v K => does_load on_int rfl (((S.ext K).blk 1).cell (Nd.get_l _))) rfl ?_
    refine wm_does (fun v K => does_fieldAddr fl_Nd_r rfl (o' := 3) rfl) rfl ?_
    refine wm_does (fun v K => does_load on_int rfl (((S.ext K).blk 2).cell (Nd.get_r _))) rfl ?_
    refine wm_newcall (fun g v K G => (have ⟨M, SS⟩ := (S.ext K).lend ((.nil)); ⟨_, _, does_callg ca_rule_pair (cons2 rfl (cons2 rfl rfl)), newc (rule_pair_st SS er79) fun _ _ ⟨b80, b81, hv, h⟩ => ⟨h.2.frame, b80, b81, hv, (h.2.blkZ 0), (by have := h.1.1; have := K.size; omega), (h.2.blkZ 1), (by have := h.1.2; have := K.size; omega)⟩⟩)) rfl ?_
    refine wm_does (fun v K => does_fieldAddr fl_Nd_r rfl (o' := 3) rfl) rfl ?_
    refine wm_does (fun v K => does_load on_int rfl (((S.ext K).blk 1).cell (Nd.get_r _))) rfl ?_
    refine wm_does (fun v K => does_fieldAddr fl_Nd_r rfl (o' := 3) rfl) rfl ?_
    refine wm_does (fun v K => does_load on_int rfl (((S.ext K).blk 2).cell (Nd.get_r _))) rfl ?_
    refine wm_newcall (fun g v K G => (have ⟨M, SS⟩ := (S.ext K).lend ((.nil)); ⟨_, _, does_callg ca_rule_pair (cons2 rfl (cons2 rfl rfl)), newc (rule_pair_st SS er82) fun _ _ ⟨b83, b84, hv, h⟩ => ⟨h.2.frame, b83, b84, hv, (h.2.blkZ 0), (by have := h.1.1; have := K.size; omega), (h.2.blkZ 1), (by have := h.1.2; have := K.size; omega)⟩⟩)) rfl ?_
    refine wm_new (fun g v K G => (have ⟨b80, b81, hv5, hbb80, hlb80, hbb81, hlb81⟩ := G 5 (by decide) rfl; have ⟨b83, b84, hv10, hbb83, hlb83, hbb84, hlb84⟩ := G 10 (by decide) rfl; have ⟨sl, v', hd, hx, ho, hf⟩ := does_lits (C := FC) (l := [FnV.mk (.func F_rule_pair_1) #[] #[.pointer (some ⟨b80, 0, none⟩), .pointer (some ⟨b81, 0, none⟩)], FnV.mk (.func F_rule_pair_1) #[] #[.pointer (some ⟨b83, 0, none⟩), .pointer (some ⟨b84, 0, none⟩)]]) (vs := [.func (.func F_rule_pair_1) #[] #[.pointer (some ⟨b80, 0, none⟩), .pointer (some ⟨b81, 0, none⟩)], .func (.func F_rule_pair_1) #[] #[.pointer (some ⟨b83, 0, none⟩), .pointer (some ⟨b84, 0, none⟩)]]) sl_L_func_L_int_int_int el_func_L_int_int_int.zero (by exact (consP hv5 (consP hv10 rfl))) rfl (fun _ _ => rfl) (by first | decide | simp) rfl; ⟨_, v', hd, hx, sl, b80, b81, b83, b84, rfl, ho.toRd, (fun j hj => by have := hf j hj; have := K.size; omega), (hbb80.ext hx), hlb80, (hbb81.ext hx), hlb81, (hbb83.ext hx), hlb83, (hbb84.ext hx), hlb84⟩)) rfl ?_
    refine wm_nil fun g w86 K hV => ?_
    obtain ⟨s85, b80, b81, b83, b84, hv8711, hr11, hf11, hbb80, hlb80, hbb81, hlb81, hbb83, hlb83, hbb84, hlb84⟩ := hV 11 rfl (by decide)
    replace S : St A N w w86 [oB b16 T_Sq (Sq.C ({ a1 with left := r18 })), oB b13 T_Nd (Nd.C r9), oB b7 T_Nd (Nd.C r3), oB b2 T_Sq (Sq.C a1), oT a_0 a0] [fS 1 FC s85 ([FnV.mk (.func F_rule_pair_1) #[] #[.pointer (some ⟨b80, 0, none⟩), .pointer (some ⟨b81, 0, none⟩)], FnV.mk (.func F_rule_pair_1) #[] #[.pointer (some ⟨b83, 0, none⟩), .pointer (some ⟨b84, 0, none⟩)]]), oB b80 T_int [.int .i64 r79.1], oB b81 T_int [.int .i64 r79.2], oB b83 T_int [.int .i64 r82.1], oB b84 T_int [.int .i64 r82.2]] := S.addZs K (.s hr11 (by simp) hf11 (.b hbb80 hlb80 (.b hbb81 hlb81 (.b hbb83 hlb83 (.b hbb84 hlb84 .nil)))))
    clear K hV
    refine ws_chain 12 14 (by kernel_rfl) (by decide) ?_
    obtain ⟨r88, er88, H⟩ := bind_ex H
    replace S : St A N w w86 [oT a_0 a0, oB b16 T_Sq (Sq.C ({ a1 with left := r18 })), oB b13 T_Nd (Nd.C r9), oB b7 T_Nd (Nd.C r3), oB b2 T_Sq (Sq.C a1)] [fS 1 FC s85 ([FnV.mk (.func F_rule_pair_1) #[] #[.pointer (some ⟨b80, 0, none⟩), .pointer (some ⟨b81, 0, none⟩)], FnV.mk (.func F_rule_pair_1) #[] #[.pointer (some ⟨b83, 0, none⟩), .pointer (some ⟨b84, 0, none⟩)]]), oB b80 T_int [.int .i64 r79.1], oB b81 T_int [.int .i64 r79.2], oB b83 T_int [.int .i64 r82.1], oB b84 T_int [.int .i64 r82.2]] := S.front 4
    obtain ⟨B90, MB90, SB90, back⟩ := S.calln 1 ((.z 0 rfl (.z 1 rfl (.z 2 rfl (.z 3 rfl (.z 4 rfl .nil))))))
    refine wl_call (does_callg ca_rule_imps (cons2 rfl (cons2 hv8711 rfl))) (by decide) (rule_imps__rule_pair_1__rule_pair_1_st SB90 er88) ?_
    rintro _ w89 ⟨s91, rfl, S2⟩
    replace S : St A N w w89 [oT a_0 r88.1, oS T_int 1 IC s91 r88.2.1, oB b16 T_Sq (Sq.C ({ a1 with left := r18 })), oB b13 T_Nd (Nd.C r9), oB b7 T_Nd (Nd.C r3), oB b2 T_Sq (Sq.C a1)] [fS 1 FC s85 ([FnV.mk (.func F_rule_pair_1) #[] #[.pointer (some ⟨b80, 0, none⟩), .pointer (some ⟨b81, 0, none⟩)], FnV.mk (.func F_rule_pair_1) #[] #[.pointer (some ⟨b83, 0, none⟩), .pointer (some ⟨b84, 0, none⟩)]]), oB b80 T_int [.int .i64 r79.1], oB b81 T_int [.int .i64 r79.2], oB b83 T_int [.int .i64 r82.1], oB b84 T_int [.int .i64 r82.2]] := back _ _ _ _ S2 rfl
    clear back S2 SB90
    refine wd (does_mv_t rfl) ?_
    refine wl_nil ⟨rfl, ?_⟩
    refine ws_semi 14 17 [] (by kernel_rfl) (by decide) (by kernel_rfl)
     (V := fun i v u => match i with
      | _ => True) ?_ ?_
    · intro i v u u' hi hx hv
      match i, hv with
      | _, _ => exact trivial
    refine wm_does (fun v K => does_extract rfl rfl) rfl ?_
    refine wm_does (fun v K => does_extract rfl rfl) rfl ?_
    refine wm_does (fun v K => does_as_l rfl) rfl ?_
    refine wm_nil fun g w92 K hV => ?_
    replace S := S.ext K
    clear K hV
    refine ws_tail 17 (by kernel_rfl) (by decide) ?_
    refine wd (does_as_i rfl) ?_
    refine wl_nil ?_
    refine wc_seq (wc_seq (wc_region ?_))
    refine wd (does_mv_i rfl) ?_
    refine wd (does_ne rfl rfl) ?_
    refine wl_nil ?_
    refine wc_if rfl (fun hc94 => ?_) (fun hc94 => ?_)
    · replace H := if_t hc94 H
      refine wc_seq (wc_region ?_)
      refine wd (does_mv_i rfl) ?_
      refine wd (does_as_nil) ?_
      refine wd (does_as_i rfl) ?_
      refine wl_nil ?_
      refine wc_ret ?_
      replace S : St A N w w92 [oS T_Sq 17 Sq.C SlV.nil ([] : List Sq), oT a_0 r88.1, oS T_int 1 IC s91 r88.2.1, oB b16 T_Sq (Sq.C ({ a1 with left := r18 })), oB b13 T_Nd (Nd.C r9), oB b7 T_Nd (Nd.C r3), oB b2 T_Sq (Sq.C a1)] [fS 1 FC s85 ([FnV.mk (.func F_rule_pair_1) #[] #[.pointer (some ⟨b80, 0, none⟩), .pointer (some ⟨b81, 0, none⟩)], FnV.mk (.func F_rule_pair_1) #[] #[.pointer (some ⟨b83, 0, none⟩), .pointer (some ⟨b84, 0, none⟩)]]), oB b80 T_int [.int .i64 r79.1], oB b81 T_int [.int .i64 r79.2], oB b83 T_int [.int .i64 r82.1], oB b84 T_int [.int .i64 r82.2]] := S.nil T_Sq 17 Sq.C
      refine ⟨_, (rets2 (retOne_tmp rfl) (retOne_tmp rfl)), ?_⟩
      replace S : St A N w w92 [oT a_0 r88.1, oS T_Sq 17 Sq.C SlV.nil ([] : List Sq)] [] := S.arr [1, 0] []
      obtain rfl := Option.some.inj H
      exact ⟨SlV.nil, rfl, S⟩
    replace H := if_f hc94 H
    refine wc_skip ?_
    refine wc_seq (wc_region ?_)
    refine wd (does_load_agg ag_Sq rfl ((S.blk 2).all _ (Sq.len _)) (Sq.len _)) ?_
    refine wd (does_mv_l rfl) ?_
    obtain ⟨r95, er95, H⟩ := bind_ex H
    obtain ⟨B97, MB97, SB97, back⟩ := S.calln 0 ((.s 1 rfl .nil))
    refine wl_call (does_call ca_rule_with) (by decide) (rule_with_st SB97 er95) ?_
    rintro _ w96 ⟨rfl, S2⟩
    replace S : St A N w w96 [oT a_0 r88.1, oS T_int 1 IC s91 r88.2.1, oB b16 T_Sq (Sq.C ({ a1 with left := r18 })), oB b13 T_Nd (Nd.C r9), oB b7 T_Nd (Nd.C r3), oB b2 T_Sq (Sq.C a1)] [fS 1 FC s85 ([FnV.mk (.func F_rule_pair_1) #[] #[.pointer (some ⟨b80, 0, none⟩), .pointer (some ⟨b81, 0, none⟩)], FnV.mk (.func F_rule_pair_1) #[] #[.pointer (some ⟨b83, 0, none⟩), .pointer (some ⟨b84, 0, none⟩)]]), oB b80 T_int [.int .i64 r79.1], oB b81 T_int [.int .i64 r79.2], oB b83 T_int [.int .i64 r82.1], oB b84 T_int [.int .i64 r82.2]] := back _ _ _ _ S2 rfl
    clear back S2 SB97
    refine wl_lits (C := Sq.C) (l := [r95]) (vs := [.agg (Sq.C r95).toArray]) sl_L_api_Seq el_Sq.zero rfl rfl (fun a _ => Sq.len a) (by decide) rfl (by decide) fun b99 w98 s100 hBw98 hw98 => ?_
    replace S : St A N w w98 [oS T_Sq 17 Sq.C s100 ([r95]), oT a_0 r88.1, oS T_int 1 IC s91 r88.2.1, oB b16 T_Sq (Sq.C ({ a1 with left := r18 })), oB b13 T_Nd (Nd.C r9), oB b7 T_Nd (Nd.C r3), oB b2 T_Sq (Sq.C a1)] [fS 1 FC s85 ([FnV.mk (.func F_rule_pair_1) #[] #[.pointer (some ⟨b80, 0, none⟩), .pointer (some ⟨b81, 0, none⟩)], FnV.mk (.func F_rule_pair_1) #[] #[.pointer (some ⟨b83, 0, none⟩), .pointer (some ⟨b84, 0, none⟩)]]), oB b80 T_int [.int .i64 r79.1], oB b81 T_int [.int .i64 r79.2], oB b83 T_int [.int .i64 r82.1], oB b84 T_int [.int .i64 r82.2]] := S.lit hBw98 hw98 (by simp)
    refine wd (does_as_l rfl) ?_
    refine wd (does_as_i rfl) ?_
    refine wl_nil ?_
    refine wc_ret ?_
    refine ⟨_, (rets2 (retOne_tmp rfl) (retOne_tmp rfl)), ?_⟩
    replace S : St A N w w98 [oT a_0 r88.1, oS T_Sq 17 Sq.C s100 ([r95])] [] := S.arr [1, 0] []
    obtain rfl := Option.some.inj H
    exact ⟨s100, rfl, S⟩
  replace H := if_f hc70 H
  refine wc_seq (wc_region ?_)
  refine wd (does_eq rfl rfl) ?_
  refine wd (does_as_b rfl) ?_
  refine wl_nil ?_
  refine wc_if rfl (fun hc101 => ?_) (fun hc101 => ?_)
  · replace H := if_t hc101 H
    refine wc_seq ?_
    obtain ⟨r103, er103, H⟩ := bind_ex H
    refine wc_semi 7 [3, 4]
      (fun i v u => match i with
      | 3 => ∃ sl, v = SlV.v sl ∧ Rd u 1 sl ([r3.l].map IC) ∧ (∀ j, sl.fp j → w21.heap.size ≤ j)
      | 4 => v = Value.agg (Sq.C r103).toArray
      | _ => True) hmix (by kernel_rfl) (by kernel_rfl) ?_ ?_
    · intro i v u u' hi hx hv
      match i, hv with
      | 3, ⟨b, e1, hr, hl⟩ => exact ⟨b, e1, hr.ext hx, hl⟩
      | 4, hv => exact hv
      | 0, _ => exact trivial
      | 1, _ => exact trivial
      | 2, _ => exact trivial
      | _ + 5, _ => exact trivial
    refine wm_does (fun v K => does_load_agg ag_Sq rfl (((S.ext K).blk 3).all _ (Sq.len _)) (Sq.len _)) rfl ?_
    refine wm_does (fun v K => does_fieldAddr fl_Nd_l rfl (o' := 2) rfl) rfl ?_
    refine wm_does (fun v K => does_load on_int rfl (((S.ext K).blk 2).cell (Nd.get_l _))) rfl ?_
    refine wm_new (fun g v K G => (have ⟨sl, v', hd, hx, ho, hf⟩ := does_lits (C := IC) (l := [r3.l]) (vs := [.int .i64 r3.l]) sl_L_int el_int.zero rfl rfl (fun _ _ => rfl) (by first | decide | simp) rfl; ⟨_, v', hd, hx, sl, rfl, ho.toRd, (fun j hj => by have := hf j hj; have := K.size; omega)⟩)) rfl ?_
    refine wm_newcall (fun g v K G => (have ⟨s102, hv3, hr3, hf3⟩ := G 3 (by decide) rfl; have ⟨M, SS⟩ := (S.addS K hr3 (by simp) hf3).lend ((.z 0 rfl .nil)); ⟨_, _, does_callg ca_rule_with (cons2 rfl (cons2 hv3 rfl)), newc (rule_with_st SS er103) fun _ _ h => ⟨h.2.frame, h.1⟩⟩)) rfl ?_
    refine wm_does (fun v K => does_fieldAddr fl_Nd_r rfl (o' := 3) rfl) rfl ?_
    refine wm_does (fun v K => does_load on_int rfl (((S.ext K).blk 2).cell (Nd.get_r _))) rfl ?_
    refine wm_nil fun g w104 K hV => ?_
    obtain ⟨s102, hv1053, hr3, hf3⟩ := hV 3 rfl (by decide)
    have hv1054 := hV 4 rfl (by decide)
    replace S : St A N w w104 [oB b16 T_Sq (Sq.C ({ a1 with left := r18 })), oB b13 T_Nd (Nd.C r9), oB b7 T_Nd (Nd.C r3), oB b2 T_Sq (Sq.C a1), oT a_0 a0] [fS 1 IC s102 ([r3.l])] := S.addZs K (.s hr3 (by simp) hf3 .nil)
    clear K hV
    obtain ⟨r106, er106, H⟩ := bind_ex H
    obtain ⟨B108, MB108, SB108, back⟩ := S.calln 0 ((.nil))
    refine wl_call (does_callg ca_rule_to (cons2 hv1054 (cons2 rfl rfl))) (by decide) (rule_to_st SB108 er106) ?_
    rintro _ w107 ⟨rfl, S2⟩
    replace S : St A N w w107 [oB b16 T_Sq (Sq.C ({ a1 with left := r18 })), oB b13 T_Nd (Nd.C r9), oB b7 T_Nd (Nd.C r3), oB b2 T_Sq (Sq.C a1), oT a_0 a0] [fS 1 IC s102 ([r3.l])] := back _ _ _ _ S2 rfl
    clear back S2 SB108
    refine wl_lits (C := Sq.C) (l := [r106]) (vs := [.agg (Sq.C r106).toArray]) sl_L_api_Seq el_Sq.zero rfl rfl (fun a _ => Sq.len a) (by decide) rfl (by decide) fun b110 w109 s111 hBw109 hw109 => ?_
    replace S : St A N w w109 [oS T_Sq 17 Sq.C s111 ([r106]), oB b16 T_Sq (Sq.C ({ a1 with left := r18 })), oB b13 T_Nd (Nd.C r9), oB b7 T_Nd (Nd.C r3), oB b2 T_Sq (Sq.C a1), oT a_0 a0] [fS 1 IC s102 ([r3.l])] := S.lit hBw109 hw109 (by simp)
    refine wd (does_as_l rfl) ?_
    refine wd (does_as_i rfl) ?_
    refine wl_nil ?_
    refine wc_ret ?_
    refine ⟨_, (rets2 (retOne_tmp rfl) (retOne_tmp rfl)), ?_⟩
    replace S : St A N w w109 [oT a_0 a0, oS T_Sq 17 Sq.C s111 ([r106])] [] := S.arr [5, 0] []
    obtain rfl := Option.some.inj H
    exact ⟨s111, rfl, S⟩
  replace H := if_f hc101 H
  refine wc_seq (wc_region ?_)
  refine wd (does_eq rfl rfl) ?_
  refine wd (does_as_b rfl) ?_
  refine wl_nil ?_
  refine wc_if rfl (fun hc112 => ?_) (fun hc112 => ?_)
  · replace H := if_t hc112 H
    refine wc_seq ?_
    refine wc_quiet 7 (Ext w21) hmix (by kernel_rfl) (by kernel_rfl) (Ext.drawn _) ?_
    refine wq_does (fun v K => does_load_agg ag_Sq rfl (((S.ext K).blk 3).all _ (Sq.len _)) (Sq.len _)) ?_
    refine wq_does (fun v K => does_fieldAddr fl_Nd_l rfl (o' := 2) rfl) ?_
    refine wq_does (fun v K => does_load on_int rfl (((S.ext K).blk 2).cell (Nd.get_l _))) ?_
    obtain ⟨r113, er113, H⟩ := bind_ex H
    refine wq_call (fun v => does_call ca_rule_to) (fun v K => (have ⟨M, SS⟩ := (S.ext K).lend ((.nil)); quiet (rule_to_st SS er113) (fun v w' h => ⟨h.1, _, _, h.2⟩))) (fun v v' K h => K.thenExt h) ?_
    refine wq_does (fun v K => does_load_agg ag_Sq rfl (((S.ext K).blk 3).all _ (Sq.len _)) (Sq.len _)) ?_
    refine wq_does (fun v K => does_fieldAddr fl_Nd_r rfl (o' := 3) rfl) ?_
    refine wq_does (fun v K => does_load on_int rfl (((S.ext K).blk 2).cell (Nd.get_r _))) ?_
    refine wq_nil fun w114 K => ?_
    replace S := S.ext K
    clear K
    obtain ⟨r115, er115, H⟩ := bind_ex H
    obtain ⟨B117, MB117, SB117, back⟩ := S.calln 0 ((.nil))
    refine wl_call (does_call ca_rule_to) (by decide) (rule_to_st SB117 er115) ?_
    rintro _ w116 ⟨rfl, S2⟩
    replace S : St A N w w116 [oB b16 T_Sq (Sq.C ({ a1 with left := r18 })), oB b13 T_Nd (Nd.C r9), oB b7 T_Nd (Nd.C r3), oB b2 T_Sq (Sq.C a1), oT a_0 a0] [] := back _ _ _ _ S2 rfl
    clear back S2 SB117
    refine wl_lits (C := Sq.C) (l := [r113, r115]) (vs := [.agg (Sq.C r113).toArray, .agg (Sq.C r115).toArray]) sl_L_api_Seq el_Sq.zero rfl rfl (fun a _ => Sq.len a) (by decide) rfl (by decide) fun b119 w118 s120 hBw118 hw118 => ?_
    replace S : St A N w w118 [oS T_Sq 17 Sq.C s120 ([r113, r115]), oB b16 T_Sq (Sq.C ({ a1 with left := r18 })), oB b13 T_Nd (Nd.C r9), oB b7 T_Nd (Nd.C r3), oB b2 T_Sq (Sq.C a1), oT a_0 a0] [] := S.lit hBw118 hw118 (by simp)
    refine wd (does_as_l rfl) ?_
    refine wd (does_as_i rfl) ?_
    refine wl_nil ?_
    refine wc_ret ?_
    refine ⟨_, (rets2 (retOne_tmp rfl) (retOne_tmp rfl)), ?_⟩
    replace S : St A N w w118 [oT a_0 a0, oS T_Sq 17 Sq.C s120 ([r113, r115])] [] := S.arr [5, 0] []
    obtain rfl := Option.some.inj H
    exact ⟨s120, rfl, S⟩
  replace H := if_f hc112 H
  refine wc_seq (wc_region ?_)
  refine wd (does_eq rfl rfl) ?_
  refine wd (does_as_b rfl) ?_
  refine wl_nil ?_
  refine wc_if rfl (fun hc121 => ?_) (fun hc121 => ?_)
  · replace H := if_t hc121 H
    refine wc_seq ?_
    obtain ⟨r123, er123, H⟩ := bind_ex H
    refine wc_semi 9 [3, 4, 8]
      (fun i v u => match i with
      | 3 => ∃ sl, v = SlV.v sl ∧ Rd u 1 sl ([r3.l].map IC) ∧ (∀ j, sl.fp j → w21.heap.size ≤ j)
      | 4 => v = Value.agg (Sq.C r123).toArray
      | 8 => ∃ sl, v = SlV.v sl ∧ Rd u 1 sl ([r3.r].map IC) ∧ (∀ j, sl.fp j → w21.heap.size ≤ j)
      | _ => True) hmix (by kernel_rfl) (by kernel_rfl) ?_ ?_
    · intro i v u u' hi hx hv
      match i, hv with
      | 3, ⟨b, e1, hr, hl⟩ => exact ⟨b, e1, hr.ext hx, hl⟩
      | 4, hv => exact hv
      | 8, ⟨b, e1, hr, hl⟩ => exact ⟨b, e1, hr.ext hx, hl⟩
      | 0, _ => exact trivial
      | 1, _ => exact trivial
      | 2, _ => exact trivial
      | 5, _ => exact trivial
      | 6, _ => exact trivial
      | 7, _ => exact trivial
      | _ + 9, _ => exact trivial
    refine wm_does (fun v K => does_load_agg ag_Sq rfl (((S.ext K).blk 0).all _ (Sq.len _)) (Sq.len _)) rfl ?_
    refine wm_does (fun v K => does_fieldAddr fl_Nd_l rfl (o' := 2) rfl) rfl ?_
    refine wm_does (fun v K => does_load on_int rfl (((S.ext K).blk 2).cell (Nd.get_l _))) rfl ?_
    refine wm_new (fun g v K G => (have ⟨sl, v', hd, hx, ho, hf⟩ := does_lits (C := IC) (l := [r3.l]) (vs := [.int .i64 r3.l]) sl_L_int el_int.zero rfl rfl (fun _ _ => rfl) (by first | decide | simp) rfl; ⟨_, v', hd, hx, sl, rfl, ho.toRd, (fun j hj => by have := hf j hj; have := K.size; omega)⟩)) rfl ?_
    refine wm_newcall (fun g v K G => (have ⟨s122, hv3, hr3, hf3⟩ := G 3 (by decide) rfl; have ⟨M, SS⟩ := (S.addS K hr3 (by simp) hf3).lend ((.z 0 rfl .nil)); ⟨_, _, does_callg ca_rule_with (cons2 rfl (cons2 hv3 rfl)), newc (rule_with_st SS er123) fun _ _ h => ⟨h.2.frame, h.1⟩⟩)) rfl ?_
    refine wm_does (fun v K => does_load_agg ag_Sq rfl (((S.ext K).blk 0).all _ (Sq.len _)) (Sq.len _)) rfl ?_
    refine wm_does (fun v K => does_fieldAddr fl_Nd_r rfl (o' := 3) rfl) rfl ?_
    refine wm_does (fun v K => does_load on_int rfl (((S.ext K).blk 2).cell (Nd.get_r _))) rfl ?_
    refine wm_new (fun g v K G => (have ⟨sl, v', hd, hx, ho, hf⟩ := does_lits (C := IC) (l := [r3.r]) (vs := [.int .i64 r3.r]) sl_L_int el_int.zero rfl rfl (fun _ _ => rfl) (by first | decide | simp) rfl; ⟨_, v', hd, hx, sl, rfl, ho.toRd, (fun j hj => by have := hf j hj; have := K.size; omega)⟩)) rfl ?_
    refine wm_nil fun g w125 K hV => ?_
    obtain ⟨s122, hv1263, hr3, hf3⟩ := hV 3 rfl (by decide)
    have hv1264 := hV 4 rfl (by decide)
    obtain ⟨s124, hv1268, hr8, hf8⟩ := hV 8 rfl (by decide)
    replace S : St A N w w125 [oB b16 T_Sq (Sq.C ({ a1 with left := r18 })), oB b13 T_Nd (Nd.C r9), oB b7 T_Nd (Nd.C r3), oB b2 T_Sq (Sq.C a1), oT a_0 a0] [fS 1 IC s122 ([r3.l]), fS 1 IC s124 ([r3.r])] := S.addZs K (.s hr3 (by simp) hf3 (.s hr8 (by simp) hf8 .nil))
    clear K hV
    obtain ⟨r127, er127, H⟩ := bind_ex H
    obtain ⟨B129, MB129, SB129, back⟩ := S.calln 0 ((.z 1 rfl .nil))
    refine wl_call (does_callg ca_rule_with (cons2 rfl (cons2 hv1268 rfl))) (by decide) (rule_with_st SB129 er127) ?_
    rintro _ w128 ⟨rfl, S2⟩
    replace S : St A N w w128 [oB b16 T_Sq (Sq.C ({ a1 with left := r18 })), oB b13 T_Nd (Nd.C r9), oB b7 T_Nd (Nd.C r3), oB b2 T_Sq (Sq.C a1), oT a_0 a0] [fS 1 IC s122 ([r3.l]), fS 1 IC s124 ([r3.r])] := back _ _ _ _ S2 rfl
    clear back S2 SB129
    refine wl_lits (C := Sq.C) (l := [r123, r127]) (vs := [.agg (Sq.C r123).toArray, .agg (Sq.C r127).toArray]) sl_L_api_Seq el_Sq.zero (consP hv1264 (consP rfl rfl)) rfl (fun a _ => Sq.len a) (by decide) rfl (by decide) fun b131 w130 s132 hBw130 hw130 => ?_
    replace S : St A N w w130 [oS T_Sq 17 Sq.C s132 ([r123, r127]), oB b16 T_Sq (Sq.C ({ a1 with left := r18 })), oB b13 T_Nd (Nd.C r9), oB b7 T_Nd (Nd.C r3), oB b2 T_Sq (Sq.C a1), oT a_0 a0] [fS 1 IC s122 ([r3.l]), fS 1 IC s124 ([r3.r])] := S.lit hBw130 hw130 (by simp)
    refine wd (does_as_l rfl) ?_
    refine wd (does_as_i rfl) ?_
    refine wl_nil ?_
    refine wc_ret ?_
    refine ⟨_, (rets2 (retOne_tmp rfl) (retOne_tmp rfl)), ?_⟩
    replace S : St A N w w130 [oT a_0 a0, oS T_Sq 17 Sq.C s132 ([r123, r127])] [] := S.arr [5, 0] []
    obtain rfl := Option.some.inj H
    exact ⟨s132, rfl, S⟩
  replace H := if_f hc121 H
  refine wc_seq (wc_region ?_)
  refine wd (does_eq rfl rfl) ?_
  refine wd (does_as_b rfl) ?_
  refine wl_nil ?_
  refine wc_if rfl (fun hc133 => ?_) (fun hc133 => ?_)
  · replace H := if_t hc133 H
    refine wc_seq (wc_region ?_)
    refine wd (does_load_agg ag_Sq rfl ((S.blk 3).all _ (Sq.len _)) (Sq.len _)) ?_
    refine wd (does_fieldAddr fl_Nd_l rfl (o' := 2) rfl) ?_
    refine wd (does_load on_int rfl ((S.blk 2).cell (Nd.get_l _))) ?_
    obtain ⟨r134, er134, H⟩ := bind_ex H
    obtain ⟨B136, MB136, SB136, back⟩ := S.calln 0 ((.nil))
    refine wl_call (does_call ca_rule_to) (by decide) (rule_to_st SB136 er134) ?_
    rintro _ w135 ⟨rfl, S2⟩
    replace S : St A N w w135 [oB b16 T_Sq (Sq.C ({ a1 with left := r18 })), oB b13 T_Nd (Nd.C r9), oB b7 T_Nd (Nd.C r3), oB b2 T_Sq (Sq.C a1), oT a_0 a0] [] := back _ _ _ _ S2 rfl
    clear back S2 SB136
    refine wl_lits (C := Sq.C) (l := [r134]) (vs := [.agg (Sq.C r134).toArray]) sl_L_api_Seq el_Sq.zero rfl rfl (fun a _ => Sq.len a) (by decide) rfl (by decide) fun b138 w137 s139 hBw137 hw137 => ?_
    replace S : St A N w w137 [oS T_Sq 17 Sq.C s139 ([r134]), oB b16 T_Sq (Sq.C ({ a1 with left := r18 })), oB b13 T_Nd (Nd.C r9), oB b7 T_Nd (Nd.C r3), oB b2 T_Sq (Sq.C a1), oT a_0 a0] [] := S.lit hBw137 hw137 (by simp)
    refine wd (does_as_l rfl) ?_
    refine wd (does_as_i rfl) ?_
    refine wl_nil ?_
    refine wc_ret ?_
    refine ⟨_, (rets2 (retOne_tmp rfl) (retOne_tmp rfl)), ?_⟩
    replace S : St A N w w137 [oT a_0 a0, oS T_Sq 17 Sq.C s139 ([r134])] [] := S.arr [5, 0] []
    obtain rfl := Option.some.inj H
    exact ⟨s139, rfl, S⟩
  replace H := if_f hc133 H
  refine wc_seq (wc_region ?_)
  refine wd (does_eq rfl rfl) ?_
  refine wd (does_as_b rfl) ?_
  refine wl_nil ?_
  refine wc_if rfl (fun hc140 => ?_) (fun hc140 => ?_)
  · replace H := if_t hc140 H
    refine wc_seq (wc_region ?_)
    refine wd (does_load_agg ag_Sq rfl ((S.blk 3).all _ (Sq.len _)) (Sq.len _)) ?_
    refine wd (does_fieldAddr fl_Nd_r rfl (o' := 3) rfl) ?_
    refine wd (does_load on_int rfl ((S.blk 2).cell (Nd.get_r _))) ?_
    obtain ⟨r141, er141, H⟩ := bind_ex H
    obtain ⟨B143, MB143, SB143, back⟩ := S.calln 0 ((.nil))
    refine wl_call (does_call ca_rule_to) (by decide) (rule_to_st SB143 er141) ?_
    rintro _ w142 ⟨rfl, S2⟩
    replace S : St A N w w142 [oB b16 T_Sq (Sq.C ({ a1 with left := r18 })), oB b13 T_Nd (Nd.C r9), oB b7 T_Nd (Nd.C r3), oB b2 T_Sq (Sq.C a1), oT a_0 a0] [] := back _ _ _ _ S2 rfl
    clear back S2 SB143
    refine wl_lits (C := Sq.C) (l := [r141]) (vs := [.agg (Sq.C r141).toArray]) sl_L_api_Seq el_Sq.zero rfl rfl (fun a _ => Sq.len a) (by decide) rfl (by decide) fun b145 w144 s146 hBw144 hw144 => ?_
    replace S : St A N w w144 [oS T_Sq 17 Sq.C s146 ([r141]), oB b16 T_Sq (Sq.C ({ a1 with left := r18 })), oB b13 T_Nd (Nd.C r9), oB b7 T_Nd (Nd.C r3), oB b2 T_Sq (Sq.C a1), oT a_0 a0] [] := S.lit hBw144 hw144 (by simp)
    refine wd (does_as_l rfl) ?_
    refine wd (does_as_i rfl) ?_
    refine wl_nil ?_
    refine wc_ret ?_
    refine ⟨_, (rets2 (retOne_tmp rfl) (retOne_tmp rfl)), ?_⟩
    replace S : St A N w w144 [oT a_0 a0, oS T_Sq 17 Sq.C s146 ([r141])] [] := S.arr [5, 0] []
    obtain rfl := Option.some.inj H
    exact ⟨s146, rfl, S⟩
  replace H := if_f hc140 H
  refine wc_seq (wc_region ?_)
  refine wd (does_eq rfl rfl) ?_
  refine wd (does_as_b rfl) ?_
  refine wl_nil ?_
  refine wc_if rfl (fun hc147 => ?_) (fun hc147 => ?_)
  · replace H := if_t hc147 H
    refine wc_seq (wc_region ?_)
    refine wd (does_mv_p rfl) ?_
    refine wd (does_fieldAddr fl_Nd_r rfl (o' := 3) rfl) ?_
    refine wd (does_load on_int rfl ((S.blk 1).cell (Nd.get_r _))) ?_
    refine wd (does_fieldAddr fl_Nd_r rfl (o' := 3) rfl) ?_
    refine wd (does_load on_int rfl ((S.blk 2).cell (Nd.get_r _))) ?_
    obtain ⟨r148, er148, H⟩ := bind_ex H
    obtain ⟨B150, MB150, SB150, back⟩ := S.sub [] [] [oB b16 T_Sq (Sq.C ({ a1 with left := r18 })), oB b13 T_Nd (Nd.C r9), oB b7 T_Nd (Nd.C r3), oB b2 T_Sq (Sq.C a1), oT a_0 a0]
    refine wl_call (does_call ca_rule_pair) (by decide) (rule_pair_st SB150 er148) ?_
    rintro _ w149 ⟨b151, b152, rfl, hnww149, S2⟩
    replace S : St A N w w149 [oB b16 T_Sq (Sq.C ({ a1 with left := r18 })), oB b13 T_Nd (Nd.C r9), oB b7 T_Nd (Nd.C r3), oB b2 T_Sq (Sq.C a1), oT a_0 a0] [oB b151 T_int [.int .i64 r148.1], oB b152 T_int [.int .i64 r148.2]] := back _ _ _ _ _ S2 rfl rfl
    clear back S2 SB150
    refine wl_lits (C := FC) (l := [FnV.mk (.func F_rule_pair_1) #[] #[.pointer (some ⟨b151, 0, none⟩), .pointer (some ⟨b152, 0, none⟩)]]) (vs := [.func (.func F_rule_pair_1) #[] #[.pointer (some ⟨b151, 0, none⟩), .pointer (some ⟨b152, 0, none⟩)]]) sl_L_func_L_int_int_int el_func_L_int_int_int.zero rfl rfl (fun _ _ => rfl) (by decide) rfl (by decide) fun b154 w153 s155 hBw153 hw153 => ?_
    replace S : St A N w w153 [oS T_func_L_int_int_int 1 FC s155 ([FnV.mk (.func F_rule_pair_1) #[] #[.pointer (some ⟨b151, 0, none⟩), .pointer (some ⟨b152, 0, none⟩)]]), oB b16 T_Sq (Sq.C ({ a1 with left := r18 })), oB b13 T_Nd (Nd.C r9), oB b7 T_Nd (Nd.C r3), oB b2 T_Sq (Sq.C a1), oT a_0 a0] [oB b151 T_int [.int .i64 r148.1], oB b152 T_int [.int .i64 r148.2]] := S.lit hBw153 hw153 (by simp)
    obtain ⟨r156, er156, H⟩ := bind_ex H
    replace S : St A N w w153 [oT a_0 a0, oS T_func_L_int_int_int 1 FC s155 ([FnV.mk (.func F_rule_pair_1) #[] #[.pointer (some ⟨b151, 0, none⟩), .pointer (some ⟨b152, 0, none⟩)]]), oB b16 T_Sq (Sq.C ({ a1 with left := r18 })), oB b13 T_Nd (Nd.C r9), oB b7 T_Nd (Nd.C r3), oB b2 T_Sq (Sq.C a1)] [oB b151 T_int [.int .i64 r148.1], oB b152 T_int [.int .i64 r148.2]] := S.front 5
    obtain ⟨B158, MB158, SB158, back⟩ := S.calln 1 ((.s 0 rfl (.z 0 rfl (.z 1 rfl .nil))))
    refine wl_call (does_call ca_rule_imps) (by decide) (rule_imps__rule_pair_1_st SB158 er156) ?_
    rintro _ w157 ⟨s159, rfl, S2⟩
    replace S : St A N w w157 [oT a_0 r156.1, oS T_int 1 IC s159 r156.2.1, oS T_func_L_int_int_int 1 FC s155 ([FnV.mk (.func F_rule_pair_1) #[] #[.pointer (some ⟨b151, 0, none⟩), .pointer (some ⟨b152, 0, none⟩)]]), oB b16 T_Sq (Sq.C ({ a1 with left := r18 })), oB b13 T_Nd (Nd.C r9), oB b7 T_Nd (Nd.C r3), oB b2 T_Sq (Sq.C a1)] [oB b151 T_int [.int .i64 r148.1], oB b152 T_int [.int .i64 r148.2]] := back _ _ _ _ S2 rfl
    clear back S2 SB158
    refine wd (does_mv_t rfl) ?_
    refine wd (does_extract rfl rfl) ?_
    refine wd (does_extract rfl rfl) ?_
    refine wd (does_as_l rfl) ?_
    refine wd (does_as_i rfl) ?_
    refine wl_nil ?_
    refine wc_seq (wc_seq (wc_region ?_))
    refine wd (does_mv_i rfl) ?_
    refine wd (does_ne rfl rfl) ?_
    refine wl_nil ?_
    refine wc_if rfl (fun hc160 => ?_) (fun hc160 => ?_)
    · replace H := if_t hc160 H
      refine wc_seq (wc_region ?_)
      refine wd (does_mv_i rfl) ?_
      refine wd (does_as_nil) ?_
      refine wd (does_as_i rfl) ?_
      refine wl_nil ?_
      refine wc_ret ?_
      replace S : St A N w w157 [oS T_Sq 17 Sq.C SlV.nil ([] : List Sq), oT a_0 r156.1, oS T_int 1 IC s159 r156.2.1, oS T_func_L_int_int_int 1 FC s155 ([FnV.mk (.func F_rule_pair_1) #[] #[.pointer (some ⟨b151, 0, none⟩), .pointer (some ⟨b152, 0, none⟩)]]), oB b16 T_Sq (Sq.C ({ a1 with left := r18 })), oB b13 T_Nd (Nd.C r9), oB b7 T_Nd (Nd.C r3), oB b2 T_Sq (Sq.C a1)] [oB b151 T_int [.int .i64 r148.1], oB b152 T_int [.int .i64 r148.2]] := S.nil T_Sq 17 Sq.C
      refine ⟨_, (rets2 (retOne_tmp rfl) (retOne_tmp rfl)), ?_⟩
      replace S : St A N w w157 [oT a_0 r156.1, oS T_Sq 17 Sq.C SlV.nil ([] : List Sq)] [] := S.arr [1, 0] []
      obtain rfl := Option.some.inj H
      exact ⟨SlV.nil, rfl, S⟩
    replace H := if_f hc160 H
    refine wc_skip ?_
    refine wc_seq ?_
    obtain ⟨r161, er161, H⟩ := bind_ex H
    obtain ⟨r162, er162, H⟩ := bind_ex H
    refine wc_semi 10 [9]
      (fun i v u => match i with
      | 9 => ∃ sl, v = SlV.v sl ∧ Rd u 1 sl ([r3.r].map IC) ∧ (∀ j, sl.fp j → w157.heap.size ≤ j)
      | _ => True) hmix (by kernel_rfl) (by kernel_rfl) ?_ ?_
    · intro i v u u' hi hx hv
      match i, hv with
      | 9, ⟨b, e1, hr, hl⟩ => exact ⟨b, e1, hr.ext hx, hl⟩
      | 0, _ => exact trivial
      | 1, _ => exact trivial
      | 2, _ => exact trivial
      | 3, _ => exact trivial
      | 4, _ => exact trivial
      | 5, _ => exact trivial
      | 6, _ => exact trivial
      | 7, _ => exact trivial
      | 8, _ => exact trivial
      | _ + 10, _ => exact trivial
    refine wm_does (fun v K => does_load_agg ag_Sq rfl (((S.ext K).blk 3).all _ (Sq.len _)) (Sq.len _)) rfl ?_
    refine wm_does (fun v K => does_mv_l rfl) rfl ?_
    refine wm_call (fun v => does_call ca_rule_with) (fun v K => (have ⟨M, SS⟩ := (S.ext K).lend ((.s 1 rfl .nil)); quiet (rule_with_st SS er161) (fun v w' h => ⟨h.1, _, _, h.2⟩))) rfl ?_
    refine wm_does (fun v K => does_fieldAddr fl_Nd_l rfl (o' := 2) rfl) rfl ?_
    refine wm_does (fun v K => does_load on_int rfl (((S.ext K).blk 5).cell (Nd.get_l _))) rfl ?_
    refine wm_call (fun v => does_call ca_rule_to) (fun v K => (have ⟨M, SS⟩ := (S.ext K).lend ((.nil)); quiet (rule_to_st SS er162) (fun v w' h => ⟨h.1, _, _, h.2⟩))) rfl ?_
    refine wm_does (fun v K => does_load_agg ag_Sq rfl (((S.ext K).blk 3).all _ (Sq.len _)) (Sq.len _)) rfl ?_
    refine wm_does (fun v K => does_fieldAddr fl_Nd_r rfl (o' := 3) rfl) rfl ?_
    refine wm_does (fun v K => does_load on_int rfl (((S.ext K).blk 5).cell (Nd.get_r _))) rfl ?_
    refine wm_new (fun g v K G => (have ⟨sl, v', hd, hx, ho, hf⟩ := does_lits (C := IC) (l := [r3.r]) (vs := [.int .i64 r3.r]) sl_L_int el_int.zero rfl rfl (fun _ _ => rfl) (by first | decide | simp) rfl; ⟨_, v', hd, hx, sl, rfl, ho.toRd, (fun j hj => by have := hf j hj; have := K.size; omega)⟩)) rfl ?_
    refine wm_nil fun g w164 K hV => ?_
    obtain ⟨s163, hv1659, hr9, hf9⟩ := hV 9 rfl (by decide)
    replace S : St A N w w164 [oT a_0 r156.1, oS T_int 1 IC s159 r156.2.1, oS T_func_L_int_int_int 1 FC s155 ([FnV.mk (.func F_rule_pair_1) #[] #[.pointer (some ⟨b151, 0, none⟩), .pointer (some ⟨b152, 0, none⟩)]]), oB b16 T_Sq (Sq.C ({ a1 with left := r18 })), oB b13 T_Nd (Nd.C r9), oB b7 T_Nd (Nd.C r3), oB b2 T_Sq (Sq.C a1)] [fS 1 IC s163 ([r3.r]), oB b151 T_int [.int .i64 r148.1], oB b152 T_int [.int .i64 r148.2]] := S.addZs K (.s hr9 (by simp) hf9 .nil)
    clear K hV
    obtain ⟨r166, er166, H⟩ := bind_ex H
    obtain ⟨B168, MB168, SB168, back⟩ := S.calln 0 ((.z 0 rfl .nil))
    refine wl_call (does_callg ca_rule_with (cons2 rfl (cons2 hv1659 rfl))) (by decide) (rule_with_st SB168 er166) ?_
    rintro _ w167 ⟨rfl, S2⟩
    replace S : St A N w w167 [oT a_0 r156.1, oS T_int 1 IC s159 r156.2.1, oS T_func_L_int_int_int 1 FC s155 ([FnV.mk (.func F_rule_pair_1) #[] #[.pointer (some ⟨b151, 0, none⟩), .pointer (some ⟨b152, 0, none⟩)]]), oB b16 T_Sq (Sq.C ({ a1 with left := r18 })), oB b13 T_Nd (Nd.C r9), oB b7 T_Nd (Nd.C r3), oB b2 T_Sq (Sq.C a1)] [fS 1 IC s163 ([r3.r]), oB b151 T_int [.int .i64 r148.1], oB b152 T_int [.int .i64 r148.2]] := back _ _ _ _ S2 rfl
    clear back S2 SB168
    refine wl_lits (C := Sq.C) (l := [r162, r166]) (vs := [.agg (Sq.C r162).toArray, .agg (Sq.C r166).toArray]) sl_L_api_Seq el_Sq.zero rfl rfl (fun a _ => Sq.len a) (by decide) rfl (by decide) fun b170 w169 s171 hBw169 hw169 => ?_
    replace S : St A N w w169 [oS T_Sq 17 Sq.C s171 ([r162, r166]), oT a_0 r156.1, oS T_int 1 IC s159 r156.2.1, oS T_func_L_int_int_int 1 FC s155 ([FnV.mk (.func F_rule_pair_1) #[] #[.pointer (some ⟨b151, 0, none⟩), .pointer (some ⟨b152, 0, none⟩)]]), oB b16 T_Sq (Sq.C ({ a1 with left := r18 })), oB b13 T_Nd (Nd.C r9), oB b7 T_Nd (Nd.C r3), oB b2 T_Sq (Sq.C a1)] [fS 1 IC s163 ([r3.r]), oB b151 T_int [.int .i64 r148.1], oB b152 T_int [.int .i64 r148.2]] := S.lit hBw169 hw169 (by simp)
    refine wd (does_as_l rfl) ?_
    refine wd (does_as_i rfl) ?_
    refine wl_nil ?_
    refine wc_ret ?_
    refine ⟨_, (rets2 (retOne_tmp rfl) (retOne_tmp rfl)), ?_⟩
    replace S : St A N w w169 [oT a_0 r156.1, oS T_Sq 17 Sq.C s171 ([r162, r166])] [] := S.arr [1, 0] []
    obtain rfl := Option.some.inj H
    exact ⟨s171, rfl, S⟩
  replace H := if_f hc147 H
  refine wc_skip ?_
  refine wc_seq (wc_region ?_)
  refine wd (does_as_nil) ?_
  refine wd (does_as_i rfl) ?_
  refine wl_nil ?_
  refine wc_ret ?_
  replace S : St A N w w21 [oS T_Sq 17 Sq.C SlV.nil ([] : List Sq), oB b16 T_Sq (Sq.C ({ a1 with left := r18 })), oB b13 T_Nd (Nd.C r9), oB b7 T_Nd (Nd.C r3), oB b2 T_Sq (Sq.C a1), oT a_0 a0] [] := S.nil T_Sq 17 Sq.C
  refine ⟨_, (rets2 (retOne_tmp rfl) (retOne_tmp rfl)), ?_⟩
  replace S : St A N w w21 [oT a_0 a0, oS T_Sq 17 Sq.C SlV.nil ([] : List Sq)] [] := S.arr [5, 0] []
  obtain rfl := Option.some.inj H
  exact ⟨SlV.nil, rfl, S⟩
theorem rule_Premises_st {A : Nat → Prop} {N : Oth} {w : World} {a0 : Tb} {a_0 : Option Addr} {a1 : Sq} {a2 : Int} {a3 : Int} (S : St A N w w [oT a_0 a0] [oTz]) {r : Tb × List Sq × Int} (H : rule_Premises.f a0 a1 a2 a3 = some r) :
    Calls PP F_rule_Premises #[.pointer a_0, .agg (Sq.C a1).toArray, .int .i64 a2, .int .i64 a3] w fun e w' => ∃ v, e = .returned v ∧ (∃ so0 : SlV, v = .tuple #[so0.v, .int .i64 r.2.2] ∧ St A N w w' [oT a_0 r.1, oS T_Sq 17 Sq.C so0 r.2.1] []) := by
  unfold rule_Premises.f at H
  refine calls_of_wc (n := 43) fn_rule_Premises rfl rfl (by simp) ?_
  refine wc_seq (wc_region ?_)
  refine wl_box_agg rfl (by decide) fun b2 w1 hw1 => ?_
  replace S : St A N w w1 [oB b2 T_Sq (Sq.C a1), oT a_0 a0] [oTz] := S.new hw1
  refine wd (does_as_nil) ?_
  refine wd (does_as_i rfl) ?_
  refine wl_nil ?_
  refine wc_seq (wc_seq (wc_region ?_))
  refine wd (does_mv_p rfl) ?_
  refine wd (does_load_agg ag_Sq rfl ((S.blk 0).all _ (Sq.len _)) (Sq.len _)) ?_
  obtain ⟨r3, er3, H⟩ := bind_ex H
  obtain ⟨B5, MB5, SB5, back⟩ := S.calln 0 ((.o 1 rfl (.z 0 rfl .nil)))
  refine wl_call (does_call ca_rule_look) (by decide) (rule_look_st SB5 er3) ?_
  rintro _ w4 ⟨rfl, S2⟩
  replace S : St A N w w4 [oB b2 T_Sq (Sq.C a1), oT a_0 a0] [oTz] := back _ _ _ _ S2 rfl
  clear back S2 SB5
  refine wd (does_as_i rfl) ?_
  refine wl_nil ?_
  refine wc_seq (wc_region ?_)
  refine wd (does_mv_i rfl) ?_
  refine wd (does_ne rfl rfl) ?_
  refine wl_nil ?_
  refine wc_if rfl (fun hc6 => ?_) (fun hc6 => ?_)
  · replace H := if_t hc6 H
    refine wc_seq (wc_region ?_)
    refine wd (does_mv_i rfl) ?_
    refine wd (does_as_nil) ?_
    refine wd (does_as_i rfl) ?_
    refine wl_nil ?_
    refine wc_ret ?_
    replace S : St A N w w4 [oS T_Sq 17 Sq.C SlV.nil ([] : List Sq), oB b2 T_Sq (Sq.C a1), oT a_0 a0] [oTz] := S.nil T_Sq 17 Sq.C
    refine ⟨_, (rets2 (retOne_tmp rfl) (retOne_tmp rfl)), ?_⟩
    replace S : St A N w w4 [oT a_0 a0, oS T_Sq 17 Sq.C SlV.nil ([] : List Sq)] [] := S.arr [2, 0] []
    obtain rfl := Option.some.inj H
    exact ⟨SlV.nil, rfl, S⟩
  replace H := if_f hc6 H
  refine wc_skip ?_
  refine wc_seq (wc_seq (wc_region ?_))
  refine wd (does_mv_p rfl) ?_
  refine wd (does_load_agg ag_Sq rfl ((S.blk 0).all _ (Sq.len _)) (Sq.len _)) ?_
  refine wd (does_mv_i rfl) ?_
  refine wd (does_mv_i rfl) ?_
  obtain ⟨r7, er7, H⟩ := bind_ex H
  obtain ⟨B9, MB9, SB9, back⟩ := S.calln 0 ((.o 1 rfl .nil))
  refine wl_call (does_call ca_rule_fits) (by decide) (rule_fits_st SB9 er7) ?_
  rintro _ w8 ⟨rfl, S2⟩
  replace S : St A N w w8 [oB b2 T_Sq (Sq.C a1), oT a_0 a0] [oTz] := back _ _ _ _ S2 rfl
  clear back S2 SB9
  refine wd (does_not rfl) ?_
  refine wl_nil ?_
  refine wc_if rfl (fun hc10 => ?_) (fun hc10 => ?_)
  · replace H := if_t hc10 H
    refine wc_seq (wc_region ?_)
    refine wd (does_as_nil) ?_
    refine wd (does_as_i rfl) ?_
    refine wl_nil ?_
    refine wc_ret ?_
    replace S : St A N w w8 [oS T_Sq 17 Sq.C SlV.nil ([] : List Sq), oB b2 T_Sq (Sq.C a1), oT a_0 a0] [oTz] := S.nil T_Sq 17 Sq.C
    refine ⟨_, (rets2 (retOne_tmp rfl) (retOne_tmp rfl)), ?_⟩
    replace S : St A N w w8 [oT a_0 a0, oS T_Sq 17 Sq.C SlV.nil ([] : List Sq)] [] := S.arr [2, 0] []
    obtain rfl := Option.some.inj H
    exact ⟨SlV.nil, rfl, S⟩
  replace H := if_f hc10 H
  refine wc_skip ?_
  refine wc_seq (wc_region ?_)
  refine wd (does_mv_p rfl) ?_
  obtain ⟨r11, er11, H⟩ := bind_ex H
  obtain ⟨B13, MB13, SB13, back⟩ := S.calln 0 ((.o 1 rfl .nil))
  refine wl_call (does_call ca_formula_Table_Len) (by decide) (formula_Table_Len_st SB13 er11) ?_
  rintro _ w12 ⟨rfl, S2⟩
  replace S : St A N w w12 [oB b2 T_Sq (Sq.C a1), oT a_0 a0] [oTz] := back _ _ _ _ S2 rfl
  clear back S2 SB13
  refine wd (does_as_i rfl) ?_
  refine wl_nil ?_
  refine wc_seq (wc_region ?_)
  refine wd (does_mv_p rfl) ?_
  refine wd (does_load_agg ag_Sq rfl ((S.blk 0).all _ (Sq.len _)) (Sq.len _)) ?_
  refine wd (does_mv_i rfl) ?_
  refine wd (does_mv_i rfl) ?_
  obtain ⟨r14, er14, H⟩ := bind_ex H
  replace S : St A N w w12 [oT a_0 a0, oB b2 T_Sq (Sq.C a1)] [oTz] := S.front 1
  obtain ⟨B16, MB16, SB16, back⟩ := S.calln 1 ((.nil))
  refine wl_call (does_call ca_rule_premises) (by decide) (rule_premises_st SB16 er14) ?_
  rintro _ w15 ⟨s17, rfl, S2⟩
  replace S : St A N w w15 [oT a_0 r14.1, oS T_Sq 17 Sq.C s17 r14.2.1, oB b2 T_Sq (Sq.C a1)] [oTz] := back _ _ _ _ S2 rfl
  clear back S2 SB16
  refine wd (does_mv_t rfl) ?_
  refine wd (does_extract rfl rfl) ?_
  refine wd (does_extract rfl rfl) ?_
  refine wd (does_as_l rfl) ?_
  refine wd (does_as_i rfl) ?_
  refine wl_nil ?_
  refine wc_seq (wc_seq (wc_region ?_))
  refine wd (does_mv_i rfl) ?_
  refine wd (does_ne rfl rfl) ?_
  refine wl_nil ?_
  refine wc_if rfl (fun hc18 => ?_) (fun hc18 => ?_)
  · replace H := if_t hc18 H
    refine wc_seq (wc_region ?_)
    refine wd (does_mv_p rfl) ?_
    refine wd (does_mv_i rfl) ?_
    obtain ⟨r19, er19, H⟩ := bind_ex H
    obtain ⟨B21, MB21, SB21, back⟩ := S.calln 1 ((.nil))
    refine wl_call (does_call ca_formula_Table_Cut) (by decide) (formula_Table_Cut_st SB21 er19) ?_
    rintro _ w20 ⟨rfl, S2⟩
    replace S : St A N w w20 [oT a_0 r19.1, oS T_Sq 17 Sq.C s17 r14.2.1, oB b2 T_Sq (Sq.C a1)] [oTz] := back _ _ _ _ S2 rfl
    clear back S2 SB21
    refine wl_nil ?_
    refine wc_seq (wc_region ?_)
    refine wd (does_mv_i rfl) ?_
    refine wd (does_as_nil) ?_
    refine wd (does_as_i rfl) ?_
    refine wl_nil ?_
    refine wc_ret ?_
    replace S : St A N w w20 [oS T_Sq 17 Sq.C SlV.nil ([] : List Sq), oT a_0 r19.1, oS T_Sq 17 Sq.C s17 r14.2.1, oB b2 T_Sq (Sq.C a1)] [oTz] := S.nil T_Sq 17 Sq.C
    refine ⟨_, (rets2 (retOne_tmp rfl) (retOne_tmp rfl)), ?_⟩
    replace S : St A N w w20 [oT a_0 r19.1, oS T_Sq 17 Sq.C SlV.nil ([] : List Sq)] [] := S.arr [1, 0] []
    obtain rfl := Option.some.inj H
    exact ⟨SlV.nil, rfl, S⟩
  replace H := if_f hc18 H
  refine wc_skip ?_
  refine wc_seq (wc_region ?_)
  refine wd (does_mv_l rfl) ?_
  refine wd (does_as_l rfl) ?_
  refine wd (does_as_i rfl) ?_
  refine wl_nil ?_
  refine wc_ret ?_
  refine ⟨_, (rets2 (retOne_tmp rfl) (retOne_tmp rfl)), ?_⟩
  replace S : St A N w w15 [oT a_0 r14.1, oS T_Sq 17 Sq.C s17 r14.2.1] [] := S.arr [0, 1] []
  obtain rfl := Option.some.inj H
  exact ⟨s17, rfl, S⟩
end Go.Proofs.YtjjkhjieegmphaaDoor
end
section
namespace Go.Proofs.YtjjkhjieegmphaaDoor
open Gw Go.RowKit
set_option linter.unusedVariables false
set_option linter.unusedSimpArgs false
set_option maxHeartbeats 4000000

theorem search_finder_end_st {A : Nat → Prop} {N : Oth} {w : World} {a0 : PFinder} {a_0 : Option Addr} {g_0_1 : Option Addr} {a1 : PStep} {s_1 : SlV} (S : St A N w w [oF a_0 g_0_1 a0, oS T_int 1 IC s_1 a1.kids] []) {r : PFinder × Int × Int} (H : search_finder_end.f a0 a1 = some r) :
    Calls PP F_search_finder_end #[.pointer a_0, .agg (Step.C (⟨a1.seq, a1.proved, a1.rule, a1.main, s_1⟩ : Step)).toArray] w fun e w' => ∃ v, e = .returned v ∧ (v = .tuple #[.int .i64 r.2.1, .int .i64 r.2.2] ∧ St A N w w' [oF a_0 g_0_1 r.1] []) := by
  unfold search_finder_end.f at H
  refine calls_of_wc (n := 33) fn_search_finder_end rfl rfl (by simp) ?_
  refine wc_seq (wc_region ?_)
  refine wl_box_agg rfl (by decide) fun b2 w1 hw1 => ?_
  replace S : St A N w w1 [oB b2 T_Step (Step.C (⟨a1.seq, a1.proved, a1.rule, a1.main, s_1⟩ : Step)), oF a_0 g_0_1 a0, oS T_int 1 IC s_1 a1.kids] [] := S.new hw1
  refine wd (does_as_i rfl) ?_
  refine wd (does_as_i rfl) ?_
  refine wl_nil ?_
  refine wc_seq ?_
  obtain ⟨p3, s5, m6, hp4, S⟩ := S.open_oF 1
  replace S : St A N w w1 [oB p3 T_Finder (Finder.C (⟨g_0_1, s5, (some m6), a0.left, a0.visits⟩ : Finder)), oT g_0_1 a0.t, oDStep s5 a0.steps, oMSq m6 a0.at_, oB b2 T_Step (Step.C (⟨a1.seq, a1.proved, a1.rule, a1.main, s_1⟩ : Step)), oS T_int 1 IC s_1 a1.kids] [] := S
  refine wc_quiet 11 (Ext w1) hmix (by kernel_rfl) (by kernel_rfl) (Ext.drawn _) ?_
  refine wq_does (fun v K => does_mv_p rfl) ?_
  refine wq_does (fun v K => does_nilCheck (congrArg Value.pointer hp4)) ?_
  refine wq_does (fun v K => does_fieldAddr fl_Finder_at_ rfl (o' := 2) rfl) ?_
  refine wq_does (fun v K => does_load on_M_api_Seq_int rfl (((S.ext K).blk 0).cell (Finder.get_at_ _))) ?_
  refine wq_does (fun v K => does_fieldAddr fl_Step_seq rfl (o' := 0) rfl) ?_
  refine wq_does (fun v K => does_load_agg ag_Sq rfl (((S.ext K).blk 4).cells (Step.sub_seq _)) (Sq.len _)) ?_
  refine wq_does (fun v K => does_mv_p rfl) ?_
  refine wq_does (fun v K => does_nilCheck (congrArg Value.pointer hp4)) ?_
  refine wq_does (fun v K => does_fieldAddr fl_Finder_steps rfl (o' := 1) rfl) ?_
  refine wq_does (fun v K => does_load on_L_api_Step rfl (((S.ext K).blk 0).cell (Finder.get_steps _))) ?_
  refine wq_does (fun v K => does_lenD sl_L_api_Step rfl ((S.ext K).onO 2)) ?_
  refine wq_nil fun w7 K => ?_
  replace S := S.ext K
  clear K
  refine wl_mapUpdate (C := mSqC) (D := (Value.int .i64)) (key := a1.seq) (v := (a0.steps.length : Int)) un_M_api_Seq_int key_Sq rfl rfl rfl (S.map 3) fun w8 hmw8 hcw8 hsw8 => ?_
  replace S : St A N w w8 [oMSq m6 (Gw.ins a1.seq (a0.steps.length : Int) a0.at_), oB p3 T_Finder (Finder.C (⟨g_0_1, s5, (some m6), a0.left, a0.visits⟩ : Finder)), oT g_0_1 a0.t, oDStep s5 a0.steps, oB b2 T_Step (Step.C (⟨a1.seq, a1.proved, a1.rule, a1.main, s_1⟩ : Step)), oS T_int 1 IC s_1 a1.kids] [] := S.mapSet 3 ⟨hmw8, hcw8, hsw8⟩
  replace S : St A N w w8 [oDStep s5 a0.steps, oMSq m6 (Gw.ins a1.seq (a0.steps.length : Int) a0.at_), oB p3 T_Finder (Finder.C (⟨g_0_1, s5, (some m6), a0.left, a0.visits⟩ : Finder)), oT g_0_1 a0.t, oB b2 T_Step (Step.C (⟨a1.seq, a1.proved, a1.rule, a1.main, s_1⟩ : Step)), oS T_int 1 IC s_1 a1.kids] [] := S.front 3
  replace S : St A N w w8 [oT g_0_1 a0.t, oDStep s5 a0.steps, oMSq m6 (Gw.ins a1.seq (a0.steps.length : Int) a0.at_), oB p3 T_Finder (Finder.C (⟨g_0_1, s5, (some m6), a0.left, a0.visits⟩ : Finder)), oB b2 T_Step (Step.C (⟨a1.seq, a1.proved, a1.rule, a1.main, s_1⟩ : Step)), oS T_int 1 IC s_1 a1.kids] [] := S.front 3
  replace S : St A N w w8 [oB p3 T_Finder (Finder.C (⟨g_0_1, s5, (some m6), a0.left, a0.visits⟩ : Finder)), oT g_0_1 a0.t, oDStep s5 a0.steps, oMSq m6 (Gw.ins a1.seq (a0.steps.length : Int) a0.at_), oB b2 T_Step (Step.C (⟨a1.seq, a1.proved, a1.rule, a1.main, s_1⟩ : Step)), oS T_int 1 IC s_1 a1.kids] [] := S.front 3
  replace S : St A N w w8 [oF a_0 g_0_1 (⟨a0.t, a0.steps, Gw.ins a1.seq (a0.steps.length : Int) a0.at_, a0.left, a0.visits⟩ : PFinder), oB b2 T_Step (Step.C (⟨a1.seq, a1.proved, a1.rule, a1.main, s_1⟩ : Step)), oS T_int 1 IC s_1 a1.kids] [] := S.shut_oF hp4
  refine wl_nil ?_
  refine wc_seq ?_
  obtain ⟨p9, s11, m12, hp10, S⟩ := S.open_oF 0
  replace S : St A N w w8 [oB p9 T_Finder (Finder.C (⟨g_0_1, s11, (some m12), a0.left, a0.visits⟩ : Finder)), oT g_0_1 a0.t, oDStep s11 a0.steps, oMSq m12 (Gw.ins a1.seq (a0.steps.length : Int) a0.at_), oB b2 T_Step (Step.C (⟨a1.seq, a1.proved, a1.rule, a1.main, s_1⟩ : Step)), oS T_int 1 IC s_1 a1.kids] [] := S
  obtain ⟨ms13, S⟩ := S.openD 2
  replace S : St A N w w8 [oS T_Step 21 Step.C s11 ms13, big rStep ms13 a0.steps, oB p9 T_Finder (Finder.C (⟨g_0_1, s11, (some m12), a0.left, a0.visits⟩ : Finder)), oT g_0_1 a0.t, oMSq m12 (Gw.ins a1.seq (a0.steps.length : Int) a0.at_), oB b2 T_Step (Step.C (⟨a1.seq, a1.proved, a1.rule, a1.main, s_1⟩ : Step)), oS T_int 1 IC s_1 a1.kids] [] := S
  have hlms13 : ms13.length = a0.steps.length := (S.own 1 rfl).elim fun _ hb => big_len hb
  obtain ⟨ha14, H⟩ := chk_ex H
  have ha14 := of_decide_eq_true ha14
  rw [← hlms13] at ha14
  have hSO := S.sl 0
  have hSlt := hSO.lt
  have SH : ∀ v, Chg s11.fp w8 v → St A (N.or s11.fp) w v [big rStep ms13 a0.steps, oB p9 T_Finder (Finder.C (⟨g_0_1, s11, (some m12), a0.left, a0.visits⟩ : Finder)), oT g_0_1 a0.t, oMSq m12 (Gw.ins a1.seq (a0.steps.length : Int) a0.at_), oB b2 T_Step (Step.C (⟨a1.seq, a1.proved, a1.rule, a1.main, s_1⟩ : Step)), oS T_int 1 IC s_1 a1.kids] [] := fun v hc => S.away 0 (hc := hc)
  refine wc_draw 8 ⟨fun L v => Chg s11.fp w8 v ∧ (L 7 = false → Ext w8 v), fun L a b => Chg s11.fp a b ∧ (L 7 = true → Ext a b), fun i v u => match i with
    | 0 => v = Value.pointer a_0
    | 1 => v = Value.pointer a_0
    | 2 => v = Value.pointer (some ⟨p9, 0, none⟩)
    | 3 => v = Value.pointer (some ⟨p9, 1, none⟩)
    | 4 => v = s11.v
    | 5 => v = Value.agg (Step.C (⟨a1.seq, a1.proved, a1.rule, a1.main, s_1⟩ : Step)).toArray
    | 6 => ∃ b sl, v = SlV.v sl ∧ sl = ⟨some ⟨b, 0, none⟩, 1, 1⟩ ∧ Blk u b T_Step (Step.C (⟨a1.seq, a1.proved, a1.rule, a1.main, s_1⟩ : Step)) ∧ ¬ s11.fp b
    | 7 => ∃ s', v = SlV.v s' ∧ Own u 0 T_Step 21 s' ((ms13 ++ [(⟨a1.seq, a1.proved, a1.rule, a1.main, s_1⟩ : Step)]).map Step.C) ∧ ∀ i, s'.fp i → s11.fp i ∨ w8.heap.size ≤ i
    | _ => True⟩ hmix (by kernel_rfl) ?_ ⟨(Ext.drawn _).mono (fun _ _ x => x.elim), fun _ => Ext.drawn _⟩ ⟨?_, ?_, ?_, ?_, ?_, ?_, ?_, ?_, trivial⟩ ?_
  · intro L i v a b hLi hle hv
    match i, hLi, hv with
    | 0, _, hv => exact hv
    | 1, _, hv => exact hv
    | 2, _, hv => exact hv
    | 3, _, hv => exact hv
    | 4, _, hv => exact hv
    | 5, _, hv => exact hv
    | 6, _, ⟨b, sl, e1, e2, hb, hn⟩ => exact ⟨b, sl, e1, e2, hb.chg hle.1 hn, hn⟩
    | 7, hLi, ⟨s', e1, ho, hg⟩ => exact ⟨s', e1, ho.ext (hle.2 hLi), hg⟩
    | _ + 8, _, _ => exact trivial
  · rintro L g v hL hT 
    refine wl_does (does_mv_p rfl) (by decide) (wl_nil (ob ⟨hT.1, fun h => hT.2 h⟩ ⟨Chg.refl _ _, fun _ => Ext.refl _⟩ rfl))
  · rintro L g v hL hT 
    refine wl_does (does_mv_p rfl) (by decide) (wl_nil (ob ⟨hT.1, fun h => hT.2 h⟩ ⟨Chg.refl _ _, fun _ => Ext.refl _⟩ rfl))
  · rintro L g v hL hT hv1
    refine wl_does (does_nilCheck ((hv1 : _ = Value.pointer a_0).trans (congrArg Value.pointer hp10))) (by decide) (wl_nil (ob ⟨hT.1, fun h => hT.2 h⟩ ⟨Chg.refl _ _, fun _ => Ext.refl _⟩ rfl))
  · rintro L g v hL hT hv2
    refine wl_does (does_fieldAddr fl_Finder_steps hv2 (o' := 1) rfl) (by decide) (wl_nil (ob ⟨hT.1, fun h => hT.2 h⟩ ⟨Chg.refl _ _, fun _ => Ext.refl _⟩ rfl))
  · rintro L g v hL hT hv3
    refine wl_does (does_load on_L_api_Step hv3 (((SH v hT.1).blk 1).cell (Finder.get_steps _))) (by decide) (wl_nil (ob ⟨hT.1, fun h => hT.2 h⟩ ⟨Chg.refl _ _, fun _ => Ext.refl _⟩ rfl))
  · rintro L g v hL hT 
    refine wl_does (does_load_agg ag_Step rfl (((SH v hT.1).blk 4).all _ (Step.len _)) (Step.len _)) (by decide) (wl_nil (ob ⟨hT.1, fun h => hT.2 h⟩ ⟨Chg.refl _ _, fun _ => Ext.refl _⟩ rfl))
  · rintro L g v hL hT hv5
    refine wl_lit1 sl_L_api_Step el_Step.zero hv5 rfl (Step.len _) (by decide) (by decide) fun b v' sl hn hq => wl_nil (ob ⟨hT.1.thenExt hn.ext, fun h => (hT.2 h).trans hn.ext⟩ ⟨hn.ext.mono (fun _ _ x => x.elim), fun _ => hn.ext⟩ ⟨b, sl, rfl, hq, hn.blk, fun e => by have := hSlt _ e; have := hn.at_; have := hT.1.size; omega⟩)
  · rintro L g v hL hT hv4 ⟨b, sl, hv6, hq, hb, hnb⟩
    refine wl_push (C := Step.C) sl_L_api_Step el_Step hv4 hv6 (hSO.ext (hT.2 hL)) hb hq (Step.len _) (Step.one _) ha14 (by omega) (by decide) fun s' v' ho hc hg => wl_nil (ob ⟨hT.1.trans hc, fun h => (by cases h)⟩ ⟨hc, fun h => (by rw [hL] at h; cases h)⟩ ⟨s', rfl, ho, fun i e => (hg i e).imp id (fun h => Nat.le_trans hT.1.size h)⟩)
  rintro L g w15 hLm hT hv17_0 hv17_1 hv17_2 hv17_3 hv17_4 hv17_5 ⟨b, sl, hv17_6, hq, hb, hnb⟩ ⟨s16, hv17_7, O, gO⟩
  replace S : St A N w w15 [oS T_Step 21 Step.C s16 (ms13 ++ [(⟨a1.seq, a1.proved, a1.rule, a1.main, s_1⟩ : Step)]), big rStep ms13 a0.steps, oB p9 T_Finder (Finder.C (⟨g_0_1, s11, (some m12), a0.left, a0.visits⟩ : Finder)), oT g_0_1 a0.t, oMSq m12 (Gw.ins a1.seq (a0.steps.length : Int) a0.at_), oB b2 T_Step (Step.C (⟨a1.seq, a1.proved, a1.rule, a1.main, s_1⟩ : Step)), oS T_int 1 IC s_1 a1.kids] [] := S.push 0 O (by rw [List.length_append, List.length_singleton]; omega) hT.1 gO
  clear O gO SH hSO hSlt
  replace S : St A N w w15 [oS T_int 1 IC s_1 a1.kids, oS T_Step 21 Step.C s16 (ms13 ++ [(⟨a1.seq, a1.proved, a1.rule, a1.main, s_1⟩ : Step)]), big rStep ms13 a0.steps, oB p9 T_Finder (Finder.C (⟨g_0_1, s11, (some m12), a0.left, a0.visits⟩ : Finder)), oT g_0_1 a0.t, oMSq m12 (Gw.ins a1.seq (a0.steps.length : Int) a0.at_), oB b2 T_Step (Step.C (⟨a1.seq, a1.proved, a1.rule, a1.main, s_1⟩ : Step))] [] := S.front 6
  replace S : St A N w w15 [rStep (⟨a1.seq, a1.proved, a1.rule, a1.main, s_1⟩ : Step) a1, oS T_Step 21 Step.C s16 (ms13 ++ [(⟨a1.seq, a1.proved, a1.rule, a1.main, s_1⟩ : Step)]), big rStep ms13 a0.steps, oB p9 T_Finder (Finder.C (⟨g_0_1, s11, (some m12), a0.left, a0.visits⟩ : Finder)), oT g_0_1 a0.t, oMSq m12 (Gw.ins a1.seq (a0.steps.length : Int) a0.at_), oB b2 T_Step (Step.C (⟨a1.seq, a1.proved, a1.rule, a1.main, s_1⟩ : Step))] [] := (S.putp ⟨rfl, rfl, rfl, rfl⟩).star
  replace S : St A N w w15 [big rStep ms13 a0.steps, rStep (⟨a1.seq, a1.proved, a1.rule, a1.main, s_1⟩ : Step) a1, oS T_Step 21 Step.C s16 (ms13 ++ [(⟨a1.seq, a1.proved, a1.rule, a1.main, s_1⟩ : Step)]), oB p9 T_Finder (Finder.C (⟨g_0_1, s11, (some m12), a0.left, a0.visits⟩ : Finder)), oT g_0_1 a0.t, oMSq m12 (Gw.ins a1.seq (a0.steps.length : Int) a0.at_), oB b2 T_Step (Step.C (⟨a1.seq, a1.proved, a1.rule, a1.main, s_1⟩ : Step))] [] := S.front 2
  replace S : St A N w w15 [oS T_Step 21 Step.C s16 (ms13 ++ [(⟨a1.seq, a1.proved, a1.rule, a1.main, s_1⟩ : Step)]), big rStep ms13 a0.steps, rStep (⟨a1.seq, a1.proved, a1.rule, a1.main, s_1⟩ : Step) a1, oB p9 T_Finder (Finder.C (⟨g_0_1, s11, (some m12), a0.left, a0.visits⟩ : Finder)), oT g_0_1 a0.t, oMSq m12 (Gw.ins a1.seq (a0.steps.length : Int) a0.at_), oB b2 T_Step (Step.C (⟨a1.seq, a1.proved, a1.rule, a1.main, s_1⟩ : Step))] [] := S.front 2
  replace S : St A N w w15 [oDStep s16 (a0.steps ++ [a1]), oB p9 T_Finder (Finder.C (⟨g_0_1, s11, (some m12), a0.left, a0.visits⟩ : Finder)), oT g_0_1 a0.t, oMSq m12 (Gw.ins a1.seq (a0.steps.length : Int) a0.at_), oB b2 T_Step (Step.C (⟨a1.seq, a1.proved, a1.rule, a1.main, s_1⟩ : Step))] [] := S.pushD
  refine wd (does_nilCheck ((hv17_0 : _ = Value.pointer a_0).trans (congrArg Value.pointer hp10))) ?_
  refine wd (does_fieldAddr fl_Finder_steps rfl (o' := 1) rfl) ?_
  refine wl_store on_L_api_Step rfl hv17_7 (S.blk 1) (by rw [Finder.len]; decide) (SlV.one _ _ rfl) (Finder.set_steps _ _) fun w18 B hw18 zw18 => ?_
  replace S : St A N w w18 [oB p9 T_Finder (Finder.C (⟨g_0_1, s16, (some m12), a0.left, a0.visits⟩ : Finder)), oDStep s16 (a0.steps ++ [a1]), oT g_0_1 a0.t, oMSq m12 (Gw.ins a1.seq (a0.steps.length : Int) a0.at_), oB b2 T_Step (Step.C (⟨a1.seq, a1.proved, a1.rule, a1.main, s_1⟩ : Step))] [] := S.store 1 B hw18
  clear B
  replace S : St A N w w18 [oMSq m12 (Gw.ins a1.seq (a0.steps.length : Int) a0.at_), oB p9 T_Finder (Finder.C (⟨g_0_1, s16, (some m12), a0.left, a0.visits⟩ : Finder)), oDStep s16 (a0.steps ++ [a1]), oT g_0_1 a0.t, oB b2 T_Step (Step.C (⟨a1.seq, a1.proved, a1.rule, a1.main, s_1⟩ : Step))] [] := S.front 3
  replace S : St A N w w18 [oDStep s16 (a0.steps ++ [a1]), oMSq m12 (Gw.ins a1.seq (a0.steps.length : Int) a0.at_), oB p9 T_Finder (Finder.C (⟨g_0_1, s16, (some m12), a0.left, a0.visits⟩ : Finder)), oT g_0_1 a0.t, oB b2 T_Step (Step.C (⟨a1.seq, a1.proved, a1.rule, a1.main, s_1⟩ : Step))] [] := S.front 2
  replace S : St A N w w18 [oT g_0_1 a0.t, oDStep s16 (a0.steps ++ [a1]), oMSq m12 (Gw.ins a1.seq (a0.steps.length : Int) a0.at_), oB p9 T_Finder (Finder.C (⟨g_0_1, s16, (some m12), a0.left, a0.visits⟩ : Finder)), oB b2 T_Step (Step.C (⟨a1.seq, a1.proved, a1.rule, a1.main, s_1⟩ : Step))] [] := S.front 3
  replace S : St A N w w18 [oB p9 T_Finder (Finder.C (⟨g_0_1, s16, (some m12), a0.left, a0.visits⟩ : Finder)), oT g_0_1 a0.t, oDStep s16 (a0.steps ++ [a1]), oMSq m12 (Gw.ins a1.seq (a0.steps.length : Int) a0.at_), oB b2 T_Step (Step.C (⟨a1.seq, a1.proved, a1.rule, a1.main, s_1⟩ : Step))] [] := S.front 3
  replace S : St A N w w18 [oF a_0 g_0_1 (⟨a0.t, a0.steps ++ [a1], Gw.ins a1.seq (a0.steps.length : Int) a0.at_, a0.left, a0.visits⟩ : PFinder), oB b2 T_Step (Step.C (⟨a1.seq, a1.proved, a1.rule, a1.main, s_1⟩ : Step))] [] := S.shut_oF hp10
  refine wl_nil ?_
  refine wc_seq (wc_region ?_)
  refine wd (does_mv_p rfl) ?_
  obtain ⟨p19, s21, m22, hp20, S⟩ := S.open_oF 0
  replace S : St A N w w18 [oB p19 T_Finder (Finder.C (⟨g_0_1, s21, (some m22), a0.left, a0.visits⟩ : Finder)), oT g_0_1 a0.t, oDStep s21 (a0.steps ++ [a1]), oMSq m22 (Gw.ins a1.seq (a0.steps.length : Int) a0.at_), oB b2 T_Step (Step.C (⟨a1.seq, a1.proved, a1.rule, a1.main, s_1⟩ : Step))] [] := S
  refine wd (does_nilCheck (congrArg Value.pointer hp20)) ?_
  refine wd (does_fieldAddr fl_Finder_steps rfl (o' := 1) rfl) ?_
  refine wd (does_load on_L_api_Step rfl ((S.blk 0).cell (Finder.get_steps _))) ?_
  refine wd (does_lenD sl_L_api_Step rfl (S.onO 2)) ?_
  refine wd (does_sub rfl rfl) ?_
  refine wd (does_as_i rfl) ?_
  refine wd (does_as_i rfl) ?_
  replace S : St A N w w18 [oMSq m22 (Gw.ins a1.seq (a0.steps.length : Int) a0.at_), oB p19 T_Finder (Finder.C (⟨g_0_1, s21, (some m22), a0.left, a0.visits⟩ : Finder)), oT g_0_1 a0.t, oDStep s21 (a0.steps ++ [a1]), oB b2 T_Step (Step.C (⟨a1.seq, a1.proved, a1.rule, a1.main, s_1⟩ : Step))] [] := S.front 3
  replace S : St A N w w18 [oDStep s21 (a0.steps ++ [a1]), oMSq m22 (Gw.ins a1.seq (a0.steps.length : Int) a0.at_), oB p19 T_Finder (Finder.C (⟨g_0_1, s21, (some m22), a0.left, a0.visits⟩ : Finder)), oT g_0_1 a0.t, oB b2 T_Step (Step.C (⟨a1.seq, a1.proved, a1.rule, a1.main, s_1⟩ : Step))] [] := S.front 3
  replace S : St A N w w18 [oT g_0_1 a0.t, oDStep s21 (a0.steps ++ [a1]), oMSq m22 (Gw.ins a1.seq (a0.steps.length : Int) a0.at_), oB p19 T_Finder (Finder.C (⟨g_0_1, s21, (some m22), a0.left, a0.visits⟩ : Finder)), oB b2 T_Step (Step.C (⟨a1.seq, a1.proved, a1.rule, a1.main, s_1⟩ : Step))] [] := S.front 3
  replace S : St A N w w18 [oB p19 T_Finder (Finder.C (⟨g_0_1, s21, (some m22), a0.left, a0.visits⟩ : Finder)), oT g_0_1 a0.t, oDStep s21 (a0.steps ++ [a1]), oMSq m22 (Gw.ins a1.seq (a0.steps.length : Int) a0.at_), oB b2 T_Step (Step.C (⟨a1.seq, a1.proved, a1.rule, a1.main, s_1⟩ : Step))] [] := S.front 3
  replace S : St A N w w18 [oF a_0 g_0_1 (⟨a0.t, a0.steps ++ [a1], Gw.ins a1.seq (a0.steps.length : Int) a0.at_, a0.left, a0.visits⟩ : PFinder), oB b2 T_Step (Step.C (⟨a1.seq, a1.proved, a1.rule, a1.main, s_1⟩ : Step))] [] := S.shut_oF hp20
  refine wl_nil ?_
  refine wc_ret ?_
  refine ⟨_, (rets2 (retOne_tmp rfl) (retOne_tmp rfl)), ?_⟩
  replace S : St A N w w18 [oF a_0 g_0_1 (⟨a0.t, a0.steps ++ [a1], Gw.ins a1.seq (a0.steps.length : Int) a0.at_, a0.left, a0.visits⟩ : PFinder)] [] := S.arr [0] []
  obtain rfl := Option.some.inj H
  exact ⟨rfl, S⟩
theorem search_finder_choose_gst {rec_search_finder_decide : PFinder → Sq → Option (PFinder × Int × Int)} (hrec_search_finder_decide : ∀ {A : Nat → Prop} {N : Oth} {w : World} {a0 : PFinder} {a_0 : Option Addr} {g_0_1 : Option Addr} {a1 : Sq} (S : St A N w w [oF a_0 g_0_1 a0] [oTz]) {r : PFinder × Int × Int} (H : rec_search_finder_decide a0 a1 = some r), Calls PP F_search_finder_decide #[.pointer a_0, .agg (Sq.C a1).toArray] w fun e w' => ∃ v, e = .returned v ∧ (v = .tuple #[.int .i64 r.2.1, .int .i64 r.2.2] ∧ St A N w w' [oF a_0 g_0_1 r.1] [])) {A : Nat → Prop} {N : Oth} {w : World} {a0 : PFinder} {a_0 : Option Addr} {g_0_1 : Option Addr} {a1 : Sq} (S : St A N w w [oF a_0 g_0_1 a0] [oTz]) {r : PFinder × Int × Int} (H : search_finder_choose.g rec_search_finder_decide a0 a1 = some r) :
    Calls PP F_search_finder_choose #[.pointer a_0, .agg (Sq.C a1).toArray] w fun e w' => ∃ v, e = .returned v ∧ (v = .tuple #[.int .i64 r.2.1, .int .i64 r.2.2] ∧ St A N w w' [oF a_0 g_0_1 r.1] []) := by
  unfold search_finder_choose.g at H
  refine calls_of_wc (n := 126) fn_search_finder_choose rfl rfl (by simp) ?_
  refine wc_seq (wc_region ?_)
  refine wl_box_agg rfl (by decide) fun b2 w1 hw1 => ?_
  replace S : St A N w w1 [oB b2 T_Sq (Sq.C a1), oF a_0 g_0_1 a0] [oTz] := S.new hw1
  refine wd (does_as_i rfl) ?_
  refine wd (does_as_i rfl) ?_
  refine wl_nil ?_
  refine wc_seq ?_
  obtain ⟨p3, s5, m6, hp4, S⟩ := S.open_oF 1
  replace S : St A N w w1 [oB p3 T_Finder (Finder.C (⟨g_0_1, s5, (some m6), a0.left, a0.visits⟩ : Finder)), oT g_0_1 a0.t, oDStep s5 a0.steps, oMSq m6 a0.at_, oB b2 T_Sq (Sq.C a1)] [oTz] := S
  refine wc_ws hmix fun w8 K => ?_
  replace S := S.ext K
  clear K
  refine ws_semi 0 5 [] (by kernel_rfl) (by decide) (by kernel_rfl)
   (V := fun i v u => match i with
    | _ => True) ?_ ?_
  · intro i v u u' hi hx hv
    match i, hv with
    | _, _ => exact trivial
  refine wm_does (fun v K => does_mv_p rfl) rfl ?_
  refine wm_does (fun v K => does_nilCheck (congrArg Value.pointer hp4)) rfl ?_
  refine wm_does (fun v K => does_fieldAddr fl_Finder_t rfl (o' := 0) rfl) rfl ?_
  refine wm_does (fun v K => does_load on_dictum_formula_has rfl (((S.ext K).blk 0).cell (Finder.get_t _))) rfl ?_
  refine wm_does (fun v K => does_load_agg ag_Sq rfl (((S.ext K).blk 4).all _ (Sq.len _)) (Sq.len _)) rfl ?_
  refine wm_nil fun g w9 K hV => ?_
  replace S := S.ext K
  clear K hV
  refine ws_chain 5 7 (by kernel_rfl) (by decide) ?_
  obtain ⟨r11, er11, H⟩ := bind_ex H
  obtain ⟨B13, MB13, SB13, back⟩ := S.calln 0 ((.o 1 rfl (.z 0 rfl .nil)))
  refine wl_call (does_call ca_rule_Choices) (by decide) (rule_Choices_st SB13 er11) ?_
  rintro _ w12 ⟨s14, s15, rfl, S2⟩
  replace S : St A N w w12 [oS T_api_Rule 1 IC s14 r11.1, oS T_int 1 IC s15 r11.2.1, oB p3 T_Finder (Finder.C (⟨g_0_1, s5, (some m6), a0.left, a0.visits⟩ : Finder)), oT g_0_1 a0.t, oDStep s5 a0.steps, oMSq m6 a0.at_, oB b2 T_Sq (Sq.C a1)] [oTz] := back _ _ _ _ S2 rfl
  clear back S2 SB13
  refine wd (does_mv_t rfl) ?_
  refine wl_nil ⟨rfl, ?_⟩
  refine ws_semi 7 12 [] (by kernel_rfl) (by decide) (by kernel_rfl)
   (V := fun i v u => match i with
    | _ => True) ?_ ?_
  · intro i v u u' hi hx hv
    match i, hv with
    | _, _ => exact trivial
  refine wm_does (fun v K => does_extract rfl rfl) rfl ?_
  refine wm_does (fun v K => does_extract rfl rfl) rfl ?_
  refine wm_does (fun v K => does_extract rfl rfl) rfl ?_
  refine wm_does (fun v K => does_as_l rfl) rfl ?_
  refine wm_does (fun v K => does_as_l rfl) rfl ?_
  refine wm_nil fun g w16 K hV => ?_
  replace S := S.ext K
  clear K hV
  refine ws_tail 12 (by kernel_rfl) (by decide) ?_
  refine wd (does_as_i rfl) ?_
  replace S : St A N w w16 [oMSq m6 a0.at_, oS T_api_Rule 1 IC s14 r11.1, oS T_int 1 IC s15 r11.2.1, oB p3 T_Finder (Finder.C (⟨g_0_1, s5, (some m6), a0.left, a0.visits⟩ : Finder)), oT g_0_1 a0.t, oDStep s5 a0.steps, oB b2 T_Sq (Sq.C a1)] [oTz] := S.front 5
  replace S : St A N w w16 [oDStep s5 a0.steps, oMSq m6 a0.at_, oS T_api_Rule 1 IC s14 r11.1, oS T_int 1 IC s15 r11.2.1, oB p3 T_Finder (Finder.C (⟨g_0_1, s5, (some m6), a0.left, a0.visits⟩ : Finder)), oT g_0_1 a0.t, oB b2 T_Sq (Sq.C a1)] [oTz] := S.front 5
  replace S : St A N w w16 [oT g_0_1 a0.t, oDStep s5 a0.steps, oMSq m6 a0.at_, oS T_api_Rule 1 IC s14 r11.1, oS T_int 1 IC s15 r11.2.1, oB p3 T_Finder (Finder.C (⟨g_0_1, s5, (some m6), a0.left, a0.visits⟩ : Finder)), oB b2 T_Sq (Sq.C a1)] [oTz] := S.front 5
  replace S : St A N w w16 [oB p3 T_Finder (Finder.C (⟨g_0_1, s5, (some m6), a0.left, a0.visits⟩ : Finder)), oT g_0_1 a0.t, oDStep s5 a0.steps, oMSq m6 a0.at_, oS T_api_Rule 1 IC s14 r11.1, oS T_int 1 IC s15 r11.2.1, oB b2 T_Sq (Sq.C a1)] [oTz] := S.front 5
  replace S : St A N w w16 [oF a_0 g_0_1 a0, oS T_api_Rule 1 IC s14 r11.1, oS T_int 1 IC s15 r11.2.1, oB b2 T_Sq (Sq.C a1)] [oTz] := S.shut_oF hp4
  refine wl_nil ?_
  refine wc_seq (wc_seq (wc_region ?_))
  refine wd (does_mv_i rfl) ?_
  refine wd (does_ne rfl rfl) ?_
  refine wl_nil ?_
  refine wc_if rfl (fun hc18 => ?_) (fun hc18 => ?_)
  · replace H := if_t hc18 H
    refine wc_seq (wc_region ?_)
    refine wd (does_mv_i rfl) ?_
    refine wd (does_as_i rfl) ?_
    refine wd (does_as_i rfl) ?_
    refine wl_nil ?_
    refine wc_ret ?_
    refine ⟨_, (rets2 (retOne_tmp rfl) (retOne_tmp rfl)), ?_⟩
    replace S : St A N w w16 [oF a_0 g_0_1 a0] [] := S.arr [0] []
    obtain rfl := Option.some.inj H
    exact ⟨rfl, S⟩
  replace H := if_f hc18 H
  refine wc_skip ?_
  refine wc_seq (wc_region ?_)
  refine wd (does_load_agg ag_Sq rfl ((S.blk 3).all _ (Sq.len _)) (Sq.len _)) ?_
  refine wd (Does.to (v' := .agg (Step.C (⟨a1, false, 14, 0, SlV.nil⟩ : Step)).toArray) (does_buildv (vs := [(0, .agg (Sq.C a1).toArray), (2, .int .i64 14)]) bu_Step (consP rfl (consP rfl rfl)) (Bld.step rfl rfl (Sq.len _) (by rw [Step.len]; decide) (Step.put_seq _ _) (Bld.one rfl rfl (by rw [Step.len]; decide) (Step.set_rule _ _) Bld.nil))) rfl) ?_
  refine wl_alloc ze_Step (by decide) fun b20 w19 hw19 => ?_
  replace S : St A N w w19 [oB b20 T_Step (Step.C (⟨Sq.z, false, 0, 0, SlV.nil⟩ : Step)), oF a_0 g_0_1 a0, oS T_api_Rule 1 IC s14 r11.1, oS T_int 1 IC s15 r11.2.1, oB b2 T_Sq (Sq.C a1)] [oTz] := S.new hw19
  refine wl_store_agg ag_Step rfl rfl (S.blk 0) (Step.len _) (by rw [Step.len]; decide) (Step.one _) (store_all (Step.len _)) fun w21 B hw21 zw21 => ?_
  replace S : St A N w w21 [oB b20 T_Step (Step.C (⟨a1, false, 14, 0, SlV.nil⟩ : Step)), oF a_0 g_0_1 a0, oS T_api_Rule 1 IC s14 r11.1, oS T_int 1 IC s15 r11.2.1, oB b2 T_Sq (Sq.C a1)] [oTz] := S.store 0 B hw21
  clear B
  refine wl_nil ?_
  refine wc_seq (wc_seq (wc_region ?_))
  refine wd (does_mv_l rfl) ?_
  refine wd (does_lenR sl_L_api_Rule rfl (S.rdO 2)) ?_
  refine wd (does_mv_i rfl) ?_
  refine wl_nil ?_
  replace S : St A N w w21 [oS T_int 1 IC SlV.nil ([] : List Int), oB b20 T_Step (Step.C (⟨a1, false, 14, 0, SlV.nil⟩ : Step)), oF a_0 g_0_1 a0, oS T_api_Rule 1 IC s14 r11.1, oS T_int 1 IC s15 r11.2.1, oB b2 T_Sq (Sq.C a1)] [oTz] := S.nil T_int 1 IC
  obtain ⟨o22, e22, Ho22⟩ := bind_ex H
  clear H
  refine wc_cutq [4, 5, 10, 11, 12, 13, 14, 15, 16, 17, 18, 36, 37, 38, 39, 40, 41, 42, 43, 44, 45, 46, 47, 48, 49, 50, 51, 52, 53, 54, 55, 56, 57, 58, 59, 60, 61, 62, 63, 64, 65, 66, 67, 68, 69, 70, 71, 72, 73, 74, 75, 76, 77, 78, 79, 80, 81, 82, 83, 84, 85, 86, 87, 88, 89, 90, 91, 92, 93, 94, 95, 96, 97, 98, 99, 100, 101, 102, 103, 104, 105, 106, 107, 108, 109, 110, 111, 112, 113, 114, 115, 116, 117, 118, 119, 120] (fun fr W => ∃ s22 : PStep × PFinder, o22 = .inl s22 ∧ ∃ s23 : SlV, St A N w W [oS T_int 1 IC s23 s22.1.kids, oB b20 T_Step (Step.C (⟨s22.1.seq, s22.1.proved, s22.1.rule, s22.1.main, s23⟩ : Step)), oF a_0 g_0_1 s22.2, oS T_api_Rule 1 IC s14 r11.1, oS T_int 1 IC s15 r11.2.1, oB b2 T_Sq (Sq.C a1)] [oTz]) ?_ ?_
  · refine wc_block ?_
    refine wc_loopm (α := Nat × Int × (PStep × PFinder)) [4, 5, 10, 11, 12, 13, 14, 15, 16, 17, 18, 36, 37, 38, 39, 40, 41, 42, 43, 44, 45, 46, 47, 48, 49, 50, 51, 52, 53, 54, 55, 56, 57, 58, 59, 60, 61, 62, 63, 64, 65, 66, 67, 68, 69, 70, 71, 72, 73, 74, 75, 76, 77, 78, 79, 80, 81, 82, 83, 84, 85, 86, 87, 88, 89, 90, 91, 92, 93, 94, 95, 96, 97, 98, 99, 100, 101, 102, 103, 104, 105, 106, 107, 108, 109, 110, 111, 112, 113, 114, 115, 116, 117, 118, 119, 120] (fun x fr W => (x.1 : Int) = (r11.1.length : Int) - x.2.1 ∧ 0 ≤ x.2.1 ∧ forN (fun i s => search_finder_choose.b0 r11 a1 rec_search_finder_decide i s.1 s.2) x.1 x.2.1 x.2.2 = some o22 ∧ ∃ s24 : SlV, fr 36 = .int .i64 x.2.1 ∧ St A N w W [oS T_int 1 IC s24 ((x.2.2.1).kids), oB b20 T_Step (Step.C (⟨(x.2.2.1).seq, (x.2.2.1).proved, (x.2.2.1).rule, (x.2.2.1).main, s24⟩ : Step)), oF a_0 g_0_1 (x.2.2.2), oS T_api_Rule 1 IC s14 r11.1, oS T_int 1 IC s15 r11.2.1, oB b2 T_Sq (Sq.C a1)] [oTz]) (fun x => x.1) (((r11.1.length : Int) - 0).toNat, 0, ((⟨a1, false, 14, 0, ([] : List Int)⟩ : PStep), a0)) ⟨(by dsimp only; have hle := Int.natCast_nonneg (r11.1.length); omega), (Int.le_refl _), (by dsimp only; exact e22), SlV.nil, rfl, S⟩ ?_
    rintro ⟨m22, i22, ⟨x22_0, x22_1⟩⟩ g22 u22 ⟨hm22, hl22, e22, s25, q22_i, S⟩
    try dsimp only at hm22
    try dsimp only at hl22
    try dsimp only at e22
    try dsimp only at S
    try dsimp only at q22_i
    refine wc_seq (wc_region ?_)
    refine wd (does_lt q22_i rfl) ?_
    refine wl_nil ?_
    refine wc_seq ?_
    refine wc_if rfl (fun hc26 => ?_) (fun hc26 => ?_)
    rotate_left
    · refine wc_exit ?_
      have hge : (r11.1.length : Int) ≤ i22 := Int.not_lt.1 (of_decide_eq_false hc26)
      obtain rfl : m22 = 0 := by omega
      replace e22 := forN_0 e22
      exact ⟨rfl, ((Dif.self _ _ _).upd rfl _), (x22_0, x22_1), e22, s25, S⟩
    refine wc_skip ?_
    have hlt22 : i22 < (r11.1.length : Int) := of_decide_eq_true hc26
    obtain ⟨m22, rfl⟩ : ∃ m, m22 = m + 1 := ⟨m22 - 1, by omega⟩
    obtain ⟨q22, H, e22⟩ := forN_s e22
    unfold search_finder_choose.b0 at H
    try dsimp only at H
    have hb22 := (S.lenO 3)
    refine wc_seq ?_
    refine wc_block ?_
    refine wc_seq (wc_region ?_)
    refine wd (does_mv_i q22_i) ?_
    refine wd (does_indexR sl_L_api_Rule rfl q22_i (S.rdO 3) (And.intro (show 0 ≤ i22 by omega) (show i22 < (r11.1.length : Int) from hlt22)).1 (And.intro (show 0 ≤ i22 by omega) (show i22 < (r11.1.length : Int) from hlt22)).2) ?_
    refine wd (does_load on_api_Rule rfl ((S.rdO 3).one (at_some (0 : Int) (And.intro (show 0 ≤ i22 by omega) (show i22 < (r11.1.length : Int) from hlt22))) rfl)) ?_
    refine wd (does_as_i rfl) ?_
    refine wd (does_as_i rfl) ?_
    refine wl_nil ?_
    refine wc_seq ?_
    obtain ⟨p28, s30, m31, hp29, S⟩ := S.open_oF 2
    replace S : St A N w u22 [oB p28 T_Finder (Finder.C (⟨g_0_1, s30, (some m31), x22_1.left, x22_1.visits⟩ : Finder)), oT g_0_1 x22_1.t, oDStep s30 x22_1.steps, oMSq m31 x22_1.at_, oS T_int 1 IC s25 x22_0.kids, oB b20 T_Step (Step.C (⟨x22_0.seq, x22_0.proved, x22_0.rule, x22_0.main, s25⟩ : Step)), oS T_api_Rule 1 IC s14 r11.1, oS T_int 1 IC s15 r11.2.1, oB b2 T_Sq (Sq.C a1)] [oTz] := S
    refine wc_ws hmix fun w34 K => ?_
    replace S := S.ext K
    clear K
    obtain ⟨hi35, H⟩ := chk_ex H
    refine ws_semi 0 10 [] (by kernel_rfl) (by decide) (by kernel_rfl)
     (V := fun i v u => match i with
      | _ => True) ?_ ?_
    · intro i v u u' hi hx hv
      match i, hv with
      | _, _ => exact trivial
    refine wm_does (fun v K => does_mv_p rfl) rfl ?_
    refine wm_does (fun v K => does_nilCheck (congrArg Value.pointer hp29)) rfl ?_
    refine wm_does (fun v K => does_fieldAddr fl_Finder_t rfl (o' := 0) rfl) rfl ?_
    refine wm_does (fun v K => does_load on_dictum_formula_has rfl (((S.ext K).blk 0).cell (Finder.get_t _))) rfl ?_
    refine wm_does (fun v K => does_load_agg ag_Sq rfl (((S.ext K).blk 8).all _ (Sq.len _)) (Sq.len _)) rfl ?_
    refine wm_does (fun v K => does_mv_i rfl) rfl ?_
    refine wm_does (fun v K => does_mv_l rfl) rfl ?_
    refine wm_does (fun v K => does_mv_i rfl) rfl ?_
    refine wm_does (fun v K => does_indexR sl_L_int rfl rfl ((S.ext K).rdO 7) (inb_ex hi35).1 (inb_ex hi35).2) rfl ?_
    refine wm_does (fun v K => does_load on_int rfl (((S.ext K).rdO 7).one (at_some (0 : Int) (inb_ex hi35)) rfl)) rfl ?_
    refine wm_nil fun g w36 K hV => ?_
    replace S := S.ext K
    clear K hV
    refine ws_chain 10 12 (by kernel_rfl) (by decide) ?_
    obtain ⟨r38, er38, H⟩ := bind_ex H
    replace S : St A N w w36 [oT g_0_1 x22_1.t, oB p28 T_Finder (Finder.C (⟨g_0_1, s30, (some m31), x22_1.left, x22_1.visits⟩ : Finder)), oDStep s30 x22_1.steps, oMSq m31 x22_1.at_, oS T_int 1 IC s25 x22_0.kids, oB b20 T_Step (Step.C (⟨x22_0.seq, x22_0.proved, x22_0.rule, x22_0.main, s25⟩ : Step)), oS T_api_Rule 1 IC s14 r11.1, oS T_int 1 IC s15 r11.2.1, oB b2 T_Sq (Sq.C a1)] [oTz] := S.front 1
    obtain ⟨B40, MB40, SB40, back⟩ := S.calln 1 ((.z 0 rfl .nil))
    refine wl_call (does_call ca_rule_Premises) (by decide) (rule_Premises_st SB40 er38) ?_
    rintro _ w39 ⟨s41, rfl, S2⟩
    replace S : St A N w w39 [oT g_0_1 r38.1, oS T_Sq 17 Sq.C s41 r38.2.1, oB p28 T_Finder (Finder.C (⟨g_0_1, s30, (some m31), x22_1.left, x22_1.visits⟩ : Finder)), oDStep s30 x22_1.steps, oMSq m31 x22_1.at_, oS T_int 1 IC s25 x22_0.kids, oB b20 T_Step (Step.C (⟨x22_0.seq, x22_0.proved, x22_0.rule, x22_0.main, s25⟩ : Step)), oS T_api_Rule 1 IC s14 r11.1, oS T_int 1 IC s15 r11.2.1, oB b2 T_Sq (Sq.C a1)] [oTz] := back _ _ _ _ S2 rfl
    clear back S2 SB40
    refine wd (does_mv_t rfl) ?_
    refine wl_nil ⟨rfl, ?_⟩
    refine ws_semi 12 15 [] (by kernel_rfl) (by decide) (by kernel_rfl)
     (V := fun i v u => match i with
      | _ => True) ?_ ?_
    · intro i v u u' hi hx hv
      match i, hv with
      | _, _ => exact trivial
    refine wm_does (fun v K => does_extract rfl rfl) rfl ?_
    refine wm_does (fun v K => does_extract rfl rfl) rfl ?_
    refine wm_does (fun v K => does_as_l rfl) rfl ?_
    refine wm_nil fun g w42 K hV => ?_
    replace S := S.ext K
    clear K hV
    refine ws_tail 15 (by kernel_rfl) (by decide) ?_
    refine wd (does_as_i rfl) ?_
    replace S : St A N w w42 [oMSq m31 x22_1.at_, oT g_0_1 r38.1, oS T_Sq 17 Sq.C s41 r38.2.1, oB p28 T_Finder (Finder.C (⟨g_0_1, s30, (some m31), x22_1.left, x22_1.visits⟩ : Finder)), oDStep s30 x22_1.steps, oS T_int 1 IC s25 x22_0.kids, oB b20 T_Step (Step.C (⟨x22_0.seq, x22_0.proved, x22_0.rule, x22_0.main, s25⟩ : Step)), oS T_api_Rule 1 IC s14 r11.1, oS T_int 1 IC s15 r11.2.1, oB b2 T_Sq (Sq.C a1)] [oTz] := S.front 4
    replace S : St A N w w42 [oDStep s30 x22_1.steps, oMSq m31 x22_1.at_, oT g_0_1 r38.1, oS T_Sq 17 Sq.C s41 r38.2.1, oB p28 T_Finder (Finder.C (⟨g_0_1, s30, (some m31), x22_1.left, x22_1.visits⟩ : Finder)), oS T_int 1 IC s25 x22_0.kids, oB b20 T_Step (Step.C (⟨x22_0.seq, x22_0.proved, x22_0.rule, x22_0.main, s25⟩ : Step)), oS T_api_Rule 1 IC s14 r11.1, oS T_int 1 IC s15 r11.2.1, oB b2 T_Sq (Sq.C a1)] [oTz] := S.front 4
    replace S : St A N w w42 [oT g_0_1 r38.1, oDStep s30 x22_1.steps, oMSq m31 x22_1.at_, oS T_Sq 17 Sq.C s41 r38.2.1, oB p28 T_Finder (Finder.C (⟨g_0_1, s30, (some m31), x22_1.left, x22_1.visits⟩ : Finder)), oS T_int 1 IC s25 x22_0.kids, oB b20 T_Step (Step.C (⟨x22_0.seq, x22_0.proved, x22_0.rule, x22_0.main, s25⟩ : Step)), oS T_api_Rule 1 IC s14 r11.1, oS T_int 1 IC s15 r11.2.1, oB b2 T_Sq (Sq.C a1)] [oTz] := S.front 2
    replace S : St A N w w42 [oB p28 T_Finder (Finder.C (⟨g_0_1, s30, (some m31), x22_1.left, x22_1.visits⟩ : Finder)), oT g_0_1 r38.1, oDStep s30 x22_1.steps, oMSq m31 x22_1.at_, oS T_Sq 17 Sq.C s41 r38.2.1, oS T_int 1 IC s25 x22_0.kids, oB b20 T_Step (Step.C (⟨x22_0.seq, x22_0.proved, x22_0.rule, x22_0.main, s25⟩ : Step)), oS T_api_Rule 1 IC s14 r11.1, oS T_int 1 IC s15 r11.2.1, oB b2 T_Sq (Sq.C a1)] [oTz] := S.front 4
    replace S : St A N w w42 [oF a_0 g_0_1 (⟨r38.1, x22_1.steps, x22_1.at_, x22_1.left, x22_1.visits⟩ : PFinder), oS T_Sq 17 Sq.C s41 r38.2.1, oS T_int 1 IC s25 x22_0.kids, oB b20 T_Step (Step.C (⟨x22_0.seq, x22_0.proved, x22_0.rule, x22_0.main, s25⟩ : Step)), oS T_api_Rule 1 IC s14 r11.1, oS T_int 1 IC s15 r11.2.1, oB b2 T_Sq (Sq.C a1)] [oTz] := S.shut_oF hp29
    refine wl_nil ?_
    refine wc_seq (wc_seq (wc_region ?_))
    refine wd (does_mv_i rfl) ?_
    refine wd (does_ne rfl rfl) ?_
    refine wl_nil ?_
    refine wc_if rfl (fun hc44 => ?_) (fun hc44 => ?_)
    · replace H := if_t hc44 H
      refine wc_seq (wc_region ?_)
      refine wd (does_mv_i rfl) ?_
      refine wd (does_as_i rfl) ?_
      refine wd (does_as_i rfl) ?_
      refine wl_nil ?_
      refine wc_ret ?_
      refine ⟨_, (rets2 (retOne_tmp rfl) (retOne_tmp rfl)), ?_⟩
      replace S : St A N w w42 [oF a_0 g_0_1 (⟨r38.1, x22_1.steps, x22_1.at_, x22_1.left, x22_1.visits⟩ : PFinder)] [] := S.arr [0] []
      obtain rfl := Option.some.inj H
      obtain rfl := e22
      obtain rfl := aft_r Ho22
      exact ⟨rfl, S⟩
    replace H := if_f hc44 H
    refine wc_skip ?_
    refine wc_seq ?_
    obtain ⟨hi45, H⟩ := chk_ex H
    refine wc_semi 8 [7]
      (fun i v u => match i with
      | 7 => ∃ b, v = Value.pointer (some ⟨b, 0, none⟩) ∧ Blk u b T_Step (Step.C (⟨Sq.z, false, 0, 0, SlV.nil⟩ : Step)) ∧ w42.heap.size ≤ b
      | _ => True) hmix (by kernel_rfl) (by kernel_rfl) ?_ ?_
    · intro i v u u' hi hx hv
      match i, hv with
      | 7, ⟨b, e1, hb, hl⟩ => exact ⟨b, e1, hb.ext hx, hl⟩
      | 0, _ => exact trivial
      | 1, _ => exact trivial
      | 2, _ => exact trivial
      | 3, _ => exact trivial
      | 4, _ => exact trivial
      | 5, _ => exact trivial
      | 6, _ => exact trivial
      | _ + 8, _ => exact trivial
    refine wm_does (fun v K => does_load_agg ag_Sq rfl (((S.ext K).blk 6).all _ (Sq.len _)) (Sq.len _)) rfl ?_
    refine wm_does (fun v K => does_mv_i rfl) rfl ?_
    refine wm_does (fun v K => does_mv_l rfl) rfl ?_
    refine wm_does (fun v K => does_mv_i rfl) rfl ?_
    refine wm_does (fun v K => does_indexR sl_L_int rfl rfl ((S.ext K).rdO 5) (inb_ex hi45).1 (inb_ex hi45).2) rfl ?_
    refine wm_does (fun v K => does_load on_int rfl (((S.ext K).rdO 5).one (at_some (0 : Int) (inb_ex hi45)) rfl)) rfl ?_
    refine wm_does (fun v K => Does.to (v' := .agg (Step.C (⟨a1, true, at_ (0 : Int) r11.1 i22, at_ (0 : Int) r11.2.1 i22, SlV.nil⟩ : Step)).toArray) (does_buildv (vs := [(0, .agg (Sq.C a1).toArray), (1, .bool true), (2, .int .i64 (at_ (0 : Int) r11.1 i22)), (3, .int .i64 (at_ (0 : Int) r11.2.1 i22))]) bu_Step (consP rfl (consP rfl (consP rfl (consP rfl rfl)))) (Bld.step rfl rfl (Sq.len _) (by rw [Step.len]; decide) (Step.put_seq _ _) (Bld.one rfl rfl (by rw [Step.len]; decide) (Step.set_proved _ _) (Bld.one rfl rfl (by rw [Step.len]; decide) (Step.set_rule _ _) (Bld.one rfl rfl (by rw [Step.len]; decide) (Step.set_main _ _) Bld.nil))))) rfl) rfl ?_
    refine wm_new (fun g v K G => (have ⟨v', hd, hn⟩ := does_allocN ze_Step; ⟨_, v', hd, hn.ext, _, rfl, hn.blk, K.size⟩)) rfl ?_
    refine wm_nil fun g w47 K hV => ?_
    obtain ⟨b46, hv487, hb7, hf7⟩ := hV 7 rfl (by decide)
    replace S : St A N w w47 [oB b46 T_Step (Step.C (⟨Sq.z, false, 0, 0, SlV.nil⟩ : Step)), oF a_0 g_0_1 (⟨r38.1, x22_1.steps, x22_1.at_, x22_1.left, x22_1.visits⟩ : PFinder), oS T_Sq 17 Sq.C s41 r38.2.1, oS T_int 1 IC s25 x22_0.kids, oB b20 T_Step (Step.C (⟨x22_0.seq, x22_0.proved, x22_0.rule, x22_0.main, s25⟩ : Step)), oS T_api_Rule 1 IC s14 r11.1, oS T_int 1 IC s15 r11.2.1, oB b2 T_Sq (Sq.C a1)] [oTz] := S.newAt K hb7 hf7
    clear K hV
    refine wl_store_agg ag_Step hv487 rfl (S.blk 0) (Step.len _) (by rw [Step.len]; decide) (Step.one _) (store_all (Step.len _)) fun w49 B hw49 zw49 => ?_
    replace S : St A N w w49 [oB b46 T_Step (Step.C (⟨a1, true, at_ (0 : Int) r11.1 i22, at_ (0 : Int) r11.2.1 i22, SlV.nil⟩ : Step)), oF a_0 g_0_1 (⟨r38.1, x22_1.steps, x22_1.at_, x22_1.left, x22_1.visits⟩ : PFinder), oS T_Sq 17 Sq.C s41 r38.2.1, oS T_int 1 IC s25 x22_0.kids, oB b20 T_Step (Step.C (⟨x22_0.seq, x22_0.proved, x22_0.rule, x22_0.main, s25⟩ : Step)), oS T_api_Rule 1 IC s14 r11.1, oS T_int 1 IC s15 r11.2.1, oB b2 T_Sq (Sq.C a1)] [oTz] := S.store 0 B hw49
    clear B
    refine wl_nil ?_
    refine wc_seq (wc_seq (wc_region ?_))
    refine wd (does_mv_l rfl) ?_
    refine wd (does_lenR sl_L_api_Seq rfl (S.rdO 2)) ?_
    refine wd (does_mv_i rfl) ?_
    refine wl_nil ?_
    replace S : St A N w w49 [oS T_int 1 IC SlV.nil ([] : List Int), oB b46 T_Step (Step.C (⟨a1, true, at_ (0 : Int) r11.1 i22, at_ (0 : Int) r11.2.1 i22, SlV.nil⟩ : Step)), oF a_0 g_0_1 (⟨r38.1, x22_1.steps, x22_1.at_, x22_1.left, x22_1.visits⟩ : PFinder), oS T_Sq 17 Sq.C s41 r38.2.1, oS T_int 1 IC s25 x22_0.kids, oB b20 T_Step (Step.C (⟨x22_0.seq, x22_0.proved, x22_0.rule, x22_0.main, s25⟩ : Step)), oS T_api_Rule 1 IC s14 r11.1, oS T_int 1 IC s15 r11.2.1, oB b2 T_Sq (Sq.C a1)] [oTz] := S.nil T_int 1 IC
    obtain ⟨o50, e50, Ho50⟩ := bind_ex H
    clear H
    refine wc_cutq [4, 5, 15, 16, 17, 18, 67, 68, 69, 70, 71, 72, 73, 74, 75, 76, 77, 78, 79, 80, 81, 82, 83, 84, 85, 86, 87, 88, 89, 90, 91, 92, 93, 94, 95, 96, 97, 98, 99, 100, 101, 102, 103, 104, 105, 106, 107, 108, 109, 110, 111, 112] (fun fr W => ∃ s50 : PStep × PFinder × PStep, o50 = .inl s50 ∧ ∃ s51 : SlV, ∃ s52 : SlV, St A N w W [oS T_int 1 IC s51 s50.1.kids, oB b46 T_Step (Step.C (⟨s50.1.seq, s50.1.proved, s50.1.rule, s50.1.main, s51⟩ : Step)), oF a_0 g_0_1 s50.2.1, oS T_Sq 17 Sq.C s41 r38.2.1, oS T_int 1 IC s52 s50.2.2.kids, oB b20 T_Step (Step.C (⟨s50.2.2.seq, s50.2.2.proved, s50.2.2.rule, s50.2.2.main, s52⟩ : Step)), oS T_api_Rule 1 IC s14 r11.1, oS T_int 1 IC s15 r11.2.1, oB b2 T_Sq (Sq.C a1)] [oTz]) ?_ ?_
    · refine wc_block ?_
      refine wc_loopm (α := Nat × Int × (PStep × PFinder × PStep)) [4, 5, 15, 16, 17, 18, 67, 68, 69, 70, 71, 72, 73, 74, 75, 76, 77, 78, 79, 80, 81, 82, 83, 84, 85, 86, 87, 88, 89, 90, 91, 92, 93, 94, 95, 96, 97, 98, 99, 100, 101, 102, 103, 104, 105, 106, 107, 108, 109, 110, 111, 112] (fun x fr W => (x.1 : Int) = (r38.2.1.length : Int) - x.2.1 ∧ 0 ≤ x.2.1 ∧ forN (fun i s => search_finder_choose.b1 rec_search_finder_decide r38 i s.1 s.2.1 s.2.2) x.1 x.2.1 x.2.2 = some o50 ∧ ∃ s53 : SlV, ∃ s54 : SlV, fr 67 = .int .i64 x.2.1 ∧ St A N w W [oS T_int 1 IC s53 ((x.2.2.1).kids), oB b46 T_Step (Step.C (⟨(x.2.2.1).seq, (x.2.2.1).proved, (x.2.2.1).rule, (x.2.2.1).main, s53⟩ : Step)), oF a_0 g_0_1 (x.2.2.2.1), oS T_Sq 17 Sq.C s41 r38.2.1, oS T_int 1 IC s54 ((x.2.2.2.2).kids), oB b20 T_Step (Step.C (⟨(x.2.2.2.2).seq, (x.2.2.2.2).proved, (x.2.2.2.2).rule, (x.2.2.2.2).main, s54⟩ : Step)), oS T_api_Rule 1 IC s14 r11.1, oS T_int 1 IC s15 r11.2.1, oB b2 T_Sq (Sq.C a1)] [oTz]) (fun x => x.1) (((r38.2.1.length : Int) - 0).toNat, 0, ((⟨a1, true, at_ (0 : Int) r11.1 i22, at_ (0 : Int) r11.2.1 i22, ([] : List Int)⟩ : PStep), (⟨r38.1, x22_1.steps, x22_1.at_, x22_1.left, x22_1.visits⟩ : PFinder), x22_0)) ⟨(by dsimp only; have hle := Int.natCast_nonneg (r38.2.1.length); omega), (Int.le_refl _), (by dsimp only; exact e50), SlV.nil, s25, rfl, S⟩ ?_
      rintro ⟨m50, i50, ⟨x50_0, x50_1, x50_2⟩⟩ g50 u50 ⟨hm50, hl50, e50, s55, s56, q50_i, S⟩
      try dsimp only at hm50
      try dsimp only at hl50
      try dsimp only at e50
      try dsimp only at S
      try dsimp only at q50_i
      refine wc_seq (wc_region ?_)
      refine wd (does_lt q50_i rfl) ?_
      refine wl_nil ?_
      refine wc_seq ?_
      refine wc_if rfl (fun hc57 => ?_) (fun hc57 => ?_)
      rotate_left
      · refine wc_exit ?_
        have hge : (r38.2.1.length : Int) ≤ i50 := Int.not_lt.1 (of_decide_eq_false hc57)
        obtain rfl : m50 = 0 := by omega
        replace e50 := forN_0 e50
        exact ⟨rfl, ((Dif.self _ _ _).upd rfl _), (x50_0, x50_1, x50_2), e50, s55, s56, S⟩
      refine wc_skip ?_
      have hlt50 : i50 < (r38.2.1.length : Int) := of_decide_eq_true hc57
      obtain ⟨m50, rfl⟩ : ∃ m, m50 = m + 1 := ⟨m50 - 1, by omega⟩
      obtain ⟨q50, H, e50⟩ := forN_s e50
      unfold search_finder_choose.b1 at H
      try dsimp only at H
      have hb50 := (S.lenO 3)
      refine wc_seq ?_
      refine wc_block ?_
      refine wc_seq (wc_region ?_)
      refine wd (does_mv_i q50_i) ?_
      refine wd (does_indexR sl_L_api_Seq rfl q50_i (S.rdO 3) (And.intro (show 0 ≤ i50 by omega) (show i50 < (r38.2.1.length : Int) from hlt50)).1 (And.intro (show 0 ≤ i50 by omega) (show i50 < (r38.2.1.length : Int) from hlt50)).2) ?_
      refine wd (does_load_agg ag_Sq rfl ((S.rdO 3).at (at_some Sq.z (And.intro (show 0 ≤ i50 by omega) (show i50 < (r38.2.1.length : Int) from hlt50)))) (Sq.len _)) ?_
      refine wl_alloc ze_Sq (by decide) fun b60 w59 hw59 => ?_
      replace S : St A N w w59 [oB b60 T_Sq (Sq.C Sq.z), oS T_int 1 IC s55 x50_0.kids, oB b46 T_Step (Step.C (⟨x50_0.seq, x50_0.proved, x50_0.rule, x50_0.main, s55⟩ : Step)), oF a_0 g_0_1 x50_1, oS T_Sq 17 Sq.C s41 r38.2.1, oS T_int 1 IC s56 x50_2.kids, oB b20 T_Step (Step.C (⟨x50_2.seq, x50_2.proved, x50_2.rule, x50_2.main, s56⟩ : Step)), oS T_api_Rule 1 IC s14 r11.1, oS T_int 1 IC s15 r11.2.1, oB b2 T_Sq (Sq.C a1)] [oTz] := S.new hw59
      refine wd (does_as_i rfl) ?_
      refine wl_store_agg ag_Sq rfl rfl (S.blk 0) (Sq.len _) (by rw [Sq.len]; decide) (Sq.one _) (store_all (Sq.len _)) fun w61 B hw61 zw61 => ?_
      replace S : St A N w w61 [oB b60 T_Sq (Sq.C (at_ Sq.z r38.2.1 i50)), oS T_int 1 IC s55 x50_0.kids, oB b46 T_Step (Step.C (⟨x50_0.seq, x50_0.proved, x50_0.rule, x50_0.main, s55⟩ : Step)), oF a_0 g_0_1 x50_1, oS T_Sq 17 Sq.C s41 r38.2.1, oS T_int 1 IC s56 x50_2.kids, oB b20 T_Step (Step.C (⟨x50_2.seq, x50_2.proved, x50_2.rule, x50_2.main, s56⟩ : Step)), oS T_api_Rule 1 IC s14 r11.1, oS T_int 1 IC s15 r11.2.1, oB b2 T_Sq (Sq.C a1)] [oTz] := S.store 0 B hw61
      clear B
      refine wl_nil ?_
      refine wc_seq (wc_region ?_)
      refine wd (does_mv_p rfl) ?_
      refine wd (does_load_agg ag_Sq rfl ((S.blk 0).all _ (Sq.len _)) (Sq.len _)) ?_
      obtain ⟨r62, er62, H⟩ := bind_ex H
      replace S : St A N w w61 [oF a_0 g_0_1 x50_1, oB b60 T_Sq (Sq.C (at_ Sq.z r38.2.1 i50)), oS T_int 1 IC s55 x50_0.kids, oB b46 T_Step (Step.C (⟨x50_0.seq, x50_0.proved, x50_0.rule, x50_0.main, s55⟩ : Step)), oS T_Sq 17 Sq.C s41 r38.2.1, oS T_int 1 IC s56 x50_2.kids, oB b20 T_Step (Step.C (⟨x50_2.seq, x50_2.proved, x50_2.rule, x50_2.main, s56⟩ : Step)), oS T_api_Rule 1 IC s14 r11.1, oS T_int 1 IC s15 r11.2.1, oB b2 T_Sq (Sq.C a1)] [oTz] := S.front 3
      obtain ⟨B64, MB64, SB64, back⟩ := S.calln 1 ((.z 0 rfl .nil))
      refine wl_call (does_call ca_search_finder_decide) (by decide) (hrec_search_finder_decide SB64 er62) ?_
      rintro _ w63 ⟨rfl, S2⟩
      replace S : St A N w w63 [oF a_0 g_0_1 r62.1, oB b60 T_Sq (Sq.C (at_ Sq.z r38.2.1 i50)), oS T_int 1 IC s55 x50_0.kids, oB b46 T_Step (Step.C (⟨x50_0.seq, x50_0.proved, x50_0.rule, x50_0.main, s55⟩ : Step)), oS T_Sq 17 Sq.C s41 r38.2.1, oS T_int 1 IC s56 x50_2.kids, oB b20 T_Step (Step.C (⟨x50_2.seq, x50_2.proved, x50_2.rule, x50_2.main, s56⟩ : Step)), oS T_api_Rule 1 IC s14 r11.1, oS T_int 1 IC s15 r11.2.1, oB b2 T_Sq (Sq.C a1)] [oTz] := back _ _ _ _ S2 rfl
      clear back S2 SB64
      refine wd (does_mv_t rfl) ?_
      refine wd (does_extract rfl rfl) ?_
      refine wd (does_extract rfl rfl) ?_
      refine wd (does_as_i rfl) ?_
      refine wd (does_as_i rfl) ?_
      refine wl_nil ?_
      refine wc_seq (wc_seq (wc_region ?_))
      refine wd (does_mv_i rfl) ?_
      refine wd (does_ne rfl rfl) ?_
      refine wl_nil ?_
      refine wc_if rfl (fun hc65 => ?_) (fun hc65 => ?_)
      · replace H := if_t hc65 H
        refine wc_seq (wc_region ?_)
        refine wd (does_mv_i rfl) ?_
        refine wd (does_as_i rfl) ?_
        refine wd (does_as_i rfl) ?_
        refine wl_nil ?_
        refine wc_ret ?_
        refine ⟨_, (rets2 (retOne_tmp rfl) (retOne_tmp rfl)), ?_⟩
        replace S : St A N w w63 [oF a_0 g_0_1 r62.1] [] := S.arr [0] []
        obtain rfl := Option.some.inj H
        obtain rfl := e50
        obtain rfl := aft_r Ho50
        obtain rfl := e22
        obtain rfl := aft_r Ho22
        exact ⟨rfl, S⟩
      replace H := if_f hc65 H
      refine wc_skip ?_
      refine wc_seq (wc_region ?_)
      refine wd (does_fieldAddr fl_Step_kids hv487 (o' := 20) rfl) ?_
      refine wd (does_load on_L_int rfl ((S.blk 3).cell (Step.get_kids _))) ?_
      refine wd (does_mv_i rfl) ?_
      refine wl_lits (C := IC) (l := [r62.2.1]) (vs := [.int .i64 r62.2.1]) sl_L_int el_int.zero rfl rfl (fun _ _ => rfl) (by decide) rfl (by decide) fun b67 w66 s68 hBw66 hw66 => ?_
      replace S : St A N w w66 [oS T_int 1 IC s68 ([r62.2.1]), oF a_0 g_0_1 r62.1, oB b60 T_Sq (Sq.C (at_ Sq.z r38.2.1 i50)), oS T_int 1 IC s55 x50_0.kids, oB b46 T_Step (Step.C (⟨x50_0.seq, x50_0.proved, x50_0.rule, x50_0.main, s55⟩ : Step)), oS T_Sq 17 Sq.C s41 r38.2.1, oS T_int 1 IC s56 x50_2.kids, oB b20 T_Step (Step.C (⟨x50_2.seq, x50_2.proved, x50_2.rule, x50_2.main, s56⟩ : Step)), oS T_api_Rule 1 IC s14 r11.1, oS T_int 1 IC s15 r11.2.1, oB b2 T_Sq (Sq.C a1)] [oTz] := S.lit hBw66 hw66 (by simp)
      obtain ⟨ha71, H⟩ := chk_ex H
      have ha71 := of_decide_eq_true ha71
      refine wl_appends (C := IC) sl_L_int el_int rfl rfl (S.sl 3) (S.rdO 0) (by simp) (fun a _ v hv => by rw [List.mem_singleton.1 hv]; rfl) ha71 (by omega) (by decide) fun s70 w69 O hw69 gw69 => ?_
      replace S : St A N w w69 [oS T_int 1 IC s70 (x50_0.kids ++ [r62.2.1]), oS T_int 1 IC s68 ([r62.2.1]), oF a_0 g_0_1 r62.1, oB b60 T_Sq (Sq.C (at_ Sq.z r38.2.1 i50)), oB b46 T_Step (Step.C (⟨x50_0.seq, x50_0.proved, x50_0.rule, x50_0.main, s55⟩ : Step)), oS T_Sq 17 Sq.C s41 r38.2.1, oS T_int 1 IC s56 x50_2.kids, oB b20 T_Step (Step.C (⟨x50_2.seq, x50_2.proved, x50_2.rule, x50_2.main, s56⟩ : Step)), oS T_api_Rule 1 IC s14 r11.1, oS T_int 1 IC s15 r11.2.1, oB b2 T_Sq (Sq.C a1)] [oTz] := S.push 3 O (by first | (simp; done) | (simp; omega)) hw69 gw69
      clear O
      refine wd (does_fieldAddr fl_Step_kids hv487 (o' := 20) rfl) ?_
      refine wl_store on_L_int rfl rfl (S.blk 4) (by rw [Step.len]; decide) (SlV.one _ _ rfl) (Step.set_kids _ _) fun w72 B hw72 zw72 => ?_
      replace S : St A N w w72 [oB b46 T_Step (Step.C (⟨x50_0.seq, x50_0.proved, x50_0.rule, x50_0.main, s70⟩ : Step)), oS T_int 1 IC s70 (x50_0.kids ++ [r62.2.1]), oS T_int 1 IC s68 ([r62.2.1]), oF a_0 g_0_1 r62.1, oB b60 T_Sq (Sq.C (at_ Sq.z r38.2.1 i50)), oS T_Sq 17 Sq.C s41 r38.2.1, oS T_int 1 IC s56 x50_2.kids, oB b20 T_Step (Step.C (⟨x50_2.seq, x50_2.proved, x50_2.rule, x50_2.main, s56⟩ : Step)), oS T_api_Rule 1 IC s14 r11.1, oS T_int 1 IC s15 r11.2.1, oB b2 T_Sq (Sq.C a1)] [oTz] := S.store 4 B hw72
      clear B
      refine wl_nil ?_
      refine wc_seq (wc_seq (wc_region ?_))
      refine wd (does_mv_p rfl) ?_
      obtain ⟨p73, s75, m76, hp74, S⟩ := S.open_oF 3
      replace S : St A N w w72 [oB p73 T_Finder (Finder.C (⟨g_0_1, s75, (some m76), r62.1.left, r62.1.visits⟩ : Finder)), oT g_0_1 r62.1.t, oDStep s75 r62.1.steps, oMSq m76 r62.1.at_, oB b46 T_Step (Step.C (⟨x50_0.seq, x50_0.proved, x50_0.rule, x50_0.main, s70⟩ : Step)), oS T_int 1 IC s70 (x50_0.kids ++ [r62.2.1]), oS T_int 1 IC s68 ([r62.2.1]), oB b60 T_Sq (Sq.C (at_ Sq.z r38.2.1 i50)), oS T_Sq 17 Sq.C s41 r38.2.1, oS T_int 1 IC s56 x50_2.kids, oB b20 T_Step (Step.C (⟨x50_2.seq, x50_2.proved, x50_2.rule, x50_2.main, s56⟩ : Step)), oS T_api_Rule 1 IC s14 r11.1, oS T_int 1 IC s15 r11.2.1, oB b2 T_Sq (Sq.C a1)] [oTz] := S
      refine wd (does_nilCheck (congrArg Value.pointer hp74)) ?_
      refine wd (does_fieldAddr fl_Finder_steps rfl (o' := 1) rfl) ?_
      refine wd (does_load on_L_api_Step rfl ((S.blk 0).cell (Finder.get_steps _))) ?_
      refine wd (does_mv_i rfl) ?_
      obtain ⟨hi77, H⟩ := chk_ex H
      refine wd (does_indexD sl_L_api_Step rfl rfl (S.onO 2) (inb_ex hi77).1 (inb_ex hi77).2) ?_
      refine wd (does_fieldAddr fl_Step_proved rfl (o' := _) rfl) ?_
      refine wd (does_load on_bool rfl (oD.cell (z := PStep.z) (S.onO 2) (inb_ex hi77) (fun _ => rStep.get_proved))) ?_
      replace S : St A N w w72 [oMSq m76 r62.1.at_, oB p73 T_Finder (Finder.C (⟨g_0_1, s75, (some m76), r62.1.left, r62.1.visits⟩ : Finder)), oT g_0_1 r62.1.t, oDStep s75 r62.1.steps, oB b46 T_Step (Step.C (⟨x50_0.seq, x50_0.proved, x50_0.rule, x50_0.main, s70⟩ : Step)), oS T_int 1 IC s70 (x50_0.kids ++ [r62.2.1]), oS T_int 1 IC s68 ([r62.2.1]), oB b60 T_Sq (Sq.C (at_ Sq.z r38.2.1 i50)), oS T_Sq 17 Sq.C s41 r38.2.1, oS T_int 1 IC s56 x50_2.kids, oB b20 T_Step (Step.C (⟨x50_2.seq, x50_2.proved, x50_2.rule, x50_2.main, s56⟩ : Step)), oS T_api_Rule 1 IC s14 r11.1, oS T_int 1 IC s15 r11.2.1, oB b2 T_Sq (Sq.C a1)] [oTz] := S.front 3
      replace S : St A N w w72 [oDStep s75 r62.1.steps, oMSq m76 r62.1.at_, oB p73 T_Finder (Finder.C (⟨g_0_1, s75, (some m76), r62.1.left, r62.1.visits⟩ : Finder)), oT g_0_1 r62.1.t, oB b46 T_Step (Step.C (⟨x50_0.seq, x50_0.proved, x50_0.rule, x50_0.main, s70⟩ : Step)), oS T_int 1 IC s70 (x50_0.kids ++ [r62.2.1]), oS T_int 1 IC s68 ([r62.2.1]), oB b60 T_Sq (Sq.C (at_ Sq.z r38.2.1 i50)), oS T_Sq 17 Sq.C s41 r38.2.1, oS T_int 1 IC s56 x50_2.kids, oB b20 T_Step (Step.C (⟨x50_2.seq, x50_2.proved, x50_2.rule, x50_2.main, s56⟩ : Step)), oS T_api_Rule 1 IC s14 r11.1, oS T_int 1 IC s15 r11.2.1, oB b2 T_Sq (Sq.C a1)] [oTz] := S.front 3
      replace S : St A N w w72 [oT g_0_1 r62.1.t, oDStep s75 r62.1.steps, oMSq m76 r62.1.at_, oB p73 T_Finder (Finder.C (⟨g_0_1, s75, (some m76), r62.1.left, r62.1.visits⟩ : Finder)), oB b46 T_Step (Step.C (⟨x50_0.seq, x50_0.proved, x50_0.rule, x50_0.main, s70⟩ : Step)), oS T_int 1 IC s70 (x50_0.kids ++ [r62.2.1]), oS T_int 1 IC s68 ([r62.2.1]), oB b60 T_Sq (Sq.C (at_ Sq.z r38.2.1 i50)), oS T_Sq 17 Sq.C s41 r38.2.1, oS T_int 1 IC s56 x50_2.kids, oB b20 T_Step (Step.C (⟨x50_2.seq, x50_2.proved, x50_2.rule, x50_2.main, s56⟩ : Step)), oS T_api_Rule 1 IC s14 r11.1, oS T_int 1 IC s15 r11.2.1, oB b2 T_Sq (Sq.C a1)] [oTz] := S.front 3
      replace S : St A N w w72 [oB p73 T_Finder (Finder.C (⟨g_0_1, s75, (some m76), r62.1.left, r62.1.visits⟩ : Finder)), oT g_0_1 r62.1.t, oDStep s75 r62.1.steps, oMSq m76 r62.1.at_, oB b46 T_Step (Step.C (⟨x50_0.seq, x50_0.proved, x50_0.rule, x50_0.main, s70⟩ : Step)), oS T_int 1 IC s70 (x50_0.kids ++ [r62.2.1]), oS T_int 1 IC s68 ([r62.2.1]), oB b60 T_Sq (Sq.C (at_ Sq.z r38.2.1 i50)), oS T_Sq 17 Sq.C s41 r38.2.1, oS T_int 1 IC s56 x50_2.kids, oB b20 T_Step (Step.C (⟨x50_2.seq, x50_2.proved, x50_2.rule, x50_2.main, s56⟩ : Step)), oS T_api_Rule 1 IC s14 r11.1, oS T_int 1 IC s15 r11.2.1, oB b2 T_Sq (Sq.C a1)] [oTz] := S.front 3
      replace S : St A N w w72 [oF a_0 g_0_1 r62.1, oB b46 T_Step (Step.C (⟨x50_0.seq, x50_0.proved, x50_0.rule, x50_0.main, s70⟩ : Step)), oS T_int 1 IC s70 (x50_0.kids ++ [r62.2.1]), oS T_int 1 IC s68 ([r62.2.1]), oB b60 T_Sq (Sq.C (at_ Sq.z r38.2.1 i50)), oS T_Sq 17 Sq.C s41 r38.2.1, oS T_int 1 IC s56 x50_2.kids, oB b20 T_Step (Step.C (⟨x50_2.seq, x50_2.proved, x50_2.rule, x50_2.main, s56⟩ : Step)), oS T_api_Rule 1 IC s14 r11.1, oS T_int 1 IC s15 r11.2.1, oB b2 T_Sq (Sq.C a1)] [oTz] := S.shut_oF hp74
      refine wl_nil ?_
      refine wc_if rfl (fun hc78 => ?_) (fun hc78 => ?_)
      · replace H := if_t hc78 H
        refine wc_exit ?_
        refine wc_region ?_
        refine wd (does_addc q50_i rfl (c := i50 + 1) rfl (by omega) (by omega)) ?_
        refine wd (does_mv_i rfl) ?_
        refine wl_nil ?_
        replace S : St A N w w72 [oS T_int 1 IC s70 (x50_0.kids ++ [r62.2.1]), oB b46 T_Step (Step.C (⟨x50_0.seq, x50_0.proved, x50_0.rule, x50_0.main, s70⟩ : Step)), oF a_0 g_0_1 r62.1, oS T_Sq 17 Sq.C s41 r38.2.1, oS T_int 1 IC s56 x50_2.kids, oB b20 T_Step (Step.C (⟨x50_2.seq, x50_2.proved, x50_2.rule, x50_2.main, s56⟩ : Step)), oS T_api_Rule 1 IC s14 r11.1, oS T_int 1 IC s15 r11.2.1, oB b2 T_Sq (Sq.C a1)] [oTz] := S.arr [2, 1, 0, 5, 6, 7, 8, 9, 10] [0]
        obtain rfl := Option.some.inj H
        exact ⟨rfl, (((((((((((((((((((((((((((((((((Dif.self _ _ _).upd rfl _).upd rfl _).upd rfl _).upd rfl _).upd rfl _).upd rfl _).upd rfl _).upd rfl _).upd rfl _).upd rfl _).upd rfl _).upd rfl _).upd rfl _).upd rfl _).upd rfl _).upd rfl _).upd rfl _).upd rfl _).upd rfl _).upd rfl _).upd rfl _).upd rfl _).upd rfl _).upd rfl _).upd rfl _).upd rfl _).upd rfl _).upd rfl _).upd rfl _).upd rfl _).upd rfl _).upd rfl _), (m50, i50 + 1, ((⟨x50_0.seq, x50_0.proved, x50_0.rule, x50_0.main, x50_0.kids ++ [r62.2.1]⟩ : PStep), r62.1, x50_2)), ⟨(by dsimp only; omega), (by dsimp only; omega), e50, s70, s56, rfl, S⟩, by dsimp only; omega⟩
      replace H := if_f hc78 H
      refine wc_skip ?_
      refine wc_seq (wc_region ?_)
      refine wd (does_fieldAddr fl_Step_proved hv487 (o' := 17) rfl) ?_
      refine wl_store on_bool rfl rfl (S.blk 1) (by rw [Step.len]; decide) rfl (Step.set_proved _ _) fun w79 B hw79 zw79 => ?_
      replace S : St A N w w79 [oB b46 T_Step (Step.C (⟨x50_0.seq, false, x50_0.rule, x50_0.main, s70⟩ : Step)), oF a_0 g_0_1 r62.1, oS T_int 1 IC s70 (x50_0.kids ++ [r62.2.1]), oS T_int 1 IC s68 ([r62.2.1]), oB b60 T_Sq (Sq.C (at_ Sq.z r38.2.1 i50)), oS T_Sq 17 Sq.C s41 r38.2.1, oS T_int 1 IC s56 x50_2.kids, oB b20 T_Step (Step.C (⟨x50_2.seq, x50_2.proved, x50_2.rule, x50_2.main, s56⟩ : Step)), oS T_api_Rule 1 IC s14 r11.1, oS T_int 1 IC s15 r11.2.1, oB b2 T_Sq (Sq.C a1)] [oTz] := S.store 1 B hw79
      clear B
      refine wl_nil ?_
      refine wc_seq (wc_seq (wc_region ?_))
      refine wd (does_mv_i rfl) ?_
      refine wd (does_eq rfl rfl) ?_
      refine wl_nil ?_
      refine wc_if rfl (fun hc80 => ?_) (fun hc80 => ?_)
      · replace H := if_t hc80 H
        refine wc_seq (wc_region ?_)
        refine wd (does_fieldAddr fl_Step_kids rfl (o' := 20) rfl) ?_
        refine wd (does_load on_L_int rfl ((S.blk 7).cell (Step.get_kids _))) ?_
        refine wd (does_mv_i rfl) ?_
        refine wl_lits (C := IC) (l := [r62.2.1]) (vs := [.int .i64 r62.2.1]) sl_L_int el_int.zero rfl rfl (fun _ _ => rfl) (by decide) rfl (by decide) fun b82 w81 s83 hBw81 hw81 => ?_
        replace S : St A N w w81 [oS T_int 1 IC s83 ([r62.2.1]), oB b46 T_Step (Step.C (⟨x50_0.seq, false, x50_0.rule, x50_0.main, s70⟩ : Step)), oF a_0 g_0_1 r62.1, oS T_int 1 IC s70 (x50_0.kids ++ [r62.2.1]), oS T_int 1 IC s68 ([r62.2.1]), oB b60 T_Sq (Sq.C (at_ Sq.z r38.2.1 i50)), oS T_Sq 17 Sq.C s41 r38.2.1, oS T_int 1 IC s56 x50_2.kids, oB b20 T_Step (Step.C (⟨x50_2.seq, x50_2.proved, x50_2.rule, x50_2.main, s56⟩ : Step)), oS T_api_Rule 1 IC s14 r11.1, oS T_int 1 IC s15 r11.2.1, oB b2 T_Sq (Sq.C a1)] [oTz] := S.lit hBw81 hw81 (by simp)
        obtain ⟨ha86, H⟩ := chk_ex H
        have ha86 := of_decide_eq_true ha86
        refine wl_appends (C := IC) sl_L_int el_int rfl rfl (S.sl 7) (S.rdO 0) (by simp) (fun a _ v hv => by rw [List.mem_singleton.1 hv]; rfl) ha86 (by omega) (by decide) fun s85 w84 O hw84 gw84 => ?_
        replace S : St A N w w84 [oS T_int 1 IC s85 (x50_2.kids ++ [r62.2.1]), oS T_int 1 IC s83 ([r62.2.1]), oB b46 T_Step (Step.C (⟨x50_0.seq, false, x50_0.rule, x50_0.main, s70⟩ : Step)), oF a_0 g_0_1 r62.1, oS T_int 1 IC s70 (x50_0.kids ++ [r62.2.1]), oS T_int 1 IC s68 ([r62.2.1]), oB b60 T_Sq (Sq.C (at_ Sq.z r38.2.1 i50)), oS T_Sq 17 Sq.C s41 r38.2.1, oB b20 T_Step (Step.C (⟨x50_2.seq, x50_2.proved, x50_2.rule, x50_2.main, s56⟩ : Step)), oS T_api_Rule 1 IC s14 r11.1, oS T_int 1 IC s15 r11.2.1, oB b2 T_Sq (Sq.C a1)] [oTz] := S.push 7 O (by first | (simp; done) | (simp; omega)) hw84 gw84
        clear O
        refine wd (does_fieldAddr fl_Step_kids rfl (o' := 20) rfl) ?_
        refine wl_store on_L_int rfl rfl (S.blk 8) (by rw [Step.len]; decide) (SlV.one _ _ rfl) (Step.set_kids _ _) fun w87 B hw87 zw87 => ?_
        replace S : St A N w w87 [oB b20 T_Step (Step.C (⟨x50_2.seq, x50_2.proved, x50_2.rule, x50_2.main, s85⟩ : Step)), oS T_int 1 IC s85 (x50_2.kids ++ [r62.2.1]), oS T_int 1 IC s83 ([r62.2.1]), oB b46 T_Step (Step.C (⟨x50_0.seq, false, x50_0.rule, x50_0.main, s70⟩ : Step)), oF a_0 g_0_1 r62.1, oS T_int 1 IC s70 (x50_0.kids ++ [r62.2.1]), oS T_int 1 IC s68 ([r62.2.1]), oB b60 T_Sq (Sq.C (at_ Sq.z r38.2.1 i50)), oS T_Sq 17 Sq.C s41 r38.2.1, oS T_api_Rule 1 IC s14 r11.1, oS T_int 1 IC s15 r11.2.1, oB b2 T_Sq (Sq.C a1)] [oTz] := S.store 8 B hw87
        clear B
        refine wl_nil ?_
        refine wc_exit ?_
        replace S : St A N w w87 [oS T_int 1 IC s70 (x50_0.kids ++ [r62.2.1]), oB b46 T_Step (Step.C (⟨x50_0.seq, false, x50_0.rule, x50_0.main, s70⟩ : Step)), oF a_0 g_0_1 r62.1, oS T_Sq 17 Sq.C s41 r38.2.1, oS T_int 1 IC s85 (x50_2.kids ++ [r62.2.1]), oB b20 T_Step (Step.C (⟨x50_2.seq, x50_2.proved, x50_2.rule, x50_2.main, s85⟩ : Step)), oS T_api_Rule 1 IC s14 r11.1, oS T_int 1 IC s15 r11.2.1, oB b2 T_Sq (Sq.C a1)] [oTz] := S.arr [5, 3, 4, 8, 1, 0, 9, 10, 11] [0]
        obtain rfl := Option.some.inj H
        exact ⟨rfl, ((((((((((((((((((((((((((((((((((((((((Dif.self _ _ _).upd rfl _).upd rfl _).upd rfl _).upd rfl _).upd rfl _).upd rfl _).upd rfl _).upd rfl _).upd rfl _).upd rfl _).upd rfl _).upd rfl _).upd rfl _).upd rfl _).upd rfl _).upd rfl _).upd rfl _).upd rfl _).upd rfl _).upd rfl _).upd rfl _).upd rfl _).upd rfl _).upd rfl _).upd rfl _).upd rfl _).upd rfl _).upd rfl _).upd rfl _).upd rfl _).upd rfl _).upd rfl _).upd rfl _).upd rfl _).upd rfl _).upd rfl _).upd rfl _).upd rfl _).upd rfl _), ((⟨x50_0.seq, false, x50_0.rule, x50_0.main, x50_0.kids ++ [r62.2.1]⟩ : PStep), r62.1, (⟨x50_2.seq, x50_2.proved, x50_2.rule, x50_2.main, x50_2.kids ++ [r62.2.1]⟩ : PStep)), e50, s70, s85, S⟩
      replace H := if_f hc80 H
      refine wc_skip ?_
      refine wc_seq (wc_region ?_)
      refine wd (does_mv_i rfl) ?_
      refine wl_lits (C := IC) (l := [r62.2.1]) (vs := [.int .i64 r62.2.1]) sl_L_int el_int.zero rfl rfl (fun _ _ => rfl) (by decide) rfl (by decide) fun b89 w88 s90 hBw88 hw88 => ?_
      replace S : St A N w w88 [oS T_int 1 IC s90 ([r62.2.1]), oB b46 T_Step (Step.C (⟨x50_0.seq, false, x50_0.rule, x50_0.main, s70⟩ : Step)), oF a_0 g_0_1 r62.1, oS T_int 1 IC s70 (x50_0.kids ++ [r62.2.1]), oS T_int 1 IC s68 ([r62.2.1]), oB b60 T_Sq (Sq.C (at_ Sq.z r38.2.1 i50)), oS T_Sq 17 Sq.C s41 r38.2.1, oS T_int 1 IC s56 x50_2.kids, oB b20 T_Step (Step.C (⟨x50_2.seq, x50_2.proved, x50_2.rule, x50_2.main, s56⟩ : Step)), oS T_api_Rule 1 IC s14 r11.1, oS T_int 1 IC s15 r11.2.1, oB b2 T_Sq (Sq.C a1)] [oTz] := S.lit hBw88 hw88 (by simp)
      refine wd (does_fieldAddr fl_Step_kids hv487 (o' := 20) rfl) ?_
      refine wl_store on_L_int rfl rfl (S.blk 1) (by rw [Step.len]; decide) (SlV.one _ _ rfl) (Step.set_kids _ _) fun w91 B hw91 zw91 => ?_
      replace S : St A N w w91 [oB b46 T_Step (Step.C (⟨x50_0.seq, false, x50_0.rule, x50_0.main, s90⟩ : Step)), oS T_int 1 IC s90 ([r62.2.1]), oF a_0 g_0_1 r62.1, oS T_int 1 IC s70 (x50_0.kids ++ [r62.2.1]), oS T_int 1 IC s68 ([r62.2.1]), oB b60 T_Sq (Sq.C (at_ Sq.z r38.2.1 i50)), oS T_Sq 17 Sq.C s41 r38.2.1, oS T_int 1 IC s56 x50_2.kids, oB b20 T_Step (Step.C (⟨x50_2.seq, x50_2.proved, x50_2.rule, x50_2.main, s56⟩ : Step)), oS T_api_Rule 1 IC s14 r11.1, oS T_int 1 IC s15 r11.2.1, oB b2 T_Sq (Sq.C a1)] [oTz] := S.store 1 B hw91
      clear B
      refine wl_nil ?_
      refine wc_seq (wc_region ?_)
      refine wd (does_mv_p rfl) ?_
      refine wd (does_load_agg ag_Step hv487 ((S.blk 0).all _ (Step.len _)) (Step.len _)) ?_
      obtain ⟨r92, er92, H⟩ := bind_ex H
      replace S : St A N w w91 [oS T_int 1 IC s90 ([r62.2.1]), oB b46 T_Step (Step.C (⟨x50_0.seq, false, x50_0.rule, x50_0.main, s90⟩ : Step)), oF a_0 g_0_1 r62.1, oS T_int 1 IC s70 (x50_0.kids ++ [r62.2.1]), oS T_int 1 IC s68 ([r62.2.1]), oB b60 T_Sq (Sq.C (at_ Sq.z r38.2.1 i50)), oS T_Sq 17 Sq.C s41 r38.2.1, oS T_int 1 IC s56 x50_2.kids, oB b20 T_Step (Step.C (⟨x50_2.seq, x50_2.proved, x50_2.rule, x50_2.main, s56⟩ : Step)), oS T_api_Rule 1 IC s14 r11.1, oS T_int 1 IC s15 r11.2.1, oB b2 T_Sq (Sq.C a1)] [oTz] := S.front 1
      replace S : St A N w w91 [oF a_0 g_0_1 r62.1, oS T_int 1 IC s90 ([r62.2.1]), oB b46 T_Step (Step.C (⟨x50_0.seq, false, x50_0.rule, x50_0.main, s90⟩ : Step)), oS T_int 1 IC s70 (x50_0.kids ++ [r62.2.1]), oS T_int 1 IC s68 ([r62.2.1]), oB b60 T_Sq (Sq.C (at_ Sq.z r38.2.1 i50)), oS T_Sq 17 Sq.C s41 r38.2.1, oS T_int 1 IC s56 x50_2.kids, oB b20 T_Step (Step.C (⟨x50_2.seq, x50_2.proved, x50_2.rule, x50_2.main, s56⟩ : Step)), oS T_api_Rule 1 IC s14 r11.1, oS T_int 1 IC s15 r11.2.1, oB b2 T_Sq (Sq.C a1)] [oTz] := S.front 2
      obtain ⟨B94, MB94, SB94, back⟩ := S.calln 2 ((.nil))
      refine wl_call (does_call ca_search_finder_end) (by decide) (search_finder_end_st (a1 := (⟨x50_0.seq, false, x50_0.rule, x50_0.main, [r62.2.1]⟩ : PStep)) SB94 er92) ?_
      rintro _ w93 ⟨rfl, S2⟩
      replace S : St A N w w93 [oF a_0 g_0_1 r92.1, oB b46 T_Step (Step.C (⟨x50_0.seq, false, x50_0.rule, x50_0.main, s90⟩ : Step)), oS T_int 1 IC s70 (x50_0.kids ++ [r62.2.1]), oS T_int 1 IC s68 ([r62.2.1]), oB b60 T_Sq (Sq.C (at_ Sq.z r38.2.1 i50)), oS T_Sq 17 Sq.C s41 r38.2.1, oS T_int 1 IC s56 x50_2.kids, oB b20 T_Step (Step.C (⟨x50_2.seq, x50_2.proved, x50_2.rule, x50_2.main, s56⟩ : Step)), oS T_api_Rule 1 IC s14 r11.1, oS T_int 1 IC s15 r11.2.1, oB b2 T_Sq (Sq.C a1)] [oTz] := back _ _ _ _ S2 rfl
      clear back S2 SB94
      refine wd (does_extract rfl rfl) ?_
      refine wd (does_extract rfl rfl) ?_
      refine wd (does_as_i rfl) ?_
      refine wd (does_as_i rfl) ?_
      refine wl_nil ?_
      refine wc_ret ?_
      refine ⟨_, (rets2 (retOne_tmp rfl) (retOne_tmp rfl)), ?_⟩
      replace S : St A N w w93 [oF a_0 g_0_1 r92.1] [] := S.arr [0] []
      obtain rfl := Option.some.inj H
      obtain rfl := e50
      obtain rfl := aft_r Ho50
      obtain rfl := e22
      obtain rfl := aft_r Ho22
      exact ⟨rfl, S⟩
    rintro g95 u96 ⟨s50, rfl, s51, s52, S⟩
    have H := Ho50
    dsimp only [aft] at H
    refine wc_seq (wc_region ?_)
    refine wd (does_fieldAddr fl_Step_proved hv487 (o' := 17) rfl) ?_
    refine wd (does_load on_bool rfl ((S.blk 1).cell (Step.get_proved _))) ?_
    refine wl_nil ?_
    refine wc_if rfl (fun hc97 => ?_) (fun hc97 => ?_)
    · replace H := if_t hc97 H
      refine wc_seq (wc_region ?_)
      refine wd (does_mv_p rfl) ?_
      refine wd (does_load_agg ag_Step hv487 ((S.blk 1).all _ (Step.len _)) (Step.len _)) ?_
      obtain ⟨r98, er98, H⟩ := bind_ex H
      replace S : St A N w u96 [oF a_0 g_0_1 s50.2.1, oS T_int 1 IC s51 s50.1.kids, oB b46 T_Step (Step.C (⟨s50.1.seq, s50.1.proved, s50.1.rule, s50.1.main, s51⟩ : Step)), oS T_Sq 17 Sq.C s41 r38.2.1, oS T_int 1 IC s52 s50.2.2.kids, oB b20 T_Step (Step.C (⟨s50.2.2.seq, s50.2.2.proved, s50.2.2.rule, s50.2.2.main, s52⟩ : Step)), oS T_api_Rule 1 IC s14 r11.1, oS T_int 1 IC s15 r11.2.1, oB b2 T_Sq (Sq.C a1)] [oTz] := S.front 2
      obtain ⟨B100, MB100, SB100, back⟩ := S.calln 2 ((.nil))
      refine wl_call (does_call ca_search_finder_end) (by decide) (search_finder_end_st (a1 := s50.1) SB100 er98) ?_
      rintro _ w99 ⟨rfl, S2⟩
      replace S : St A N w w99 [oF a_0 g_0_1 r98.1, oB b46 T_Step (Step.C (⟨s50.1.seq, s50.1.proved, s50.1.rule, s50.1.main, s51⟩ : Step)), oS T_Sq 17 Sq.C s41 r38.2.1, oS T_int 1 IC s52 s50.2.2.kids, oB b20 T_Step (Step.C (⟨s50.2.2.seq, s50.2.2.proved, s50.2.2.rule, s50.2.2.main, s52⟩ : Step)), oS T_api_Rule 1 IC s14 r11.1, oS T_int 1 IC s15 r11.2.1, oB b2 T_Sq (Sq.C a1)] [oTz] := back _ _ _ _ S2 rfl
      clear back S2 SB100
      refine wd (does_extract rfl rfl) ?_
      refine wd (does_extract rfl rfl) ?_
      refine wd (does_as_i rfl) ?_
      refine wd (does_as_i rfl) ?_
      refine wl_nil ?_
      refine wc_ret ?_
      refine ⟨_, (rets2 (retOne_tmp rfl) (retOne_tmp rfl)), ?_⟩
      replace S : St A N w w99 [oF a_0 g_0_1 r98.1] [] := S.arr [0] []
      obtain rfl := Option.some.inj H
      obtain rfl := e22
      obtain rfl := aft_r Ho22
      exact ⟨rfl, S⟩
    replace H := if_f hc97 H
    refine wc_skip ?_
    refine wc_region ?_
    refine wd (does_addc q22_i rfl (c := i22 + 1) rfl (by omega) (by omega)) ?_
    refine wd (does_mv_i rfl) ?_
    refine wl_nil ?_
    replace S : St A N w u96 [oS T_int 1 IC s52 s50.2.2.kids, oB b20 T_Step (Step.C (⟨s50.2.2.seq, s50.2.2.proved, s50.2.2.rule, s50.2.2.main, s52⟩ : Step)), oF a_0 g_0_1 s50.2.1, oS T_api_Rule 1 IC s14 r11.1, oS T_int 1 IC s15 r11.2.1, oB b2 T_Sq (Sq.C a1)] [oTz] := S.arr [4, 5, 2, 6, 7, 8] [0]
    obtain rfl := Option.some.inj H
    exact ⟨rfl, (((((((((((((((((((((((((((((((((((((((((((Dif.self _ _ _).upd rfl _).upd rfl _).upd rfl _).upd rfl _).upd rfl _).upd rfl _).upd rfl _).upd rfl _).upd rfl _).upd rfl _).upd rfl _).upd rfl _).upd rfl _).upd rfl _).upd rfl _).upd rfl _).mask rfl _).upd rfl _).upd rfl _).upd rfl _).upd rfl _).upd rfl _).mask rfl _).upd rfl _).upd rfl _).upd rfl _).upd rfl _).upd rfl _).upd rfl _).upd rfl _).upd rfl _).upd rfl _).upd rfl _).mask rfl _).upd rfl _).upd rfl _).upd rfl _).mask rfl _).upd rfl _).upd rfl _).upd rfl _).upd rfl _), (m22, i22 + 1, (s50.2.2, s50.2.1)), ⟨(by dsimp only; omega), (by dsimp only; omega), e22, s52, rfl, S⟩, by dsimp only; omega⟩
  rintro g101 u102 ⟨s22, rfl, s23, S⟩
  have H := Ho22
  dsimp only [aft] at H
  refine wc_seq (wc_region ?_)
  refine wd (does_mv_p rfl) ?_
  refine wd (does_load_agg ag_Step rfl ((S.blk 1).all _ (Step.len _)) (Step.len _)) ?_
  obtain ⟨r103, er103, H⟩ := bind_ex H
  replace S : St A N w u102 [oF a_0 g_0_1 s22.2, oS T_int 1 IC s23 s22.1.kids, oB b20 T_Step (Step.C (⟨s22.1.seq, s22.1.proved, s22.1.rule, s22.1.main, s23⟩ : Step)), oS T_api_Rule 1 IC s14 r11.1, oS T_int 1 IC s15 r11.2.1, oB b2 T_Sq (Sq.C a1)] [oTz] := S.front 2
  obtain ⟨B105, MB105, SB105, back⟩ := S.calln 2 ((.nil))
  refine wl_call (does_call ca_search_finder_end) (by decide) (search_finder_end_st (a1 := s22.1) SB105 er103) ?_
  rintro _ w104 ⟨rfl, S2⟩
  replace S : St A N w w104 [oF a_0 g_0_1 r103.1, oB b20 T_Step (Step.C (⟨s22.1.seq, s22.1.proved, s22.1.rule, s22.1.main, s23⟩ : Step)), oS T_api_Rule 1 IC s14 r11.1, oS T_int 1 IC s15 r11.2.1, oB b2 T_Sq (Sq.C a1)] [oTz] := back _ _ _ _ S2 rfl
  clear back S2 SB105
  refine wd (does_extract rfl rfl) ?_
  refine wd (does_extract rfl rfl) ?_
  refine wd (does_as_i rfl) ?_
  refine wd (does_as_i rfl) ?_
  refine wl_nil ?_
  refine wc_ret ?_
  refine ⟨_, (rets2 (retOne_tmp rfl) (retOne_tmp rfl)), ?_⟩
  replace S : St A N w w104 [oF a_0 g_0_1 r103.1] [] := S.arr [0] []
  obtain rfl := Option.some.inj H
  exact ⟨rfl, S⟩
theorem search_finder_decide_gst {rec_search_finder_decide : PFinder → Sq → Option (PFinder × Int × Int)} (hrec_search_finder_decide : ∀ {A : Nat → Prop} {N : Oth} {w : World} {a0 : PFinder} {a_0 : Option Addr} {g_0_1 : Option Addr} {a1 : Sq} (S : St A N w w [oF a_0 g_0_1 a0] [oTz]) {r : PFinder × Int × Int} (H : rec_search_finder_decide a0 a1 = some r), Calls PP F_search_finder_decide #[.pointer a_0, .agg (Sq.C a1).toArray] w fun e w' => ∃ v, e = .returned v ∧ (v = .tuple #[.int .i64 r.2.1, .int .i64 r.2.2] ∧ St A N w w' [oF a_0 g_0_1 r.1] [])) {A : Nat → Prop} {N : Oth} {w : World} {a0 : PFinder} {a_0 : Option Addr} {g_0_1 : Option Addr} {a1 : Sq} (S : St A N w w [oF a_0 g_0_1 a0] [oTz]) {r : PFinder × Int × Int} (H : search_finder_decide.g rec_search_finder_decide a0 a1 = some r) :
    Calls PP F_search_finder_decide #[.pointer a_0, .agg (Sq.C a1).toArray] w fun e w' => ∃ v, e = .returned v ∧ (v = .tuple #[.int .i64 r.2.1, .int .i64 r.2.2] ∧ St A N w w' [oF a_0 g_0_1 r.1] []) := by
  unfold search_finder_decide.g at H
  refine calls_of_wc (n := 131) fn_search_finder_decide rfl rfl (by simp) ?_
  refine wc_seq (wc_region ?_)
  refine wl_box_agg rfl (by decide) fun b2 w1 hw1 => ?_
  replace S : St A N w w1 [oB b2 T_Sq (Sq.C a1), oF a_0 g_0_1 a0] [oTz] := S.new hw1
  refine wd (does_as_i rfl) ?_
  refine wd (does_as_i rfl) ?_
  refine wl_nil ?_
  refine wc_seq ?_
  refine wc_seq ?_
  obtain ⟨p3, s5, m6, hp4, S⟩ := S.open_oF 1
  replace S : St A N w w1 [oB p3 T_Finder (Finder.C (⟨g_0_1, s5, (some m6), a0.left, a0.visits⟩ : Finder)), oT g_0_1 a0.t, oDStep s5 a0.steps, oMSq m6 a0.at_, oB b2 T_Sq (Sq.C a1)] [oTz] := S
  refine wc_quiet 10 (Ext w1) hmix (by kernel_rfl) (by kernel_rfl) (Ext.drawn _) ?_
  refine wq_does (fun v K => does_mv_p rfl) ?_
  refine wq_does (fun v K => does_nilCheck (congrArg Value.pointer hp4)) ?_
  refine wq_does (fun v K => does_fieldAddr fl_Finder_at_ rfl (o' := 2) rfl) ?_
  refine wq_does (fun v K => does_load on_M_api_Seq_int rfl (((S.ext K).blk 0).cell (Finder.get_at_ _))) ?_
  refine wq_does (fun v K => does_load_agg ag_Sq rfl (((S.ext K).blk 4).all _ (Sq.len _)) (Sq.len _)) ?_
  refine wq_does (fun v K => does_lookup_ok (C := mSqC) (D := (Value.int .i64)) (key := a1) (zv := 0) un_M_api_Seq_int key_Sq zv_int rfl rfl ((S.ext K).map 3)) ?_
  refine wq_does (fun v K => does_mv_t rfl) ?_
  refine wq_does (fun v K => does_extract rfl rfl) ?_
  refine wq_does (fun v K => does_extract rfl rfl) ?_
  refine wq_does (fun v K => does_as_i rfl) ?_
  refine wq_nil fun w7 K => ?_
  replace S := S.ext K
  clear K
  refine wd (does_as_b rfl) ?_
  replace S : St A N w w7 [oMSq m6 a0.at_, oB p3 T_Finder (Finder.C (⟨g_0_1, s5, (some m6), a0.left, a0.visits⟩ : Finder)), oT g_0_1 a0.t, oDStep s5 a0.steps, oB b2 T_Sq (Sq.C a1)] [oTz] := S.front 3
  replace S : St A N w w7 [oDStep s5 a0.steps, oMSq m6 a0.at_, oB p3 T_Finder (Finder.C (⟨g_0_1, s5, (some m6), a0.left, a0.visits⟩ : Finder)), oT g_0_1 a0.t, oB b2 T_Sq (Sq.C a1)] [oTz] := S.front 3
  replace S : St A N w w7 [oT g_0_1 a0.t, oDStep s5 a0.steps, oMSq m6 a0.at_, oB p3 T_Finder (Finder.C (⟨g_0_1, s5, (some m6), a0.left, a0.visits⟩ : Finder)), oB b2 T_Sq (Sq.C a1)] [oTz] := S.front 3
  replace S : St A N w w7 [oB p3 T_Finder (Finder.C (⟨g_0_1, s5, (some m6), a0.left, a0.visits⟩ : Finder)), oT g_0_1 a0.t, oDStep s5 a0.steps, oMSq m6 a0.at_, oB b2 T_Sq (Sq.C a1)] [oTz] := S.front 3
  replace S : St A N w w7 [oF a_0 g_0_1 a0, oB b2 T_Sq (Sq.C a1)] [oTz] := S.shut_oF hp4
  refine wl_nil ?_
  refine wc_seq (wc_region ?_)
  refine wd (does_mv_b rfl) ?_
  refine wl_nil ?_
  refine wc_if rfl (fun hc8 => ?_) (fun hc8 => ?_)
  · replace H := if_t hc8 H
    refine wc_seq (wc_region ?_)
    refine wd (does_mv_i rfl) ?_
    refine wd (does_as_i rfl) ?_
    refine wd (does_as_i rfl) ?_
    refine wl_nil ?_
    refine wc_ret ?_
    refine ⟨_, (rets2 (retOne_tmp rfl) (retOne_tmp rfl)), ?_⟩
    replace S : St A N w w7 [oF a_0 g_0_1 a0] [] := S.arr [0] []
    obtain rfl := Option.some.inj H
    exact ⟨rfl, S⟩
  replace H := if_f hc8 H
  refine wc_skip ?_
  refine wc_seq (wc_seq (wc_region ?_))
  refine wd (does_mv_p rfl) ?_
  obtain ⟨p9, s11, m12, hp10, S⟩ := S.open_oF 0
  replace S : St A N w w7 [oB p9 T_Finder (Finder.C (⟨g_0_1, s11, (some m12), a0.left, a0.visits⟩ : Finder)), oT g_0_1 a0.t, oDStep s11 a0.steps, oMSq m12 a0.at_, oB b2 T_Sq (Sq.C a1)] [oTz] := S
  refine wd (does_nilCheck (congrArg Value.pointer hp10)) ?_
  refine wd (does_fieldAddr fl_Finder_left rfl (o' := 3) rfl) ?_
  refine wd (does_load on_int rfl ((S.blk 0).cell (Finder.get_left _))) ?_
  refine wd (does_eq rfl rfl) ?_
  replace S : St A N w w7 [oMSq m12 a0.at_, oB p9 T_Finder (Finder.C (⟨g_0_1, s11, (some m12), a0.left, a0.visits⟩ : Finder)), oT g_0_1 a0.t, oDStep s11 a0.steps, oB b2 T_Sq (Sq.C a1)] [oTz] := S.front 3
  replace S : St A N w w7 [oDStep s11 a0.steps, oMSq m12 a0.at_, oB p9 T_Finder (Finder.C (⟨g_0_1, s11, (some m12), a0.left, a0.visits⟩ : Finder)), oT g_0_1 a0.t, oB b2 T_Sq (Sq.C a1)] [oTz] := S.front 3
  replace S : St A N w w7 [oT g_0_1 a0.t, oDStep s11 a0.steps, oMSq m12 a0.at_, oB p9 T_Finder (Finder.C (⟨g_0_1, s11, (some m12), a0.left, a0.visits⟩ : Finder)), oB b2 T_Sq (Sq.C a1)] [oTz] := S.front 3
  replace S : St A N w w7 [oB p9 T_Finder (Finder.C (⟨g_0_1, s11, (some m12), a0.left, a0.visits⟩ : Finder)), oT g_0_1 a0.t, oDStep s11 a0.steps, oMSq m12 a0.at_, oB b2 T_Sq (Sq.C a1)] [oTz] := S.front 3
  replace S : St A N w w7 [oF a_0 g_0_1 a0, oB b2 T_Sq (Sq.C a1)] [oTz] := S.shut_oF hp10
  refine wl_nil ?_
  refine wc_if rfl (fun hc13 => ?_) (fun hc13 => ?_)
  · replace H := if_t hc13 H
    refine wc_seq (wc_region ?_)
    refine wd (does_as_i rfl) ?_
    refine wd (does_as_i rfl) ?_
    refine wl_nil ?_
    refine wc_ret ?_
    refine ⟨_, (rets2 (retOne_tmp rfl) (retOne_tmp rfl)), ?_⟩
    replace S : St A N w w7 [oF a_0 g_0_1 a0] [] := S.arr [0] []
    obtain rfl := Option.some.inj H
    exact ⟨rfl, S⟩
  replace H := if_f hc13 H
  refine wc_skip ?_
  refine wc_seq (wc_region ?_)
  refine wd (does_mv_p rfl) ?_
  obtain ⟨p14, s16, m17, hp15, S⟩ := S.open_oF 0
  replace S : St A N w w7 [oB p14 T_Finder (Finder.C (⟨g_0_1, s16, (some m17), a0.left, a0.visits⟩ : Finder)), oT g_0_1 a0.t, oDStep s16 a0.steps, oMSq m17 a0.at_, oB b2 T_Sq (Sq.C a1)] [oTz] := S
  refine wd (does_nilCheck (congrArg Value.pointer hp15)) ?_
  refine wd (does_fieldAddr fl_Finder_left rfl (o' := 3) rfl) ?_
  refine wd (does_load on_int rfl ((S.blk 0).cell (Finder.get_left _))) ?_
  refine wd (does_sub rfl rfl) ?_
  refine wd (does_nilCheck (congrArg Value.pointer hp15)) ?_
  refine wd (does_fieldAddr fl_Finder_left rfl (o' := 3) rfl) ?_
  refine wl_store on_int rfl rfl (S.blk 0) (by rw [Finder.len]; decide) rfl (Finder.set_left _ _) fun w18 B hw18 zw18 => ?_
  replace S : St A N w w18 [oB p14 T_Finder (Finder.C (⟨g_0_1, s16, (some m17), IntKind.i64.wrap (a0.left - 1), a0.visits⟩ : Finder)), oT g_0_1 a0.t, oDStep s16 a0.steps, oMSq m17 a0.at_, oB b2 T_Sq (Sq.C a1)] [oTz] := S.store 0 B hw18
  clear B
  replace S : St A N w w18 [oMSq m17 a0.at_, oB p14 T_Finder (Finder.C (⟨g_0_1, s16, (some m17), IntKind.i64.wrap (a0.left - 1), a0.visits⟩ : Finder)), oT g_0_1 a0.t, oDStep s16 a0.steps, oB b2 T_Sq (Sq.C a1)] [oTz] := S.front 3
  replace S : St A N w w18 [oDStep s16 a0.steps, oMSq m17 a0.at_, oB p14 T_Finder (Finder.C (⟨g_0_1, s16, (some m17), IntKind.i64.wrap (a0.left - 1), a0.visits⟩ : Finder)), oT g_0_1 a0.t, oB b2 T_Sq (Sq.C a1)] [oTz] := S.front 3
  replace S : St A N w w18 [oT g_0_1 a0.t, oDStep s16 a0.steps, oMSq m17 a0.at_, oB p14 T_Finder (Finder.C (⟨g_0_1, s16, (some m17), IntKind.i64.wrap (a0.left - 1), a0.visits⟩ : Finder)), oB b2 T_Sq (Sq.C a1)] [oTz] := S.front 3
  replace S : St A N w w18 [oB p14 T_Finder (Finder.C (⟨g_0_1, s16, (some m17), IntKind.i64.wrap (a0.left - 1), a0.visits⟩ : Finder)), oT g_0_1 a0.t, oDStep s16 a0.steps, oMSq m17 a0.at_, oB b2 T_Sq (Sq.C a1)] [oTz] := S.front 3
  replace S : St A N w w18 [oF a_0 g_0_1 (⟨a0.t, a0.steps, a0.at_, IntKind.i64.wrap (a0.left - 1), a0.visits⟩ : PFinder), oB b2 T_Sq (Sq.C a1)] [oTz] := S.shut_oF hp15
  refine wl_nil ?_
  refine wc_seq (wc_region ?_)
  refine wd (does_mv_p rfl) ?_
  obtain ⟨p19, s21, m22, hp20, S⟩ := S.open_oF 0
  replace S : St A N w w18 [oB p19 T_Finder (Finder.C (⟨g_0_1, s21, (some m22), IntKind.i64.wrap (a0.left - 1), a0.visits⟩ : Finder)), oT g_0_1 a0.t, oDStep s21 a0.steps, oMSq m22 a0.at_, oB b2 T_Sq (Sq.C a1)] [oTz] := S
  refine wd (does_nilCheck (congrArg Value.pointer hp20)) ?_
  refine wd (does_fieldAddr fl_Finder_visits rfl (o' := 4) rfl) ?_
  refine wd (does_load on_int rfl ((S.blk 0).cell (Finder.get_visits _))) ?_
  refine wd (does_add rfl rfl) ?_
  refine wd (does_nilCheck (congrArg Value.pointer hp20)) ?_
  refine wd (does_fieldAddr fl_Finder_visits rfl (o' := 4) rfl) ?_
  refine wl_store on_int rfl rfl (S.blk 0) (by rw [Finder.len]; decide) rfl (Finder.set_visits _ _) fun w23 B hw23 zw23 => ?_
  replace S : St A N w w23 [oB p19 T_Finder (Finder.C (⟨g_0_1, s21, (some m22), IntKind.i64.wrap (a0.left - 1), IntKind.i64.wrap (a0.visits + 1)⟩ : Finder)), oT g_0_1 a0.t, oDStep s21 a0.steps, oMSq m22 a0.at_, oB b2 T_Sq (Sq.C a1)] [oTz] := S.store 0 B hw23
  clear B
  replace S : St A N w w23 [oMSq m22 a0.at_, oB p19 T_Finder (Finder.C (⟨g_0_1, s21, (some m22), IntKind.i64.wrap (a0.left - 1), IntKind.i64.wrap (a0.visits + 1)⟩ : Finder)), oT g_0_1 a0.t, oDStep s21 a0.steps, oB b2 T_Sq (Sq.C a1)] [oTz] := S.front 3
  replace S : St A N w w23 [oDStep s21 a0.steps, oMSq m22 a0.at_, oB p19 T_Finder (Finder.C (⟨g_0_1, s21, (some m22), IntKind.i64.wrap (a0.left - 1), IntKind.i64.wrap (a0.visits + 1)⟩ : Finder)), oT g_0_1 a0.t, oB b2 T_Sq (Sq.C a1)] [oTz] := S.front 3
  replace S : St A N w w23 [oT g_0_1 a0.t, oDStep s21 a0.steps, oMSq m22 a0.at_, oB p19 T_Finder (Finder.C (⟨g_0_1, s21, (some m22), IntKind.i64.wrap (a0.left - 1), IntKind.i64.wrap (a0.visits + 1)⟩ : Finder)), oB b2 T_Sq (Sq.C a1)] [oTz] := S.front 3
  replace S : St A N w w23 [oB p19 T_Finder (Finder.C (⟨g_0_1, s21, (some m22), IntKind.i64.wrap (a0.left - 1), IntKind.i64.wrap (a0.visits + 1)⟩ : Finder)), oT g_0_1 a0.t, oDStep s21 a0.steps, oMSq m22 a0.at_, oB b2 T_Sq (Sq.C a1)] [oTz] := S.front 3
  replace S : St A N w w23 [oF a_0 g_0_1 (⟨a0.t, a0.steps, a0.at_, IntKind.i64.wrap (a0.left - 1), IntKind.i64.wrap (a0.visits + 1)⟩ : PFinder), oB b2 T_Sq (Sq.C a1)] [oTz] := S.shut_oF hp20
  refine wl_nil ?_
  refine wc_seq ?_
  obtain ⟨p24, s26, m27, hp25, S⟩ := S.open_oF 0
  replace S : St A N w w23 [oB p24 T_Finder (Finder.C (⟨g_0_1, s26, (some m27), IntKind.i64.wrap (a0.left - 1), IntKind.i64.wrap (a0.visits + 1)⟩ : Finder)), oT g_0_1 a0.t, oDStep s26 a0.steps, oMSq m27 a0.at_, oB b2 T_Sq (Sq.C a1)] [oTz] := S
  refine wc_quiet 12 (Ext w23) hmix (by kernel_rfl) (by kernel_rfl) (Ext.drawn _) ?_
  refine wq_does (fun v K => does_mv_p rfl) ?_
  refine wq_does (fun v K => does_nilCheck (congrArg Value.pointer hp25)) ?_
  refine wq_does (fun v K => does_fieldAddr fl_Finder_t rfl (o' := 0) rfl) ?_
  refine wq_does (fun v K => does_load on_dictum_formula_has rfl (((S.ext K).blk 0).cell (Finder.get_t _))) ?_
  refine wq_does (fun v K => does_load_agg ag_Sq rfl (((S.ext K).blk 4).all _ (Sq.len _)) (Sq.len _)) ?_
  obtain ⟨r28, er28, H⟩ := bind_ex H
  refine wq_call (fun v => does_call ca_rule_Apply) (fun v K => (have ⟨M, SS⟩ := (S.ext K).lend ((.o 1 rfl (.z 0 rfl .nil))); quiet (rule_Apply_st SS er28) (fun v w' h => ⟨h.1, _, _, h.2⟩))) (fun v v' K h => K.thenExt h) ?_
  refine wq_does (fun v K => does_mv_t rfl) ?_
  refine wq_does (fun v K => does_extract rfl rfl) ?_
  refine wq_does (fun v K => does_extract rfl rfl) ?_
  refine wq_does (fun v K => does_extract rfl rfl) ?_
  refine wq_does (fun v K => does_as_i rfl) ?_
  refine wq_does (fun v K => does_as_i rfl) ?_
  refine wq_nil fun w29 K => ?_
  replace S := S.ext K
  clear K
  refine wd (does_as_i rfl) ?_
  replace S : St A N w w29 [oMSq m27 a0.at_, oB p24 T_Finder (Finder.C (⟨g_0_1, s26, (some m27), IntKind.i64.wrap (a0.left - 1), IntKind.i64.wrap (a0.visits + 1)⟩ : Finder)), oT g_0_1 a0.t, oDStep s26 a0.steps, oB b2 T_Sq (Sq.C a1)] [oTz] := S.front 3
  replace S : St A N w w29 [oDStep s26 a0.steps, oMSq m27 a0.at_, oB p24 T_Finder (Finder.C (⟨g_0_1, s26, (some m27), IntKind.i64.wrap (a0.left - 1), IntKind.i64.wrap (a0.visits + 1)⟩ : Finder)), oT g_0_1 a0.t, oB b2 T_Sq (Sq.C a1)] [oTz] := S.front 3
  replace S : St A N w w29 [oT g_0_1 a0.t, oDStep s26 a0.steps, oMSq m27 a0.at_, oB p24 T_Finder (Finder.C (⟨g_0_1, s26, (some m27), IntKind.i64.wrap (a0.left - 1), IntKind.i64.wrap (a0.visits + 1)⟩ : Finder)), oB b2 T_Sq (Sq.C a1)] [oTz] := S.front 3
  replace S : St A N w w29 [oB p24 T_Finder (Finder.C (⟨g_0_1, s26, (some m27), IntKind.i64.wrap (a0.left - 1), IntKind.i64.wrap (a0.visits + 1)⟩ : Finder)), oT g_0_1 a0.t, oDStep s26 a0.steps, oMSq m27 a0.at_, oB b2 T_Sq (Sq.C a1)] [oTz] := S.front 3
  replace S : St A N w w29 [oF a_0 g_0_1 (⟨a0.t, a0.steps, a0.at_, IntKind.i64.wrap (a0.left - 1), IntKind.i64.wrap (a0.visits + 1)⟩ : PFinder), oB b2 T_Sq (Sq.C a1)] [oTz] := S.shut_oF hp25
  refine wl_nil ?_
  refine wc_seq (wc_seq (wc_region ?_))
  refine wd (does_mv_i rfl) ?_
  refine wd (does_ne rfl rfl) ?_
  refine wl_nil ?_
  refine wc_if rfl (fun hc30 => ?_) (fun hc30 => ?_)
  · replace H := if_t hc30 H
    refine wc_seq (wc_region ?_)
    refine wd (does_mv_i rfl) ?_
    refine wd (does_as_i rfl) ?_
    refine wd (does_as_i rfl) ?_
    refine wl_nil ?_
    refine wc_ret ?_
    refine ⟨_, (rets2 (retOne_tmp rfl) (retOne_tmp rfl)), ?_⟩
    replace S : St A N w w29 [oF a_0 g_0_1 (⟨a0.t, a0.steps, a0.at_, IntKind.i64.wrap (a0.left - 1), IntKind.i64.wrap (a0.visits + 1)⟩ : PFinder)] [] := S.arr [0] []
    obtain rfl := Option.some.inj H
    exact ⟨rfl, S⟩
  replace H := if_f hc30 H
  refine wc_skip ?_
  refine wc_seq (wc_seq (wc_region ?_))
  refine wd (does_mv_i rfl) ?_
  refine wd (does_eq rfl rfl) ?_
  refine wl_nil ?_
  refine wc_if rfl (fun hc31 => ?_) (fun hc31 => ?_)
  · replace H := if_t hc31 H
    refine wc_seq (wc_region ?_)
    refine wd (does_mv_p rfl) ?_
    refine wd (does_load_agg ag_Sq rfl ((S.blk 1).all _ (Sq.len _)) (Sq.len _)) ?_
    obtain ⟨r32, er32, H⟩ := bind_ex H
    obtain ⟨B34, MB34, SB34, back⟩ := S.calln 1 ((.z 0 rfl .nil))
    refine wl_call (does_call ca_search_finder_choose) (by decide) (search_finder_choose_gst hrec_search_finder_decide SB34 er32) ?_
    rintro _ w33 ⟨rfl, S2⟩
    replace S : St A N w w33 [oF a_0 g_0_1 r32.1, oB b2 T_Sq (Sq.C a1)] [oTz] := back _ _ _ _ S2 rfl
    clear back S2 SB34
    refine wd (does_extract rfl rfl) ?_
    refine wd (does_extract rfl rfl) ?_
    refine wd (does_as_i rfl) ?_
    refine wd (does_as_i rfl) ?_
    refine wl_nil ?_
    refine wc_ret ?_
    refine ⟨_, (rets2 (retOne_tmp rfl) (retOne_tmp rfl)), ?_⟩
    replace S : St A N w w33 [oF a_0 g_0_1 r32.1] [] := S.arr [0] []
    obtain rfl := Option.some.inj H
    exact ⟨rfl, S⟩
  replace H := if_f hc31 H
  refine wc_skip ?_
  refine wc_seq ?_
  obtain ⟨p35, s37, m38, hp36, S⟩ := S.open_oF 0
  replace S : St A N w w29 [oB p35 T_Finder (Finder.C (⟨g_0_1, s37, (some m38), IntKind.i64.wrap (a0.left - 1), IntKind.i64.wrap (a0.visits + 1)⟩ : Finder)), oT g_0_1 a0.t, oDStep s37 a0.steps, oMSq m38 a0.at_, oB b2 T_Sq (Sq.C a1)] [oTz] := S
  refine wc_ws hmix fun w40 K => ?_
  replace S := S.ext K
  clear K
  refine ws_semi 0 7 [] (by kernel_rfl) (by decide) (by kernel_rfl)
   (V := fun i v u => match i with
    | _ => True) ?_ ?_
  · intro i v u u' hi hx hv
    match i, hv with
    | _, _ => exact trivial
  refine wm_does (fun v K => does_mv_p rfl) rfl ?_
  refine wm_does (fun v K => does_nilCheck (congrArg Value.pointer hp36)) rfl ?_
  refine wm_does (fun v K => does_fieldAddr fl_Finder_t rfl (o' := 0) rfl) rfl ?_
  refine wm_does (fun v K => does_load on_dictum_formula_has rfl (((S.ext K).blk 0).cell (Finder.get_t _))) rfl ?_
  refine wm_does (fun v K => does_load_agg ag_Sq rfl (((S.ext K).blk 4).all _ (Sq.len _)) (Sq.len _)) rfl ?_
  refine wm_does (fun v K => does_mv_i rfl) rfl ?_
  refine wm_does (fun v K => does_mv_i rfl) rfl ?_
  refine wm_nil fun g w41 K hV => ?_
  replace S := S.ext K
  clear K hV
  refine ws_chain 7 9 (by kernel_rfl) (by decide) ?_
  obtain ⟨r43, er43, H⟩ := bind_ex H
  replace S : St A N w w41 [oT g_0_1 a0.t, oB p35 T_Finder (Finder.C (⟨g_0_1, s37, (some m38), IntKind.i64.wrap (a0.left - 1), IntKind.i64.wrap (a0.visits + 1)⟩ : Finder)), oDStep s37 a0.steps, oMSq m38 a0.at_, oB b2 T_Sq (Sq.C a1)] [oTz] := S.front 1
  obtain ⟨B45, MB45, SB45, back⟩ := S.calln 1 ((.z 0 rfl .nil))
  refine wl_call (does_call ca_rule_Premises) (by decide) (rule_Premises_st SB45 er43) ?_
  rintro _ w44 ⟨s46, rfl, S2⟩
  replace S : St A N w w44 [oT g_0_1 r43.1, oS T_Sq 17 Sq.C s46 r43.2.1, oB p35 T_Finder (Finder.C (⟨g_0_1, s37, (some m38), IntKind.i64.wrap (a0.left - 1), IntKind.i64.wrap (a0.visits + 1)⟩ : Finder)), oDStep s37 a0.steps, oMSq m38 a0.at_, oB b2 T_Sq (Sq.C a1)] [oTz] := back _ _ _ _ S2 rfl
  clear back S2 SB45
  refine wd (does_mv_t rfl) ?_
  refine wl_nil ⟨rfl, ?_⟩
  refine ws_semi 9 12 [] (by kernel_rfl) (by decide) (by kernel_rfl)
   (V := fun i v u => match i with
    | _ => True) ?_ ?_
  · intro i v u u' hi hx hv
    match i, hv with
    | _, _ => exact trivial
  refine wm_does (fun v K => does_extract rfl rfl) rfl ?_
  refine wm_does (fun v K => does_extract rfl rfl) rfl ?_
  refine wm_does (fun v K => does_as_l rfl) rfl ?_
  refine wm_nil fun g w47 K hV => ?_
  replace S := S.ext K
  clear K hV
  refine ws_tail 12 (by kernel_rfl) (by decide) ?_
  refine wd (does_as_i rfl) ?_
  replace S : St A N w w47 [oMSq m38 a0.at_, oT g_0_1 r43.1, oS T_Sq 17 Sq.C s46 r43.2.1, oB p35 T_Finder (Finder.C (⟨g_0_1, s37, (some m38), IntKind.i64.wrap (a0.left - 1), IntKind.i64.wrap (a0.visits + 1)⟩ : Finder)), oDStep s37 a0.steps, oB b2 T_Sq (Sq.C a1)] [oTz] := S.front 4
  replace S : St A N w w47 [oDStep s37 a0.steps, oMSq m38 a0.at_, oT g_0_1 r43.1, oS T_Sq 17 Sq.C s46 r43.2.1, oB p35 T_Finder (Finder.C (⟨g_0_1, s37, (some m38), IntKind.i64.wrap (a0.left - 1), IntKind.i64.wrap (a0.visits + 1)⟩ : Finder)), oB b2 T_Sq (Sq.C a1)] [oTz] := S.front 4
  replace S : St A N w w47 [oT g_0_1 r43.1, oDStep s37 a0.steps, oMSq m38 a0.at_, oS T_Sq 17 Sq.C s46 r43.2.1, oB p35 T_Finder (Finder.C (⟨g_0_1, s37, (some m38), IntKind.i64.wrap (a0.left - 1), IntKind.i64.wrap (a0.visits + 1)⟩ : Finder)), oB b2 T_Sq (Sq.C a1)] [oTz] := S.front 2
  replace S : St A N w w47 [oB p35 T_Finder (Finder.C (⟨g_0_1, s37, (some m38), IntKind.i64.wrap (a0.left - 1), IntKind.i64.wrap (a0.visits + 1)⟩ : Finder)), oT g_0_1 r43.1, oDStep s37 a0.steps, oMSq m38 a0.at_, oS T_Sq 17 Sq.C s46 r43.2.1, oB b2 T_Sq (Sq.C a1)] [oTz] := S.front 4
  replace S : St A N w w47 [oF a_0 g_0_1 (⟨r43.1, a0.steps, a0.at_, IntKind.i64.wrap (a0.left - 1), IntKind.i64.wrap (a0.visits + 1)⟩ : PFinder), oS T_Sq 17 Sq.C s46 r43.2.1, oB b2 T_Sq (Sq.C a1)] [oTz] := S.shut_oF hp36
  refine wl_nil ?_
  refine wc_seq (wc_seq (wc_region ?_))
  refine wd (does_mv_i rfl) ?_
  refine wd (does_ne rfl rfl) ?_
  refine wl_nil ?_
  refine wc_if rfl (fun hc49 => ?_) (fun hc49 => ?_)
  · replace H := if_t hc49 H
    refine wc_seq (wc_region ?_)
    refine wd (does_mv_i rfl) ?_
    refine wd (does_as_i rfl) ?_
    refine wd (does_as_i rfl) ?_
    refine wl_nil ?_
    refine wc_ret ?_
    refine ⟨_, (rets2 (retOne_tmp rfl) (retOne_tmp rfl)), ?_⟩
    replace S : St A N w w47 [oF a_0 g_0_1 (⟨r43.1, a0.steps, a0.at_, IntKind.i64.wrap (a0.left - 1), IntKind.i64.wrap (a0.visits + 1)⟩ : PFinder)] [] := S.arr [0] []
    obtain rfl := Option.some.inj H
    exact ⟨rfl, S⟩
  replace H := if_f hc49 H
  refine wc_skip ?_
  refine wc_seq (wc_region ?_)
  refine wd (does_load_agg ag_Sq rfl ((S.blk 2).all _ (Sq.len _)) (Sq.len _)) ?_
  refine wd (does_mv_i rfl) ?_
  refine wd (does_mv_i rfl) ?_
  refine wd (Does.to (v' := .agg (Step.C (⟨a1, true, r28.1, r28.2.1, SlV.nil⟩ : Step)).toArray) (does_buildv (vs := [(0, .agg (Sq.C a1).toArray), (1, .bool true), (2, .int .i64 r28.1), (3, .int .i64 r28.2.1)]) bu_Step (consP rfl (consP rfl (consP rfl (consP rfl rfl)))) (Bld.step rfl rfl (Sq.len _) (by rw [Step.len]; decide) (Step.put_seq _ _) (Bld.one rfl rfl (by rw [Step.len]; decide) (Step.set_proved _ _) (Bld.one rfl rfl (by rw [Step.len]; decide) (Step.set_rule _ _) (Bld.one rfl rfl (by rw [Step.len]; decide) (Step.set_main _ _) Bld.nil))))) rfl) ?_
  refine wl_alloc ze_Step (by decide) fun b51 w50 hw50 => ?_
  replace S : St A N w w50 [oB b51 T_Step (Step.C (⟨Sq.z, false, 0, 0, SlV.nil⟩ : Step)), oF a_0 g_0_1 (⟨r43.1, a0.steps, a0.at_, IntKind.i64.wrap (a0.left - 1), IntKind.i64.wrap (a0.visits + 1)⟩ : PFinder), oS T_Sq 17 Sq.C s46 r43.2.1, oB b2 T_Sq (Sq.C a1)] [oTz] := S.new hw50
  refine wl_store_agg ag_Step rfl rfl (S.blk 0) (Step.len _) (by rw [Step.len]; decide) (Step.one _) (store_all (Step.len _)) fun w52 B hw52 zw52 => ?_
  replace S : St A N w w52 [oB b51 T_Step (Step.C (⟨a1, true, r28.1, r28.2.1, SlV.nil⟩ : Step)), oF a_0 g_0_1 (⟨r43.1, a0.steps, a0.at_, IntKind.i64.wrap (a0.left - 1), IntKind.i64.wrap (a0.visits + 1)⟩ : PFinder), oS T_Sq 17 Sq.C s46 r43.2.1, oB b2 T_Sq (Sq.C a1)] [oTz] := S.store 0 B hw52
  clear B
  refine wl_nil ?_
  refine wc_seq (wc_seq (wc_region ?_))
  refine wd (does_mv_l rfl) ?_
  refine wd (does_lenR sl_L_api_Seq rfl (S.rdO 2)) ?_
  refine wd (does_mv_i rfl) ?_
  refine wl_nil ?_
  replace S : St A N w w52 [oS T_int 1 IC SlV.nil ([] : List Int), oB b51 T_Step (Step.C (⟨a1, true, r28.1, r28.2.1, SlV.nil⟩ : Step)), oF a_0 g_0_1 (⟨r43.1, a0.steps, a0.at_, IntKind.i64.wrap (a0.left - 1), IntKind.i64.wrap (a0.visits + 1)⟩ : PFinder), oS T_Sq 17 Sq.C s46 r43.2.1, oB b2 T_Sq (Sq.C a1)] [oTz] := S.nil T_int 1 IC
  obtain ⟨o53, e53, Ho53⟩ := bind_ex H
  clear H
  refine wc_cutq [4, 5, 14, 15, 16, 87, 88, 89, 90, 91, 92, 93, 94, 95, 96, 97, 98, 99, 100, 101, 102, 103, 104, 105, 106, 107, 108, 109, 110, 111, 112, 113, 114, 115, 116, 117, 118, 119, 120, 121, 122, 123, 124, 125] (fun fr W => ∃ s53 : PStep × PFinder, o53 = .inl s53 ∧ ∃ s54 : SlV, St A N w W [oS T_int 1 IC s54 s53.1.kids, oB b51 T_Step (Step.C (⟨s53.1.seq, s53.1.proved, s53.1.rule, s53.1.main, s54⟩ : Step)), oF a_0 g_0_1 s53.2, oS T_Sq 17 Sq.C s46 r43.2.1, oB b2 T_Sq (Sq.C a1)] [oTz]) ?_ ?_
  · refine wc_block ?_
    refine wc_loopm (α := Nat × Int × (PStep × PFinder)) [4, 5, 14, 15, 16, 87, 88, 89, 90, 91, 92, 93, 94, 95, 96, 97, 98, 99, 100, 101, 102, 103, 104, 105, 106, 107, 108, 109, 110, 111, 112, 113, 114, 115, 116, 117, 118, 119, 120, 121, 122, 123, 124, 125] (fun x fr W => (x.1 : Int) = (r43.2.1.length : Int) - x.2.1 ∧ 0 ≤ x.2.1 ∧ forN (fun i s => search_finder_decide.b0 rec_search_finder_decide r43 a1 r28 i s.1 s.2) x.1 x.2.1 x.2.2 = some o53 ∧ ∃ s55 : SlV, fr 87 = .int .i64 x.2.1 ∧ St A N w W [oS T_int 1 IC s55 ((x.2.2.1).kids), oB b51 T_Step (Step.C (⟨(x.2.2.1).seq, (x.2.2.1).proved, (x.2.2.1).rule, (x.2.2.1).main, s55⟩ : Step)), oF a_0 g_0_1 (x.2.2.2), oS T_Sq 17 Sq.C s46 r43.2.1, oB b2 T_Sq (Sq.C a1)] [oTz]) (fun x => x.1) (((r43.2.1.length : Int) - 0).toNat, 0, ((⟨a1, true, r28.1, r28.2.1, ([] : List Int)⟩ : PStep), (⟨r43.1, a0.steps, a0.at_, IntKind.i64.wrap (a0.left - 1), IntKind.i64.wrap (a0.visits + 1)⟩ : PFinder))) ⟨(by dsimp only; have hle := Int.natCast_nonneg (r43.2.1.length); omega), (Int.le_refl _), (by dsimp only; exact e53), SlV.nil, rfl, S⟩ ?_
    rintro ⟨m53, i53, ⟨x53_0, x53_1⟩⟩ g53 u53 ⟨hm53, hl53, e53, s56, q53_i, S⟩
    try dsimp only at hm53
    try dsimp only at hl53
    try dsimp only at e53
    try dsimp only at S
    try dsimp only at q53_i
    refine wc_seq (wc_region ?_)
    refine wd (does_lt q53_i rfl) ?_
    refine wl_nil ?_
    refine wc_seq ?_
    refine wc_if rfl (fun hc57 => ?_) (fun hc57 => ?_)
    rotate_left
    · refine wc_exit ?_
      have hge : (r43.2.1.length : Int) ≤ i53 := Int.not_lt.1 (of_decide_eq_false hc57)
      obtain rfl : m53 = 0 := by omega
      replace e53 := forN_0 e53
      exact ⟨rfl, ((Dif.self _ _ _).upd rfl _), (x53_0, x53_1), e53, s56, S⟩
    refine wc_skip ?_
    have hlt53 : i53 < (r43.2.1.length : Int) := of_decide_eq_true hc57
    obtain ⟨m53, rfl⟩ : ∃ m, m53 = m + 1 := ⟨m53 - 1, by omega⟩
    obtain ⟨q53, H, e53⟩ := forN_s e53
    unfold search_finder_decide.b0 at H
    try dsimp only at H
    have hb53 := (S.lenO 3)
    refine wc_seq ?_
    refine wc_block ?_
    refine wc_seq (wc_region ?_)
    refine wd (does_indexR sl_L_api_Seq rfl q53_i (S.rdO 3) (And.intro (show 0 ≤ i53 by omega) (show i53 < (r43.2.1.length : Int) from hlt53)).1 (And.intro (show 0 ≤ i53 by omega) (show i53 < (r43.2.1.length : Int) from hlt53)).2) ?_
    refine wd (does_load_agg ag_Sq rfl ((S.rdO 3).at (at_some Sq.z (And.intro (show 0 ≤ i53 by omega) (show i53 < (r43.2.1.length : Int) from hlt53)))) (Sq.len _)) ?_
    refine wl_alloc ze_Sq (by decide) fun b60 w59 hw59 => ?_
    replace S : St A N w w59 [oB b60 T_Sq (Sq.C Sq.z), oS T_int 1 IC s56 x53_0.kids, oB b51 T_Step (Step.C (⟨x53_0.seq, x53_0.proved, x53_0.rule, x53_0.main, s56⟩ : Step)), oF a_0 g_0_1 x53_1, oS T_Sq 17 Sq.C s46 r43.2.1, oB b2 T_Sq (Sq.C a1)] [oTz] := S.new hw59
    refine wl_store_agg ag_Sq rfl rfl (S.blk 0) (Sq.len _) (by rw [Sq.len]; decide) (Sq.one _) (store_all (Sq.len _)) fun w61 B hw61 zw61 => ?_
    replace S : St A N w w61 [oB b60 T_Sq (Sq.C (at_ Sq.z r43.2.1 i53)), oS T_int 1 IC s56 x53_0.kids, oB b51 T_Step (Step.C (⟨x53_0.seq, x53_0.proved, x53_0.rule, x53_0.main, s56⟩ : Step)), oF a_0 g_0_1 x53_1, oS T_Sq 17 Sq.C s46 r43.2.1, oB b2 T_Sq (Sq.C a1)] [oTz] := S.store 0 B hw61
    clear B
    refine wl_nil ?_
    refine wc_seq (wc_region ?_)
    refine wd (does_mv_p rfl) ?_
    refine wd (does_load_agg ag_Sq rfl ((S.blk 0).all _ (Sq.len _)) (Sq.len _)) ?_
    obtain ⟨r62, er62, H⟩ := bind_ex H
    replace S : St A N w w61 [oF a_0 g_0_1 x53_1, oB b60 T_Sq (Sq.C (at_ Sq.z r43.2.1 i53)), oS T_int 1 IC s56 x53_0.kids, oB b51 T_Step (Step.C (⟨x53_0.seq, x53_0.proved, x53_0.rule, x53_0.main, s56⟩ : Step)), oS T_Sq 17 Sq.C s46 r43.2.1, oB b2 T_Sq (Sq.C a1)] [oTz] := S.front 3
    obtain ⟨B64, MB64, SB64, back⟩ := S.calln 1 ((.z 0 rfl .nil))
    refine wl_call (does_call ca_search_finder_decide) (by decide) (hrec_search_finder_decide SB64 er62) ?_
    rintro _ w63 ⟨rfl, S2⟩
    replace S : St A N w w63 [oF a_0 g_0_1 r62.1, oB b60 T_Sq (Sq.C (at_ Sq.z r43.2.1 i53)), oS T_int 1 IC s56 x53_0.kids, oB b51 T_Step (Step.C (⟨x53_0.seq, x53_0.proved, x53_0.rule, x53_0.main, s56⟩ : Step)), oS T_Sq 17 Sq.C s46 r43.2.1, oB b2 T_Sq (Sq.C a1)] [oTz] := back _ _ _ _ S2 rfl
    clear back S2 SB64
    refine wd (does_mv_t rfl) ?_
    refine wd (does_extract rfl rfl) ?_
    refine wd (does_extract rfl rfl) ?_
    refine wd (does_as_i rfl) ?_
    refine wd (does_as_i rfl) ?_
    refine wl_nil ?_
    refine wc_seq (wc_seq (wc_region ?_))
    refine wd (does_mv_i rfl) ?_
    refine wd (does_ne rfl rfl) ?_
    refine wl_nil ?_
    refine wc_if rfl (fun hc65 => ?_) (fun hc65 => ?_)
    · replace H := if_t hc65 H
      refine wc_seq (wc_region ?_)
      refine wd (does_mv_i rfl) ?_
      refine wd (does_as_i rfl) ?_
      refine wd (does_as_i rfl) ?_
      refine wl_nil ?_
      refine wc_ret ?_
      refine ⟨_, (rets2 (retOne_tmp rfl) (retOne_tmp rfl)), ?_⟩
      replace S : St A N w w63 [oF a_0 g_0_1 r62.1] [] := S.arr [0] []
      obtain rfl := Option.some.inj H
      obtain rfl := e53
      obtain rfl := aft_r Ho53
      exact ⟨rfl, S⟩
    replace H := if_f hc65 H
    refine wc_skip ?_
    refine wc_seq (wc_seq (wc_region ?_))
    refine wd (does_mv_p rfl) ?_
    obtain ⟨p66, s68, m69, hp67, S⟩ := S.open_oF 0
    replace S : St A N w w63 [oB p66 T_Finder (Finder.C (⟨g_0_1, s68, (some m69), r62.1.left, r62.1.visits⟩ : Finder)), oT g_0_1 r62.1.t, oDStep s68 r62.1.steps, oMSq m69 r62.1.at_, oB b60 T_Sq (Sq.C (at_ Sq.z r43.2.1 i53)), oS T_int 1 IC s56 x53_0.kids, oB b51 T_Step (Step.C (⟨x53_0.seq, x53_0.proved, x53_0.rule, x53_0.main, s56⟩ : Step)), oS T_Sq 17 Sq.C s46 r43.2.1, oB b2 T_Sq (Sq.C a1)] [oTz] := S
    refine wd (does_nilCheck (congrArg Value.pointer hp67)) ?_
    refine wd (does_fieldAddr fl_Finder_steps rfl (o' := 1) rfl) ?_
    refine wd (does_load on_L_api_Step rfl ((S.blk 0).cell (Finder.get_steps _))) ?_
    refine wd (does_mv_i rfl) ?_
    obtain ⟨hi70, H⟩ := chk_ex H
    refine wd (does_indexD sl_L_api_Step rfl rfl (S.onO 2) (inb_ex hi70).1 (inb_ex hi70).2) ?_
    refine wd (does_fieldAddr fl_Step_proved rfl (o' := _) rfl) ?_
    refine wd (does_load on_bool rfl (oD.cell (z := PStep.z) (S.onO 2) (inb_ex hi70) (fun _ => rStep.get_proved))) ?_
    refine wd (does_not rfl) ?_
    replace S : St A N w w63 [oMSq m69 r62.1.at_, oB p66 T_Finder (Finder.C (⟨g_0_1, s68, (some m69), r62.1.left, r62.1.visits⟩ : Finder)), oT g_0_1 r62.1.t, oDStep s68 r62.1.steps, oB b60 T_Sq (Sq.C (at_ Sq.z r43.2.1 i53)), oS T_int 1 IC s56 x53_0.kids, oB b51 T_Step (Step.C (⟨x53_0.seq, x53_0.proved, x53_0.rule, x53_0.main, s56⟩ : Step)), oS T_Sq 17 Sq.C s46 r43.2.1, oB b2 T_Sq (Sq.C a1)] [oTz] := S.front 3
    replace S : St A N w w63 [oDStep s68 r62.1.steps, oMSq m69 r62.1.at_, oB p66 T_Finder (Finder.C (⟨g_0_1, s68, (some m69), r62.1.left, r62.1.visits⟩ : Finder)), oT g_0_1 r62.1.t, oB b60 T_Sq (Sq.C (at_ Sq.z r43.2.1 i53)), oS T_int 1 IC s56 x53_0.kids, oB b51 T_Step (Step.C (⟨x53_0.seq, x53_0.proved, x53_0.rule, x53_0.main, s56⟩ : Step)), oS T_Sq 17 Sq.C s46 r43.2.1, oB b2 T_Sq (Sq.C a1)] [oTz] := S.front 3
    replace S : St A N w w63 [oT g_0_1 r62.1.t, oDStep s68 r62.1.steps, oMSq m69 r62.1.at_, oB p66 T_Finder (Finder.C (⟨g_0_1, s68, (some m69), r62.1.left, r62.1.visits⟩ : Finder)), oB b60 T_Sq (Sq.C (at_ Sq.z r43.2.1 i53)), oS T_int 1 IC s56 x53_0.kids, oB b51 T_Step (Step.C (⟨x53_0.seq, x53_0.proved, x53_0.rule, x53_0.main, s56⟩ : Step)), oS T_Sq 17 Sq.C s46 r43.2.1, oB b2 T_Sq (Sq.C a1)] [oTz] := S.front 3
    replace S : St A N w w63 [oB p66 T_Finder (Finder.C (⟨g_0_1, s68, (some m69), r62.1.left, r62.1.visits⟩ : Finder)), oT g_0_1 r62.1.t, oDStep s68 r62.1.steps, oMSq m69 r62.1.at_, oB b60 T_Sq (Sq.C (at_ Sq.z r43.2.1 i53)), oS T_int 1 IC s56 x53_0.kids, oB b51 T_Step (Step.C (⟨x53_0.seq, x53_0.proved, x53_0.rule, x53_0.main, s56⟩ : Step)), oS T_Sq 17 Sq.C s46 r43.2.1, oB b2 T_Sq (Sq.C a1)] [oTz] := S.front 3
    replace S : St A N w w63 [oF a_0 g_0_1 r62.1, oB b60 T_Sq (Sq.C (at_ Sq.z r43.2.1 i53)), oS T_int 1 IC s56 x53_0.kids, oB b51 T_Step (Step.C (⟨x53_0.seq, x53_0.proved, x53_0.rule, x53_0.main, s56⟩ : Step)), oS T_Sq 17 Sq.C s46 r43.2.1, oB b2 T_Sq (Sq.C a1)] [oTz] := S.shut_oF hp67
    refine wl_nil ?_
    refine wc_if rfl (fun hc71 => ?_) (fun hc71 => ?_)
    · replace H := if_t hc71 H
      refine wc_seq (wc_region ?_)
      refine wd (does_mv_p rfl) ?_
      refine wd (does_load_agg ag_Sq rfl ((S.blk 5).all _ (Sq.len _)) (Sq.len _)) ?_
      refine wd (does_mv_i rfl) ?_
      refine wd (does_mv_i rfl) ?_
      refine wd (does_mv_i rfl) ?_
      refine wl_lits (C := IC) (l := [r62.2.1]) (vs := [.int .i64 r62.2.1]) sl_L_int el_int.zero rfl rfl (fun _ _ => rfl) (by decide) rfl (by decide) fun b73 w72 s74 hBw72 hw72 => ?_
      replace S : St A N w w72 [oS T_int 1 IC s74 ([r62.2.1]), oF a_0 g_0_1 r62.1, oB b60 T_Sq (Sq.C (at_ Sq.z r43.2.1 i53)), oS T_int 1 IC s56 x53_0.kids, oB b51 T_Step (Step.C (⟨x53_0.seq, x53_0.proved, x53_0.rule, x53_0.main, s56⟩ : Step)), oS T_Sq 17 Sq.C s46 r43.2.1, oB b2 T_Sq (Sq.C a1)] [oTz] := S.lit hBw72 hw72 (by simp)
      refine wd (Does.to (v' := .agg (Step.C (⟨a1, false, r28.1, r28.2.1, s74⟩ : Step)).toArray) (does_buildv (vs := [(0, .agg (Sq.C a1).toArray), (2, .int .i64 r28.1), (3, .int .i64 r28.2.1), (4, s74.v)]) bu_Step (consP rfl (consP rfl (consP rfl (consP rfl rfl)))) (Bld.step rfl rfl (Sq.len _) (by rw [Step.len]; decide) (Step.put_seq _ _) (Bld.one rfl rfl (by rw [Step.len]; decide) (Step.set_rule _ _) (Bld.one rfl rfl (by rw [Step.len]; decide) (Step.set_main _ _) (Bld.one rfl (SlV.one _ _ rfl) (by rw [Step.len]; decide) (Step.set_kids _ _) Bld.nil))))) rfl) ?_
      obtain ⟨r75, er75, H⟩ := bind_ex H
      replace S : St A N w w72 [oF a_0 g_0_1 r62.1, oS T_int 1 IC s74 ([r62.2.1]), oB b60 T_Sq (Sq.C (at_ Sq.z r43.2.1 i53)), oS T_int 1 IC s56 x53_0.kids, oB b51 T_Step (Step.C (⟨x53_0.seq, x53_0.proved, x53_0.rule, x53_0.main, s56⟩ : Step)), oS T_Sq 17 Sq.C s46 r43.2.1, oB b2 T_Sq (Sq.C a1)] [oTz] := S.front 1
      obtain ⟨B77, MB77, SB77, back⟩ := S.calln 2 ((.nil))
      refine wl_call (does_call ca_search_finder_end) (by decide) (search_finder_end_st (a1 := (⟨a1, false, r28.1, r28.2.1, [r62.2.1]⟩ : PStep)) SB77 er75) ?_
      rintro _ w76 ⟨rfl, S2⟩
      replace S : St A N w w76 [oF a_0 g_0_1 r75.1, oB b60 T_Sq (Sq.C (at_ Sq.z r43.2.1 i53)), oS T_int 1 IC s56 x53_0.kids, oB b51 T_Step (Step.C (⟨x53_0.seq, x53_0.proved, x53_0.rule, x53_0.main, s56⟩ : Step)), oS T_Sq 17 Sq.C s46 r43.2.1, oB b2 T_Sq (Sq.C a1)] [oTz] := back _ _ _ _ S2 rfl
      clear back S2 SB77
      refine wd (does_extract rfl rfl) ?_
      refine wd (does_extract rfl rfl) ?_
      refine wd (does_as_i rfl) ?_
      refine wd (does_as_i rfl) ?_
      refine wl_nil ?_
      refine wc_ret ?_
      refine ⟨_, (rets2 (retOne_tmp rfl) (retOne_tmp rfl)), ?_⟩
      replace S : St A N w w76 [oF a_0 g_0_1 r75.1] [] := S.arr [0] []
      obtain rfl := Option.some.inj H
      obtain rfl := e53
      obtain rfl := aft_r Ho53
      exact ⟨rfl, S⟩
    replace H := if_f hc71 H
    refine wc_skip ?_
    refine wc_region ?_
    refine wd (does_fieldAddr fl_Step_kids rfl (o' := 20) rfl) ?_
    refine wd (does_load on_L_int rfl ((S.blk 3).cell (Step.get_kids _))) ?_
    refine wd (does_mv_i rfl) ?_
    refine wl_lits (C := IC) (l := [r62.2.1]) (vs := [.int .i64 r62.2.1]) sl_L_int el_int.zero rfl rfl (fun _ _ => rfl) (by decide) rfl (by decide) fun b79 w78 s80 hBw78 hw78 => ?_
    replace S : St A N w w78 [oS T_int 1 IC s80 ([r62.2.1]), oF a_0 g_0_1 r62.1, oB b60 T_Sq (Sq.C (at_ Sq.z r43.2.1 i53)), oS T_int 1 IC s56 x53_0.kids, oB b51 T_Step (Step.C (⟨x53_0.seq, x53_0.proved, x53_0.rule, x53_0.main, s56⟩ : Step)), oS T_Sq 17 Sq.C s46 r43.2.1, oB b2 T_Sq (Sq.C a1)] [oTz] := S.lit hBw78 hw78 (by simp)
    obtain ⟨ha83, H⟩ := chk_ex H
    have ha83 := of_decide_eq_true ha83
    refine wl_appends (C := IC) sl_L_int el_int rfl rfl (S.sl 3) (S.rdO 0) (by simp) (fun a _ v hv => by rw [List.mem_singleton.1 hv]; rfl) ha83 (by omega) (by decide) fun s82 w81 O hw81 gw81 => ?_
    replace S : St A N w w81 [oS T_int 1 IC s82 (x53_0.kids ++ [r62.2.1]), oS T_int 1 IC s80 ([r62.2.1]), oF a_0 g_0_1 r62.1, oB b60 T_Sq (Sq.C (at_ Sq.z r43.2.1 i53)), oB b51 T_Step (Step.C (⟨x53_0.seq, x53_0.proved, x53_0.rule, x53_0.main, s56⟩ : Step)), oS T_Sq 17 Sq.C s46 r43.2.1, oB b2 T_Sq (Sq.C a1)] [oTz] := S.push 3 O (by first | (simp; done) | (simp; omega)) hw81 gw81
    clear O
    refine wd (does_fieldAddr fl_Step_kids rfl (o' := 20) rfl) ?_
    refine wl_store on_L_int rfl rfl (S.blk 4) (by rw [Step.len]; decide) (SlV.one _ _ rfl) (Step.set_kids _ _) fun w84 B hw84 zw84 => ?_
    replace S : St A N w w84 [oB b51 T_Step (Step.C (⟨x53_0.seq, x53_0.proved, x53_0.rule, x53_0.main, s82⟩ : Step)), oS T_int 1 IC s82 (x53_0.kids ++ [r62.2.1]), oS T_int 1 IC s80 ([r62.2.1]), oF a_0 g_0_1 r62.1, oB b60 T_Sq (Sq.C (at_ Sq.z r43.2.1 i53)), oS T_Sq 17 Sq.C s46 r43.2.1, oB b2 T_Sq (Sq.C a1)] [oTz] := S.store 4 B hw84
    clear B
    refine wl_nil ?_
    refine wc_region ?_
    refine wd (does_addc q53_i rfl (c := i53 + 1) rfl (by omega) (by omega)) ?_
    refine wd (does_mv_i rfl) ?_
    refine wl_nil ?_
    replace S : St A N w w84 [oS T_int 1 IC s82 (x53_0.kids ++ [r62.2.1]), oB b51 T_Step (Step.C (⟨x53_0.seq, x53_0.proved, x53_0.rule, x53_0.main, s82⟩ : Step)), oF a_0 g_0_1 r62.1, oS T_Sq 17 Sq.C s46 r43.2.1, oB b2 T_Sq (Sq.C a1)] [oTz] := S.arr [1, 0, 3, 5, 6] [0]
    obtain rfl := Option.some.inj H
    exact ⟨rfl, ((((((((((((((((((((((((((((((((Dif.self _ _ _).upd rfl _).upd rfl _).upd rfl _).upd rfl _).upd rfl _).upd rfl _).upd rfl _).upd rfl _).upd rfl _).upd rfl _).upd rfl _).upd rfl _).upd rfl _).upd rfl _).upd rfl _).upd rfl _).upd rfl _).upd rfl _).upd rfl _).upd rfl _).upd rfl _).upd rfl _).upd rfl _).upd rfl _).upd rfl _).upd rfl _).upd rfl _).upd rfl _).upd rfl _).upd rfl _).upd rfl _), (m53, i53 + 1, ((⟨x53_0.seq, x53_0.proved, x53_0.rule, x53_0.main, x53_0.kids ++ [r62.2.1]⟩ : PStep), r62.1)), ⟨(by dsimp only; omega), (by dsimp only; omega), e53, s82, rfl, S⟩, by dsimp only; omega⟩
  rintro g85 u86 ⟨s53, rfl, s54, S⟩
  have H := Ho53
  dsimp only [aft] at H
  refine wc_seq (wc_region ?_)
  refine wd (does_mv_p rfl) ?_
  refine wd (does_load_agg ag_Step rfl ((S.blk 1).all _ (Step.len _)) (Step.len _)) ?_
  obtain ⟨r87, er87, H⟩ := bind_ex H
  replace S : St A N w u86 [oF a_0 g_0_1 s53.2, oS T_int 1 IC s54 s53.1.kids, oB b51 T_Step (Step.C (⟨s53.1.seq, s53.1.proved, s53.1.rule, s53.1.main, s54⟩ : Step)), oS T_Sq 17 Sq.C s46 r43.2.1, oB b2 T_Sq (Sq.C a1)] [oTz] := S.front 2
  obtain ⟨B89, MB89, SB89, back⟩ := S.calln 2 ((.nil))
  refine wl_call (does_call ca_search_finder_end) (by decide) (search_finder_end_st (a1 := s53.1) SB89 er87) ?_
  rintro _ w88 ⟨rfl, S2⟩
  replace S : St A N w w88 [oF a_0 g_0_1 r87.1, oB b51 T_Step (Step.C (⟨s53.1.seq, s53.1.proved, s53.1.rule, s53.1.main, s54⟩ : Step)), oS T_Sq 17 Sq.C s46 r43.2.1, oB b2 T_Sq (Sq.C a1)] [oTz] := back _ _ _ _ S2 rfl
  clear back S2 SB89
  refine wd (does_extract rfl rfl) ?_
  refine wd (does_extract rfl rfl) ?_
  refine wd (does_as_i rfl) ?_
  refine wd (does_as_i rfl) ?_
  refine wl_nil ?_
  refine wc_ret ?_
  refine ⟨_, (rets2 (retOne_tmp rfl) (retOne_tmp rfl)), ?_⟩
  replace S : St A N w w88 [oF a_0 g_0_1 r87.1] [] := S.arr [0] []
  obtain rfl := Option.some.inj H
  exact ⟨rfl, S⟩
theorem search_finder_decide_st {A : Nat → Prop} {N : Oth} {w : World} {a0 : PFinder} {a_0 : Option Addr} {g_0_1 : Option Addr} {a1 : Sq} (S : St A N w w [oF a_0 g_0_1 a0] [oTz]) {k : Nat} {r : PFinder × Int × Int} (H : search_finder_decide.f k a0 a1 = some r) :
    Calls PP F_search_finder_decide #[.pointer a_0, .agg (Sq.C a1).toArray] w fun e w' => ∃ v, e = .returned v ∧ (v = .tuple #[.int .i64 r.2.1, .int .i64 r.2.2] ∧ St A N w w' [oF a_0 g_0_1 r.1] []) := by
  have main : ∀ (k : Nat) {A : Nat → Prop} {N : Oth} {w : World} {a0 : PFinder} {a_0 : Option Addr} {g_0_1 : Option Addr} {a1 : Sq} (S : St A N w w [oF a_0 g_0_1 a0] [oTz]) {r : PFinder × Int × Int} (H : search_finder_decide.f k a0 a1 = some r), Calls PP F_search_finder_decide #[.pointer a_0, .agg (Sq.C a1).toArray] w fun e w' => ∃ v, e = .returned v ∧ (v = .tuple #[.int .i64 r.2.1, .int .i64 r.2.2] ∧ St A N w w' [oF a_0 g_0_1 r.1] []) := by
    intro k
    induction k with
    | zero => intro A N w a0 a_0 g_0_1 a1 S r H; cases H
    | succ k ih => intro A N w a0 a_0 g_0_1 a1 S r H; exact search_finder_decide_gst ih S H
  exact main k S H
theorem search_Run_st {A : Nat → Prop} {N : Oth} {w : World} {a0 : Tb} {a_0 : Option Addr} {a1 : Sq} {a2 : Int} (S : St A N w w [oT a_0 a0] [oTz]) {k : Nat} {r : Tb × PFound × Int} (H : search_Run.f k a0 a1 a2 = some r) :
    Calls PP F_search_Run #[.pointer a_0, .agg (Sq.C a1).toArray, .int .i64 a2] w fun e w' => ∃ v, e = .returned v ∧ (∃ so0 : SlV, v = .tuple #[.agg (Found.C (⟨r.2.1.proved, so0, r.2.1.visits⟩ : Found)).toArray, .int .i64 r.2.2] ∧ St A N w w' [oT a_0 r.1, oDStep so0 r.2.1.steps] []) := by
  unfold search_Run.f at H
  refine calls_of_wc (n := 88) fn_search_Run rfl rfl (by simp) ?_
  refine wc_seq (wc_region ?_)
  refine wl_box_p rfl (by decide) fun b2 w1 hw1 => ?_
  replace S : St A N w w1 [oB b2 T_dictum_formula_has [.pointer a_0], oT a_0 a0] [oTz] := S.new hw1
  refine wl_box_agg rfl (by decide) fun b4 w3 hw3 => ?_
  replace S : St A N w w3 [oB b4 T_Sq (Sq.C a1), oB b2 T_dictum_formula_has [.pointer a_0], oT a_0 a0] [oTz] := S.new hw3
  refine wl_alloc ze_Found (by decide) fun b6 w5 hw5 => ?_
  replace S : St A N w w5 [oB b6 T_Found (Found.C (⟨false, SlV.nil, 0⟩ : Found)), oB b4 T_Sq (Sq.C a1), oB b2 T_dictum_formula_has [.pointer a_0], oT a_0 a0] [oTz] := S.new hw5
  refine wl_alloc ze_api_Errno (by decide) fun b8 w7 hw7 => ?_
  replace S : St A N w w7 [oB b8 T_api_Errno [.int .i64 0], oB b6 T_Found (Found.C (⟨false, SlV.nil, 0⟩ : Found)), oB b4 T_Sq (Sq.C a1), oB b2 T_dictum_formula_has [.pointer a_0], oT a_0 a0] [oTz] := S.new hw7
  refine wl_nil ?_
  refine wc_seq (wc_seq (wc_region ?_))
  refine wd (does_load on_dictum_formula_has rfl ((S.blk 3).cell rfl)) ?_
  obtain ⟨r9, er9, H⟩ := bind_ex H
  obtain ⟨B11, MB11, SB11, back⟩ := S.calln 0 ((.o 4 rfl .nil))
  refine wl_call (does_call ca_formula_Table_Not) (by decide) (formula_Table_Not_neg_st SB11 rfl er9) ?_
  rintro _ w10 ⟨rfl, S2⟩
  replace S : St A N w w10 [oB b8 T_api_Errno [.int .i64 0], oB b6 T_Found (Found.C (⟨false, SlV.nil, 0⟩ : Found)), oB b4 T_Sq (Sq.C a1), oB b2 T_dictum_formula_has [.pointer a_0], oT a_0 a0] [oTz] := back _ _ _ _ S2 rfl
  clear back S2 SB11
  refine wd (does_mv_t rfl) ?_
  refine wd (does_extract rfl rfl) ?_
  refine wd (does_extract rfl rfl) ?_
  refine wd (does_as_i rfl) ?_
  refine wd (does_as_i rfl) ?_
  refine wl_nil ?_
  refine wc_seq (wc_region ?_)
  refine wd (does_mv_i rfl) ?_
  refine wd (does_eq rfl rfl) ?_
  refine wl_nil ?_
  refine wc_if rfl (fun hc12 => ?_) (fun hc12 => ?_)
  · replace H := if_t hc12 H
    refine wc_seq (wc_region ?_)
    refine wd (Does.to (v' := .agg (Found.C (⟨false, SlV.nil, 0⟩ : Found)).toArray) (does_buildv (vs := []) bu_Found rfl Bld.nil) rfl) ?_
    refine wd (does_mv_i rfl) ?_
    refine wl_store_agg ag_Found rfl rfl (S.blk 1) (Found.len _) (by rw [Found.len]; decide) (Found.one _) (store_all (Found.len _)) fun w13 B hw13 zw13 => ?_
    replace S : St A N w w13 [oB b6 T_Found (Found.C (⟨false, SlV.nil, 0⟩ : Found)), oB b8 T_api_Errno [.int .i64 0], oB b4 T_Sq (Sq.C a1), oB b2 T_dictum_formula_has [.pointer a_0], oT a_0 a0] [oTz] := S.store 1 B hw13
    clear B
    refine wl_store on_api_Errno rfl rfl (S.blk 1) (by simp) rfl rfl fun w14 B hw14 zw14 => ?_
    replace S : St A N w w14 [oB b8 T_api_Errno [.int .i64 r9.2], oB b6 T_Found (Found.C (⟨false, SlV.nil, 0⟩ : Found)), oB b4 T_Sq (Sq.C a1), oB b2 T_dictum_formula_has [.pointer a_0], oT a_0 a0] [oTz] := S.store 1 B hw14
    clear B
    refine wl_nil ?_
    refine wc_ret ?_
    replace S : St A N w w14 [oDStep SlV.nil ([] : List PStep), oB b8 T_api_Errno [.int .i64 r9.2], oB b6 T_Found (Found.C (⟨false, SlV.nil, 0⟩ : Found)), oB b4 T_Sq (Sq.C a1), oB b2 T_dictum_formula_has [.pointer a_0], oT a_0 a0] [oTz] := S.nilD T_Step 21 Step.C rStep
    refine ⟨_, (rets2 (retOne_agg ag_Found rfl ((S.blk 2).all _ (Found.len _)) (Found.len _)) (retOne_one on_api_Errno rfl ((S.blk 1).cell rfl))), ?_⟩
    replace S : St A N w w14 [oT a_0 a0, oDStep SlV.nil ([] : List PStep)] [] := S.arr [5, 0] []
    obtain rfl := Option.some.inj H
    exact ⟨SlV.nil, rfl, S⟩
  replace H := if_f hc12 H
  refine wc_skip ?_
  refine wc_seq (wc_seq (wc_region ?_))
  refine wd (does_fieldAddr fl_Sq_left rfl (o' := 0) rfl) ?_
  refine wd (does_load_agg ag_Bits rfl ((S.blk 2).cells (Sq.sub_left _)) (Bits.len _)) ?_
  refine wl_call (does_call ca_bits_All) (by decide) (bits_All_ok _ a1.left) ?_
  rintro _ w15 ⟨c16, rfl, Bc16, hc16, Ec16⟩
  replace S : St A N w w15 [oB b8 T_api_Errno [.int .i64 0], oB b6 T_Found (Found.C (⟨false, SlV.nil, 0⟩ : Found)), oB b4 T_Sq (Sq.C a1), oB b2 T_dictum_formula_has [.pointer a_0], oT a_0 a0] [oB c16 T_Bits (Bits.C a1.left), oTz] := S.addZ (b := oB c16 T_Bits (Bits.C a1.left)) (G := (· = c16)) Ec16 ⟨Bc16, fun _ => Iff.rfl⟩ (fun i hi => by rw [hi]; exact hc16)
  refine wl_nil ?_
  refine wc_block ?_
  replace S : St A N w w15 [oDStep SlV.nil ([] : List PStep), oB b8 T_api_Errno [.int .i64 0], oB b6 T_Found (Found.C (⟨false, SlV.nil, 0⟩ : Found)), oB b4 T_Sq (Sq.C a1), oB b2 T_dictum_formula_has [.pointer a_0], oT a_0 a0] [oB c16 T_Bits (Bits.C a1.left), oTz] := S.nilD T_Step 21 Step.C rStep
  obtain ⟨hok17, H⟩ := chk_ex H
  obtain ⟨o18, e18, Ho18⟩ := bind_ex H
  clear H
  refine wc_rangeSt (xs := Bits.list a1.left) (enc := fun (x : Nat) => Value.int .i64 (x : Int)) (bd := (fun (x : Nat) (s : Int × PFound) => search_Run.b0 a0 (x : Int) s.1 s.2)) (L := (fun (s : Int × PFound) (c : SlV) => [oDStep c s.2.steps, oB b8 T_api_Errno [.int .i64 s.1], oB b6 T_Found (Found.C (⟨s.2.proved, c, s.2.visits⟩ : Found)), oB b4 T_Sq (Sq.C a1), oB b2 T_dictum_formula_has [.pointer a_0], oT a_0 a0])) (Lr := (fun (s : Int × PFound) (c : SlV) => [oDStep c s.2.steps, oB b8 T_api_Errno [.int .i64 s.1], oB b6 T_Found (Found.C (⟨s.2.proved, c, s.2.visits⟩ : Found)), oB b4 T_Sq (Sq.C a1), oB b2 T_dictum_formula_has [.pointer a_0], oT a_0 a0])) (Z := [oB c16 T_Bits (Bits.C a1.left), oTz]) SlV.nil false 0 rfl ca_bits_All_1 (bits_All_1_gives (Bits.okB_ok hok17) c16) (by decide) (fun N' s c W h => ⟨h.blkZ 0, h.tz 1⟩) S e18 ?_ ?_ ?_ ?_
  · rintro i18 ⟨x18_0, x18_1⟩ s19 q18 N18 rd u18 H S
    replace S : St A N18 w u18 [oDStep s19 x18_1.steps, oB b8 T_api_Errno [.int .i64 x18_0], oB b6 T_Found (Found.C (⟨x18_1.proved, s19, x18_1.visits⟩ : Found)), oB b4 T_Sq (Sq.C a1), oB b2 T_dictum_formula_has [.pointer a_0], oT a_0 a0] [oB c16 T_Bits (Bits.C a1.left), oTz] := S
    refine wc_region ?_
    refine wd (does_as_i rfl) ?_
    refine wl_nil ?_
    refine ⟨rfl, S, fun M18 v18 S => ?_⟩
    replace S : St A M18 w v18 [oDStep s19 x18_1.steps, oB b8 T_api_Errno [.int .i64 x18_0], oB b6 T_Found (Found.C (⟨x18_1.proved, s19, x18_1.visits⟩ : Found)), oB b4 T_Sq (Sq.C a1), oB b2 T_dictum_formula_has [.pointer a_0], oT a_0 a0] [oB c16 T_Bits (Bits.C a1.left), oTz] := S
    replace H : search_Run.b0 a0 (i18 : Int) x18_0 x18_1 = some q18 := H
    unfold search_Run.b0 at H
    try dsimp only at H
    refine wc_block ?_
    refine wc_seq (wc_region ?_)
    refine wd (does_mv_i rfl) ?_
    refine wd (does_load on_dictum_formula_has rfl ((S.blk 4).cell rfl)) ?_
    obtain ⟨r20, er20, H⟩ := bind_ex H
    obtain ⟨B22, MB22, SB22, back⟩ := S.calln 0 ((.o 5 rfl .nil))
    refine wl_call (does_call ca_formula_Table_Len) (by decide) (formula_Table_Len_st SB22 er20) ?_
    rintro _ w21 ⟨rfl, S2⟩
    replace S : St A M18 w w21 [oDStep s19 x18_1.steps, oB b8 T_api_Errno [.int .i64 x18_0], oB b6 T_Found (Found.C (⟨x18_1.proved, s19, x18_1.visits⟩ : Found)), oB b4 T_Sq (Sq.C a1), oB b2 T_dictum_formula_has [.pointer a_0], oT a_0 a0] [oB c16 T_Bits (Bits.C a1.left), oTz] := back _ _ _ _ S2 rfl
    clear back S2 SB22
    refine wd (does_ge rfl rfl) ?_
    refine wl_nil ?_
    refine wc_if rfl (fun hc23 => ?_) (fun hc23 => ?_)
    · replace H := if_t hc23 H
      refine wc_seq (wc_region ?_)
      refine wd (Does.to (v' := .agg (Found.C (⟨false, SlV.nil, 0⟩ : Found)).toArray) (does_buildv (vs := []) bu_Found rfl Bld.nil) rfl) ?_
      refine wl_store_agg ag_Found rfl rfl (S.blk 2) (Found.len _) (by rw [Found.len]; decide) (Found.one _) (store_all (Found.len _)) fun w24 B hw24 zw24 => ?_
      replace S : St A M18 w w24 [oB b6 T_Found (Found.C (⟨false, SlV.nil, 0⟩ : Found)), oDStep s19 x18_1.steps, oB b8 T_api_Errno [.int .i64 x18_0], oB b4 T_Sq (Sq.C a1), oB b2 T_dictum_formula_has [.pointer a_0], oT a_0 a0] [oB c16 T_Bits (Bits.C a1.left), oTz] := S.store 2 B hw24
      clear B
      refine wl_store on_api_Errno rfl rfl (S.blk 2) (by simp) rfl rfl fun w25 B hw25 zw25 => ?_
      replace S : St A M18 w w25 [oB b8 T_api_Errno [.int .i64 31], oB b6 T_Found (Found.C (⟨false, SlV.nil, 0⟩ : Found)), oDStep s19 x18_1.steps, oB b4 T_Sq (Sq.C a1), oB b2 T_dictum_formula_has [.pointer a_0], oT a_0 a0] [oB c16 T_Bits (Bits.C a1.left), oTz] := S.store 2 B hw25
      clear B
      refine wl_nil ?_
      refine wc_ret ?_
      replace S : St A M18 w w25 [oDStep SlV.nil ([] : List PStep), oB b8 T_api_Errno [.int .i64 31], oB b6 T_Found (Found.C (⟨false, SlV.nil, 0⟩ : Found)), oDStep s19 x18_1.steps, oB b4 T_Sq (Sq.C a1), oB b2 T_dictum_formula_has [.pointer a_0], oT a_0 a0] [oB c16 T_Bits (Bits.C a1.left), oTz] := S.nilD T_Step 21 Step.C rStep
      replace S : St A M18 w w25 [oDStep SlV.nil ([] : List PStep), oB b8 T_api_Errno [.int .i64 31], oB b6 T_Found (Found.C (⟨false, SlV.nil, 0⟩ : Found)), oB b4 T_Sq (Sq.C a1), oB b2 T_dictum_formula_has [.pointer a_0], oT a_0 a0] [oB c16 T_Bits (Bits.C a1.left), oTz] := S.arr [0, 1, 2, 4, 5, 6] [0, 1]
      obtain rfl := Option.some.inj H
      exact ⟨_, rfl, SlV.nil, S⟩
    replace H := if_f hc23 H
    refine wc_skip ?_
    obtain rfl := Option.some.inj H
    exact ⟨_, rfl, s19, S⟩
  · rintro s18 s27 B18 w26 rfl S hB18
    replace S : St A (N.done B18) w w26 [oDStep s27 s18.2.steps, oB b8 T_api_Errno [.int .i64 s18.1], oB b6 T_Found (Found.C (⟨s18.2.proved, s27, s18.2.visits⟩ : Found)), oB b4 T_Sq (Sq.C a1), oB b2 T_dictum_formula_has [.pointer a_0], oT a_0 a0] [oB c16 T_Bits (Bits.C a1.left), oTz] := S
    have H := Ho18
    dsimp only [fin] at H
    refine wc_seq ?_
    refine wc_seq ?_
    refine wc_quiet 8 (Ext w26) hmix (by kernel_rfl) (by kernel_rfl) (Ext.drawn _) ?_
    refine wq_does (fun v K => does_fieldAddr fl_Sq_goal rfl (o' := 16) rfl) ?_
    refine wq_does (fun v K => does_load on_int rfl (((S.ext K).blk 3).cell (Sq.get_goal _))) ?_
    refine wq_does (fun v K => does_lt rfl rfl) ?_
    refine wq_does (fun v K => does_mv_b rfl) ?_
    refine wq_guard (j := 3) (pol := false) rfl rfl rfl (fun hg v K => does_fieldAddr fl_Sq_goal rfl (o' := 16) rfl) ?_
    refine wq_guard (j := 3) (pol := false) rfl rfl rfl (fun hg v K => does_load on_int (gv_yes hg) (((S.ext K).blk 3).cell (Sq.get_goal _))) ?_
    refine wq_guard (j := 3) (pol := false) rfl rfl rfl (fun hg v K => does_load on_dictum_formula_has rfl (((S.ext K).blk 4).cell rfl)) ?_
    obtain ⟨r28, er28, H⟩ := bind_ex H
    refine wq_gcall (j := 3) (pol := false) rfl rfl rfl (fun hg v => does_callg ca_formula_Table_Len (cons2 (gv_yes hg) rfl)) (fun hg v K => (have ⟨M, SS⟩ := (S.ext K).lend ((.o 5 rfl .nil)); quiet (formula_Table_Len_st SS (if_t (by simpa using hg) er28)) (fun v w' h => ⟨h.1, _, _, h.2⟩))) (fun v v' K h => K.thenExt h) ?_
    refine wq_nil fun w29 K => ?_
    replace S := S.ext K
    clear K
    refine wl_guard (j := 3) (pol := false) rfl rfl rfl (by decide) (fun hg => does_ge (gv_yes hg) (gv_yes hg)) (by decide) ?_
    refine wd (does_or rfl (fun hp => (gv_yes (and_1 hp)))) ?_
    refine wl_nil ?_
    refine wc_if rfl (fun hc30 => ?_) (fun hc30 => ?_)
    · replace H := if_t hc30 H
      refine wc_seq (wc_region ?_)
      refine wd (Does.to (v' := .agg (Found.C (⟨false, SlV.nil, 0⟩ : Found)).toArray) (does_buildv (vs := []) bu_Found rfl Bld.nil) rfl) ?_
      refine wl_store_agg ag_Found rfl rfl (S.blk 2) (Found.len _) (by rw [Found.len]; decide) (Found.one _) (store_all (Found.len _)) fun w31 B hw31 zw31 => ?_
      replace S : St A (N.done B18) w w31 [oB b6 T_Found (Found.C (⟨false, SlV.nil, 0⟩ : Found)), oDStep s27 s18.2.steps, oB b8 T_api_Errno [.int .i64 s18.1], oB b4 T_Sq (Sq.C a1), oB b2 T_dictum_formula_has [.pointer a_0], oT a_0 a0] [oB c16 T_Bits (Bits.C a1.left), oTz] := S.store 2 B hw31
      clear B
      refine wl_store on_api_Errno rfl rfl (S.blk 2) (by simp) rfl rfl fun w32 B hw32 zw32 => ?_
      replace S : St A (N.done B18) w w32 [oB b8 T_api_Errno [.int .i64 31], oB b6 T_Found (Found.C (⟨false, SlV.nil, 0⟩ : Found)), oDStep s27 s18.2.steps, oB b4 T_Sq (Sq.C a1), oB b2 T_dictum_formula_has [.pointer a_0], oT a_0 a0] [oB c16 T_Bits (Bits.C a1.left), oTz] := S.store 2 B hw32
      clear B
      refine wl_nil ?_
      refine wc_ret ?_
      refine end1 (.inl rfl) (S.take hB18).1 fun w33 hcw33 => ?_
      replace S : St A N w w33 [oB b8 T_api_Errno [.int .i64 31], oB b6 T_Found (Found.C (⟨false, SlV.nil, 0⟩ : Found)), oDStep s27 s18.2.steps, oB b4 T_Sq (Sq.C a1), oB b2 T_dictum_formula_has [.pointer a_0], oT a_0 a0] [oB c16 T_Bits (Bits.C a1.left), oTz] := (S.take hB18).2 _ hcw33
      replace S : St A N w w33 [oDStep SlV.nil ([] : List PStep), oB b8 T_api_Errno [.int .i64 31], oB b6 T_Found (Found.C (⟨false, SlV.nil, 0⟩ : Found)), oDStep s27 s18.2.steps, oB b4 T_Sq (Sq.C a1), oB b2 T_dictum_formula_has [.pointer a_0], oT a_0 a0] [oB c16 T_Bits (Bits.C a1.left), oTz] := S.nilD T_Step 21 Step.C rStep
      refine ⟨_, (rets2 (retOne_agg ag_Found rfl ((S.blk 2).all _ (Found.len _)) (Found.len _)) (retOne_one on_api_Errno rfl ((S.blk 1).cell rfl))), ?_⟩
      replace S : St A N w w33 [oT a_0 a0, oDStep SlV.nil ([] : List PStep)] [] := S.arr [6, 0] []
      obtain rfl := Option.some.inj H
      exact ⟨SlV.nil, rfl, S⟩
    replace H := if_f hc30 H
    refine wc_skip ?_
    refine wc_seq (wc_seq (wc_region ?_))
    refine wd (does_mv_i rfl) ?_
    refine wd (does_lt rfl rfl) ?_
    refine wd (does_mv_b rfl) ?_
    refine wl_guard (j := 2) (pol := false) rfl rfl rfl (by decide) (fun hg => does_mv_i rfl) (by decide) ?_
    refine wl_guard (j := 2) (pol := false) rfl rfl rfl (by decide) (fun hg => does_gt (gv_yes hg) rfl) (by decide) ?_
    refine wd (does_or rfl (fun hp => (gv_yes (and_1 hp)))) ?_
    refine wl_nil ?_
    refine wc_if rfl (fun hc34 => ?_) (fun hc34 => ?_)
    · replace H := if_t hc34 H
      refine wc_seq (wc_region ?_)
      refine wd (Does.to (v' := .agg (Found.C (⟨false, SlV.nil, 0⟩ : Found)).toArray) (does_buildv (vs := []) bu_Found rfl Bld.nil) rfl) ?_
      refine wl_store_agg ag_Found rfl rfl (S.blk 2) (Found.len _) (by rw [Found.len]; decide) (Found.one _) (store_all (Found.len _)) fun w35 B hw35 zw35 => ?_
      replace S : St A (N.done B18) w w35 [oB b6 T_Found (Found.C (⟨false, SlV.nil, 0⟩ : Found)), oDStep s27 s18.2.steps, oB b8 T_api_Errno [.int .i64 s18.1], oB b4 T_Sq (Sq.C a1), oB b2 T_dictum_formula_has [.pointer a_0], oT a_0 a0] [oB c16 T_Bits (Bits.C a1.left), oTz] := S.store 2 B hw35
      clear B
      refine wl_store on_api_Errno rfl rfl (S.blk 2) (by simp) rfl rfl fun w36 B hw36 zw36 => ?_
      replace S : St A (N.done B18) w w36 [oB b8 T_api_Errno [.int .i64 2], oB b6 T_Found (Found.C (⟨false, SlV.nil, 0⟩ : Found)), oDStep s27 s18.2.steps, oB b4 T_Sq (Sq.C a1), oB b2 T_dictum_formula_has [.pointer a_0], oT a_0 a0] [oB c16 T_Bits (Bits.C a1.left), oTz] := S.store 2 B hw36
      clear B
      refine wl_nil ?_
      refine wc_ret ?_
      refine end1 (.inl rfl) (S.take hB18).1 fun w37 hcw37 => ?_
      replace S : St A N w w37 [oB b8 T_api_Errno [.int .i64 2], oB b6 T_Found (Found.C (⟨false, SlV.nil, 0⟩ : Found)), oDStep s27 s18.2.steps, oB b4 T_Sq (Sq.C a1), oB b2 T_dictum_formula_has [.pointer a_0], oT a_0 a0] [oB c16 T_Bits (Bits.C a1.left), oTz] := (S.take hB18).2 _ hcw37
      replace S : St A N w w37 [oDStep SlV.nil ([] : List PStep), oB b8 T_api_Errno [.int .i64 2], oB b6 T_Found (Found.C (⟨false, SlV.nil, 0⟩ : Found)), oDStep s27 s18.2.steps, oB b4 T_Sq (Sq.C a1), oB b2 T_dictum_formula_has [.pointer a_0], oT a_0 a0] [oB c16 T_Bits (Bits.C a1.left), oTz] := S.nilD T_Step 21 Step.C rStep
      refine ⟨_, (rets2 (retOne_agg ag_Found rfl ((S.blk 2).all _ (Found.len _)) (Found.len _)) (retOne_one on_api_Errno rfl ((S.blk 1).cell rfl))), ?_⟩
      replace S : St A N w w37 [oT a_0 a0, oDStep SlV.nil ([] : List PStep)] [] := S.arr [6, 0] []
      obtain rfl := Option.some.inj H
      exact ⟨SlV.nil, rfl, S⟩
    replace H := if_f hc34 H
    refine wc_skip ?_
    refine wc_seq (wc_region ?_)
    refine wd (does_load on_dictum_formula_has rfl ((S.blk 4).cell rfl)) ?_
    obtain ⟨r38, er38, H⟩ := bind_ex H
    obtain ⟨B40, MB40, SB40, back⟩ := S.calln 0 ((.o 5 rfl .nil))
    refine wl_call (does_call ca_formula_Table_Len) (by decide) (formula_Table_Len_st SB40 er38) ?_
    rintro _ w39 ⟨rfl, S2⟩
    replace S : St A (N.done B18) w w39 [oDStep s27 s18.2.steps, oB b8 T_api_Errno [.int .i64 s18.1], oB b6 T_Found (Found.C (⟨s18.2.proved, s27, s18.2.visits⟩ : Found)), oB b4 T_Sq (Sq.C a1), oB b2 T_dictum_formula_has [.pointer a_0], oT a_0 a0] [oB c16 T_Bits (Bits.C a1.left), oTz] := back _ _ _ _ S2 rfl
    clear back S2 SB40
    refine wd (does_as_i rfl) ?_
    refine wl_nil ?_
    refine wc_seq (wc_region ?_)
    refine wd (does_load on_dictum_formula_has rfl ((S.blk 4).cell rfl)) ?_
    refine wl_makeMap (C := mSqC) (D := (Value.int .i64)) (by decide) fun m41 w42 hmw42 hxw42 hlw42 => ?_
    replace S : St A (N.done B18) w w42 [oMSq m41 ([] : List (Sq × Int)), oDStep s27 s18.2.steps, oB b8 T_api_Errno [.int .i64 s18.1], oB b6 T_Found (Found.C (⟨s18.2.proved, s27, s18.2.visits⟩ : Found)), oB b4 T_Sq (Sq.C a1), oB b2 T_dictum_formula_has [.pointer a_0], oT a_0 a0] [oB c16 T_Bits (Bits.C a1.left), oTz] := S.newM hmw42 hxw42 hlw42
    refine wd (does_mv_i rfl) ?_
    refine wd (Does.to (v' := .agg (Finder.C (⟨a_0, SlV.nil, (some m41), a2, 0⟩ : Finder)).toArray) (does_buildv (vs := [(0, .pointer a_0), (2, .map (some m41)), (3, .int .i64 a2)]) bu_Finder (consP rfl (consP rfl (consP rfl rfl))) (Bld.one rfl rfl (by rw [Finder.len]; decide) (Finder.set_t _ _) (Bld.one rfl rfl (by rw [Finder.len]; decide) (Finder.set_at_ _ _) (Bld.one rfl rfl (by rw [Finder.len]; decide) (Finder.set_left _ _) Bld.nil)))) rfl) ?_
    refine wl_box_agg rfl (by decide) fun b44 w43 hw43 => ?_
    replace S : St A (N.done B18) w w43 [oB b44 T_Finder (Finder.C (⟨a_0, SlV.nil, (some m41), a2, 0⟩ : Finder)), oMSq m41 ([] : List (Sq × Int)), oDStep s27 s18.2.steps, oB b8 T_api_Errno [.int .i64 s18.1], oB b6 T_Found (Found.C (⟨s18.2.proved, s27, s18.2.visits⟩ : Found)), oB b4 T_Sq (Sq.C a1), oB b2 T_dictum_formula_has [.pointer a_0], oT a_0 a0] [oB c16 T_Bits (Bits.C a1.left), oTz] := S.new hw43
    replace S : St A (N.done B18) w w43 [oDStep SlV.nil ([] : List PStep), oB b44 T_Finder (Finder.C (⟨a_0, SlV.nil, (some m41), a2, 0⟩ : Finder)), oMSq m41 ([] : List (Sq × Int)), oDStep s27 s18.2.steps, oB b8 T_api_Errno [.int .i64 s18.1], oB b6 T_Found (Found.C (⟨s18.2.proved, s27, s18.2.visits⟩ : Found)), oB b4 T_Sq (Sq.C a1), oB b2 T_dictum_formula_has [.pointer a_0], oT a_0 a0] [oB c16 T_Bits (Bits.C a1.left), oTz] := S.nilD T_Step 21 Step.C rStep
    replace S : St A (N.done B18) w w43 [oMSq m41 ([] : List (Sq × Int)), oDStep SlV.nil ([] : List PStep), oB b44 T_Finder (Finder.C (⟨a_0, SlV.nil, (some m41), a2, 0⟩ : Finder)), oDStep s27 s18.2.steps, oB b8 T_api_Errno [.int .i64 s18.1], oB b6 T_Found (Found.C (⟨s18.2.proved, s27, s18.2.visits⟩ : Found)), oB b4 T_Sq (Sq.C a1), oB b2 T_dictum_formula_has [.pointer a_0], oT a_0 a0] [oB c16 T_Bits (Bits.C a1.left), oTz] := S.front 2
    replace S : St A (N.done B18) w w43 [oDStep SlV.nil ([] : List PStep), oMSq m41 ([] : List (Sq × Int)), oB b44 T_Finder (Finder.C (⟨a_0, SlV.nil, (some m41), a2, 0⟩ : Finder)), oDStep s27 s18.2.steps, oB b8 T_api_Errno [.int .i64 s18.1], oB b6 T_Found (Found.C (⟨s18.2.proved, s27, s18.2.visits⟩ : Found)), oB b4 T_Sq (Sq.C a1), oB b2 T_dictum_formula_has [.pointer a_0], oT a_0 a0] [oB c16 T_Bits (Bits.C a1.left), oTz] := S.front 1
    replace S : St A (N.done B18) w w43 [oT a_0 a0, oDStep SlV.nil ([] : List PStep), oMSq m41 ([] : List (Sq × Int)), oB b44 T_Finder (Finder.C (⟨a_0, SlV.nil, (some m41), a2, 0⟩ : Finder)), oDStep s27 s18.2.steps, oB b8 T_api_Errno [.int .i64 s18.1], oB b6 T_Found (Found.C (⟨s18.2.proved, s27, s18.2.visits⟩ : Found)), oB b4 T_Sq (Sq.C a1), oB b2 T_dictum_formula_has [.pointer a_0]] [oB c16 T_Bits (Bits.C a1.left), oTz] := S.front 8
    replace S : St A (N.done B18) w w43 [oB b44 T_Finder (Finder.C (⟨a_0, SlV.nil, (some m41), a2, 0⟩ : Finder)), oT a_0 a0, oDStep SlV.nil ([] : List PStep), oMSq m41 ([] : List (Sq × Int)), oDStep s27 s18.2.steps, oB b8 T_api_Errno [.int .i64 s18.1], oB b6 T_Found (Found.C (⟨s18.2.proved, s27, s18.2.visits⟩ : Found)), oB b4 T_Sq (Sq.C a1), oB b2 T_dictum_formula_has [.pointer a_0]] [oB c16 T_Bits (Bits.C a1.left), oTz] := S.front 3
    replace S : St A (N.done B18) w w43 [oF (some ⟨b44, 0, none⟩) a_0 (⟨a0, ([] : List PStep), ([] : List (Sq × Int)), a2, 0⟩ : PFinder), oDStep s27 s18.2.steps, oB b8 T_api_Errno [.int .i64 s18.1], oB b6 T_Found (Found.C (⟨s18.2.proved, s27, s18.2.visits⟩ : Found)), oB b4 T_Sq (Sq.C a1), oB b2 T_dictum_formula_has [.pointer a_0]] [oB c16 T_Bits (Bits.C a1.left), oTz] := S.shut_oF rfl
    refine wd (does_as_p rfl) ?_
    refine wl_nil ?_
    refine wc_seq (wc_region ?_)
    refine wd (does_mv_p rfl) ?_
    refine wd (does_load_agg ag_Sq rfl ((S.blk 4).all _ (Sq.len _)) (Sq.len _)) ?_
    obtain ⟨r45, er45, H⟩ := bind_ex H
    obtain ⟨B47, MB47, SB47, back⟩ := S.calln 1 ((.z 1 rfl .nil))
    refine wl_call (does_call ca_search_finder_decide) (by decide) (search_finder_decide_st SB47 er45) ?_
    rintro _ w46 ⟨rfl, S2⟩
    replace S : St A (N.done B18) w w46 [oF (some ⟨b44, 0, none⟩) a_0 r45.1, oDStep s27 s18.2.steps, oB b8 T_api_Errno [.int .i64 s18.1], oB b6 T_Found (Found.C (⟨s18.2.proved, s27, s18.2.visits⟩ : Found)), oB b4 T_Sq (Sq.C a1), oB b2 T_dictum_formula_has [.pointer a_0]] [oB c16 T_Bits (Bits.C a1.left), oTz] := back _ _ _ _ S2 rfl
    clear back S2 SB47
    refine wd (does_mv_t rfl) ?_
    refine wd (does_extract rfl rfl) ?_
    refine wd (does_extract rfl rfl) ?_
    refine wd (does_as_i rfl) ?_
    refine wd (does_as_i rfl) ?_
    refine wl_nil ?_
    refine wc_seq (wc_seq (wc_region ?_))
    refine wd (does_mv_i rfl) ?_
    refine wd (does_ne rfl rfl) ?_
    refine wl_nil ?_
    refine wc_if rfl (fun hc48 => ?_) (fun hc48 => ?_)
    · replace H := if_t hc48 H
      refine wc_seq (wc_region ?_)
      refine wd (does_load on_dictum_formula_has rfl ((S.blk 5).cell rfl)) ?_
      refine wd (does_mv_i rfl) ?_
      obtain ⟨p49, s51, m52, hp50, S⟩ := S.open_oF 0
      replace S : St A (N.done B18) w w46 [oB p49 T_Finder (Finder.C (⟨a_0, s51, (some m52), r45.1.left, r45.1.visits⟩ : Finder)), oT a_0 r45.1.t, oDStep s51 r45.1.steps, oMSq m52 r45.1.at_, oDStep s27 s18.2.steps, oB b8 T_api_Errno [.int .i64 s18.1], oB b6 T_Found (Found.C (⟨s18.2.proved, s27, s18.2.visits⟩ : Found)), oB b4 T_Sq (Sq.C a1), oB b2 T_dictum_formula_has [.pointer a_0]] [oB c16 T_Bits (Bits.C a1.left), oTz] := S
      obtain ⟨r53, er53, H⟩ := bind_ex H
      replace S : St A (N.done B18) w w46 [oT a_0 r45.1.t, oB p49 T_Finder (Finder.C (⟨a_0, s51, (some m52), r45.1.left, r45.1.visits⟩ : Finder)), oDStep s51 r45.1.steps, oMSq m52 r45.1.at_, oDStep s27 s18.2.steps, oB b8 T_api_Errno [.int .i64 s18.1], oB b6 T_Found (Found.C (⟨s18.2.proved, s27, s18.2.visits⟩ : Found)), oB b4 T_Sq (Sq.C a1), oB b2 T_dictum_formula_has [.pointer a_0]] [oB c16 T_Bits (Bits.C a1.left), oTz] := S.front 1
      obtain ⟨B55, MB55, SB55, back⟩ := S.calln 1 ((.nil))
      refine wl_call (does_call ca_formula_Table_Cut) (by decide) (formula_Table_Cut_st SB55 er53) ?_
      rintro _ w54 ⟨rfl, S2⟩
      replace S : St A (N.done B18) w w54 [oT a_0 r53.1, oB p49 T_Finder (Finder.C (⟨a_0, s51, (some m52), r45.1.left, r45.1.visits⟩ : Finder)), oDStep s51 r45.1.steps, oMSq m52 r45.1.at_, oDStep s27 s18.2.steps, oB b8 T_api_Errno [.int .i64 s18.1], oB b6 T_Found (Found.C (⟨s18.2.proved, s27, s18.2.visits⟩ : Found)), oB b4 T_Sq (Sq.C a1), oB b2 T_dictum_formula_has [.pointer a_0]] [oB c16 T_Bits (Bits.C a1.left), oTz] := back _ _ _ _ S2 rfl
      clear back S2 SB55
      replace S : St A (N.done B18) w w54 [oMSq m52 r45.1.at_, oT a_0 r53.1, oB p49 T_Finder (Finder.C (⟨a_0, s51, (some m52), r45.1.left, r45.1.visits⟩ : Finder)), oDStep s51 r45.1.steps, oDStep s27 s18.2.steps, oB b8 T_api_Errno [.int .i64 s18.1], oB b6 T_Found (Found.C (⟨s18.2.proved, s27, s18.2.visits⟩ : Found)), oB b4 T_Sq (Sq.C a1), oB b2 T_dictum_formula_has [.pointer a_0]] [oB c16 T_Bits (Bits.C a1.left), oTz] := S.front 3
      replace S : St A (N.done B18) w w54 [oDStep s51 r45.1.steps, oMSq m52 r45.1.at_, oT a_0 r53.1, oB p49 T_Finder (Finder.C (⟨a_0, s51, (some m52), r45.1.left, r45.1.visits⟩ : Finder)), oDStep s27 s18.2.steps, oB b8 T_api_Errno [.int .i64 s18.1], oB b6 T_Found (Found.C (⟨s18.2.proved, s27, s18.2.visits⟩ : Found)), oB b4 T_Sq (Sq.C a1), oB b2 T_dictum_formula_has [.pointer a_0]] [oB c16 T_Bits (Bits.C a1.left), oTz] := S.front 3
      replace S : St A (N.done B18) w w54 [oT a_0 r53.1, oDStep s51 r45.1.steps, oMSq m52 r45.1.at_, oB p49 T_Finder (Finder.C (⟨a_0, s51, (some m52), r45.1.left, r45.1.visits⟩ : Finder)), oDStep s27 s18.2.steps, oB b8 T_api_Errno [.int .i64 s18.1], oB b6 T_Found (Found.C (⟨s18.2.proved, s27, s18.2.visits⟩ : Found)), oB b4 T_Sq (Sq.C a1), oB b2 T_dictum_formula_has [.pointer a_0]] [oB c16 T_Bits (Bits.C a1.left), oTz] := S.front 2
      replace S : St A (N.done B18) w w54 [oB p49 T_Finder (Finder.C (⟨a_0, s51, (some m52), r45.1.left, r45.1.visits⟩ : Finder)), oT a_0 r53.1, oDStep s51 r45.1.steps, oMSq m52 r45.1.at_, oDStep s27 s18.2.steps, oB b8 T_api_Errno [.int .i64 s18.1], oB b6 T_Found (Found.C (⟨s18.2.proved, s27, s18.2.visits⟩ : Found)), oB b4 T_Sq (Sq.C a1), oB b2 T_dictum_formula_has [.pointer a_0]] [oB c16 T_Bits (Bits.C a1.left), oTz] := S.front 3
      replace S : St A (N.done B18) w w54 [oF (some ⟨b44, 0, none⟩) a_0 (⟨r53.1, r45.1.steps, r45.1.at_, r45.1.left, r45.1.visits⟩ : PFinder), oDStep s27 s18.2.steps, oB b8 T_api_Errno [.int .i64 s18.1], oB b6 T_Found (Found.C (⟨s18.2.proved, s27, s18.2.visits⟩ : Found)), oB b4 T_Sq (Sq.C a1), oB b2 T_dictum_formula_has [.pointer a_0]] [oB c16 T_Bits (Bits.C a1.left), oTz] := S.shut_oF hp50
      refine wl_nil ?_
      refine wc_seq (wc_region ?_)
      refine wd (Does.to (v' := .agg (Found.C (⟨false, SlV.nil, 0⟩ : Found)).toArray) (does_buildv (vs := []) bu_Found rfl Bld.nil) rfl) ?_
      refine wd (does_mv_i rfl) ?_
      refine wl_store_agg ag_Found rfl rfl (S.blk 3) (Found.len _) (by rw [Found.len]; decide) (Found.one _) (store_all (Found.len _)) fun w56 B hw56 zw56 => ?_
      replace S : St A (N.done B18) w w56 [oB b6 T_Found (Found.C (⟨false, SlV.nil, 0⟩ : Found)), oF (some ⟨b44, 0, none⟩) a_0 (⟨r53.1, r45.1.steps, r45.1.at_, r45.1.left, r45.1.visits⟩ : PFinder), oDStep s27 s18.2.steps, oB b8 T_api_Errno [.int .i64 s18.1], oB b4 T_Sq (Sq.C a1), oB b2 T_dictum_formula_has [.pointer a_0]] [oB c16 T_Bits (Bits.C a1.left), oTz] := S.store 3 B hw56
      clear B
      refine wl_store on_api_Errno rfl rfl (S.blk 3) (by simp) rfl rfl fun w57 B hw57 zw57 => ?_
      replace S : St A (N.done B18) w w57 [oB b8 T_api_Errno [.int .i64 r45.2.2], oB b6 T_Found (Found.C (⟨false, SlV.nil, 0⟩ : Found)), oF (some ⟨b44, 0, none⟩) a_0 (⟨r53.1, r45.1.steps, r45.1.at_, r45.1.left, r45.1.visits⟩ : PFinder), oDStep s27 s18.2.steps, oB b4 T_Sq (Sq.C a1), oB b2 T_dictum_formula_has [.pointer a_0]] [oB c16 T_Bits (Bits.C a1.left), oTz] := S.store 3 B hw57
      clear B
      refine wl_nil ?_
      refine wc_ret ?_
      obtain ⟨p58, s60, m61, hp59, S⟩ := S.open_oF 2
      replace S : St A (N.done B18) w w57 [oB p58 T_Finder (Finder.C (⟨a_0, s60, (some m61), r45.1.left, r45.1.visits⟩ : Finder)), oT a_0 r53.1, oDStep s60 r45.1.steps, oMSq m61 r45.1.at_, oB b8 T_api_Errno [.int .i64 r45.2.2], oB b6 T_Found (Found.C (⟨false, SlV.nil, 0⟩ : Found)), oDStep s27 s18.2.steps, oB b4 T_Sq (Sq.C a1), oB b2 T_dictum_formula_has [.pointer a_0]] [oB c16 T_Bits (Bits.C a1.left), oTz] := S
      refine end1 (.inl rfl) (S.take hB18).1 fun w62 hcw62 => ?_
      replace S : St A N w w62 [oB p58 T_Finder (Finder.C (⟨a_0, s60, (some m61), r45.1.left, r45.1.visits⟩ : Finder)), oT a_0 r53.1, oDStep s60 r45.1.steps, oMSq m61 r45.1.at_, oB b8 T_api_Errno [.int .i64 r45.2.2], oB b6 T_Found (Found.C (⟨false, SlV.nil, 0⟩ : Found)), oDStep s27 s18.2.steps, oB b4 T_Sq (Sq.C a1), oB b2 T_dictum_formula_has [.pointer a_0]] [oB c16 T_Bits (Bits.C a1.left), oTz] := (S.take hB18).2 _ hcw62
      replace S : St A N w w62 [oDStep SlV.nil ([] : List PStep), oB p58 T_Finder (Finder.C (⟨a_0, s60, (some m61), r45.1.left, r45.1.visits⟩ : Finder)), oT a_0 r53.1, oDStep s60 r45.1.steps, oMSq m61 r45.1.at_, oB b8 T_api_Errno [.int .i64 r45.2.2], oB b6 T_Found (Found.C (⟨false, SlV.nil, 0⟩ : Found)), oDStep s27 s18.2.steps, oB b4 T_Sq (Sq.C a1), oB b2 T_dictum_formula_has [.pointer a_0]] [oB c16 T_Bits (Bits.C a1.left), oTz] := S.nilD T_Step 21 Step.C rStep
      refine ⟨_, (rets2 (retOne_agg ag_Found rfl ((S.blk 6).all _ (Found.len _)) (Found.len _)) (retOne_one on_api_Errno rfl ((S.blk 5).cell rfl))), ?_⟩
      replace S : St A N w w62 [oT a_0 r53.1, oDStep SlV.nil ([] : List PStep)] [] := S.arr [2, 0] []
      obtain rfl := Option.some.inj H
      exact ⟨SlV.nil, rfl, S⟩
    replace H := if_f hc48 H
    refine wc_skip ?_
    refine wc_seq ?_
    obtain ⟨p63, s65, m66, hp64, S⟩ := S.open_oF 0
    replace S : St A (N.done B18) w w46 [oB p63 T_Finder (Finder.C (⟨a_0, s65, (some m66), r45.1.left, r45.1.visits⟩ : Finder)), oT a_0 r45.1.t, oDStep s65 r45.1.steps, oMSq m66 r45.1.at_, oDStep s27 s18.2.steps, oB b8 T_api_Errno [.int .i64 s18.1], oB b6 T_Found (Found.C (⟨s18.2.proved, s27, s18.2.visits⟩ : Found)), oB b4 T_Sq (Sq.C a1), oB b2 T_dictum_formula_has [.pointer a_0]] [oB c16 T_Bits (Bits.C a1.left), oTz] := S
    refine wc_quiet 16 (Ext w46) hmix (by kernel_rfl) (by kernel_rfl) (Ext.drawn _) ?_
    refine wq_does (fun v K => does_mv_p rfl) ?_
    refine wq_does (fun v K => does_nilCheck (congrArg Value.pointer hp64)) ?_
    refine wq_does (fun v K => does_fieldAddr fl_Finder_steps rfl (o' := 1) rfl) ?_
    refine wq_does (fun v K => does_load on_L_api_Step rfl (((S.ext K).blk 0).cell (Finder.get_steps _))) ?_
    refine wq_does (fun v K => does_mv_i rfl) ?_
    obtain ⟨hi67, H⟩ := chk_ex H
    refine wq_does (fun v K => does_indexD sl_L_api_Step rfl rfl ((S.ext K).onO 2) (inb_ex hi67).1 (inb_ex hi67).2) ?_
    refine wq_does (fun v K => does_fieldAddr fl_Step_proved rfl (o' := _) rfl) ?_
    refine wq_does (fun v K => does_load on_bool rfl (oD.cell (z := PStep.z) ((S.ext K).onO 2) (inb_ex hi67) (fun _ => rStep.get_proved))) ?_
    refine wq_does (fun v K => does_mv_p rfl) ?_
    refine wq_does (fun v K => does_nilCheck (congrArg Value.pointer hp64)) ?_
    refine wq_does (fun v K => does_fieldAddr fl_Finder_steps rfl (o' := 1) rfl) ?_
    refine wq_does (fun v K => does_load on_L_api_Step rfl (((S.ext K).blk 0).cell (Finder.get_steps _))) ?_
    refine wq_does (fun v K => does_mv_p rfl) ?_
    refine wq_does (fun v K => does_nilCheck (congrArg Value.pointer hp64)) ?_
    refine wq_does (fun v K => does_fieldAddr fl_Finder_visits rfl (o' := 4) rfl) ?_
    refine wq_does (fun v K => does_load on_int rfl (((S.ext K).blk 0).cell (Finder.get_visits _))) ?_
    refine wq_nil fun w68 K => ?_
    replace S := S.ext K
    clear K
    refine wd (Does.to (v' := .agg (Found.C (⟨(at_ PStep.z r45.1.steps r45.2.1).proved, s65, r45.1.visits⟩ : Found)).toArray) (does_buildv (vs := [(0, .bool ((at_ PStep.z r45.1.steps r45.2.1).proved)), (1, s65.v), (2, .int .i64 r45.1.visits)]) bu_Found (consP rfl (consP rfl (consP rfl rfl))) (Bld.one rfl rfl (by rw [Found.len]; decide) (Found.set_proved _ _) (Bld.one rfl (SlV.one _ _ rfl) (by rw [Found.len]; decide) (Found.set_steps _ _) (Bld.one rfl rfl (by rw [Found.len]; decide) (Found.set_visits _ _) Bld.nil)))) rfl) ?_
    refine wl_store_agg ag_Found rfl rfl (S.blk 6) (Found.len _) (by rw [Found.len]; decide) (Found.one _) (store_all (Found.len _)) fun w69 B hw69 zw69 => ?_
    replace S : St A (N.done B18) w w69 [oB b6 T_Found (Found.C (⟨(at_ PStep.z r45.1.steps r45.2.1).proved, s65, r45.1.visits⟩ : Found)), oB p63 T_Finder (Finder.C (⟨a_0, s65, (some m66), r45.1.left, r45.1.visits⟩ : Finder)), oT a_0 r45.1.t, oDStep s65 r45.1.steps, oMSq m66 r45.1.at_, oDStep s27 s18.2.steps, oB b8 T_api_Errno [.int .i64 s18.1], oB b4 T_Sq (Sq.C a1), oB b2 T_dictum_formula_has [.pointer a_0]] [oB c16 T_Bits (Bits.C a1.left), oTz] := S.store 6 B hw69
    clear B
    refine wl_store on_api_Errno rfl rfl (S.blk 6) (by simp) rfl rfl fun w70 B hw70 zw70 => ?_
    replace S : St A (N.done B18) w w70 [oB b8 T_api_Errno [.int .i64 0], oB b6 T_Found (Found.C (⟨(at_ PStep.z r45.1.steps r45.2.1).proved, s65, r45.1.visits⟩ : Found)), oB p63 T_Finder (Finder.C (⟨a_0, s65, (some m66), r45.1.left, r45.1.visits⟩ : Finder)), oT a_0 r45.1.t, oDStep s65 r45.1.steps, oMSq m66 r45.1.at_, oDStep s27 s18.2.steps, oB b4 T_Sq (Sq.C a1), oB b2 T_dictum_formula_has [.pointer a_0]] [oB c16 T_Bits (Bits.C a1.left), oTz] := S.store 6 B hw70
    clear B
    refine wl_nil ?_
    refine wc_ret ?_
    refine end1 (.inl rfl) (S.take hB18).1 fun w71 hcw71 => ?_
    replace S : St A N w w71 [oB b8 T_api_Errno [.int .i64 0], oB b6 T_Found (Found.C (⟨(at_ PStep.z r45.1.steps r45.2.1).proved, s65, r45.1.visits⟩ : Found)), oB p63 T_Finder (Finder.C (⟨a_0, s65, (some m66), r45.1.left, r45.1.visits⟩ : Finder)), oT a_0 r45.1.t, oDStep s65 r45.1.steps, oMSq m66 r45.1.at_, oDStep s27 s18.2.steps, oB b4 T_Sq (Sq.C a1), oB b2 T_dictum_formula_has [.pointer a_0]] [oB c16 T_Bits (Bits.C a1.left), oTz] := (S.take hB18).2 _ hcw71
    refine ⟨_, (rets2 (retOne_agg ag_Found rfl ((S.blk 1).all _ (Found.len _)) (Found.len _)) (retOne_one on_api_Errno rfl ((S.blk 0).cell rfl))), ?_⟩
    replace S : St A N w w71 [oT a_0 r45.1.t, oDStep s65 r45.1.steps] [] := S.arr [3, 4] []
    obtain rfl := Option.some.inj H
    exact ⟨s65, rfl, S⟩
  · rintro s18 s73 B18 w72 rfl S hB18
    replace S : St A (N.done B18) w w72 [oDStep s73 s18.2.steps, oB b8 T_api_Errno [.int .i64 s18.1], oB b6 T_Found (Found.C (⟨s18.2.proved, s73, s18.2.visits⟩ : Found)), oB b4 T_Sq (Sq.C a1), oB b2 T_dictum_formula_has [.pointer a_0], oT a_0 a0] [oB c16 T_Bits (Bits.C a1.left), oTz] := S
    have H := Ho18
    dsimp only [fin] at H
    refine end1 (.inl rfl) (S.take hB18).1 fun w74 hcw74 => ?_
    replace S : St A N w w74 [oDStep s73 s18.2.steps, oB b8 T_api_Errno [.int .i64 s18.1], oB b6 T_Found (Found.C (⟨s18.2.proved, s73, s18.2.visits⟩ : Found)), oB b4 T_Sq (Sq.C a1), oB b2 T_dictum_formula_has [.pointer a_0], oT a_0 a0] [oB c16 T_Bits (Bits.C a1.left), oTz] := (S.take hB18).2 _ hcw74
    refine ⟨_, (rets2 (retOne_agg ag_Found rfl ((S.blk 2).all _ (Found.len _)) (Found.len _)) (retOne_one on_api_Errno rfl ((S.blk 1).cell rfl))), ?_⟩
    replace S : St A N w w74 [oT a_0 a0, oDStep s73 s18.2.steps] [] := S.arr [5, 0] []
    obtain rfl := Option.some.inj H
    exact ⟨s73, rfl, S⟩
  · intro h; cases h
end Go.Proofs.YtjjkhjieegmphaaDoor
end
section
namespace Go.Proofs.YtjjkhjieegmphaaDoor
open Gw Go.RowKit
set_option linter.unusedVariables false
set_option linter.unusedSimpArgs false

theorem formula_From_st {A : Nat → Prop} {N : Oth} {w : World} {a0 : List Nd} {s_0 : SlV} (S : St A N w w [] [fS 4 Nd.C s_0 a0]) {r : Tb × Int} (H : formula_From.f a0 = some r) :
    Calls PP F_formula_From #[s_0.v] w fun e w' => ∃ v, e = .returned v ∧ (∃ ao0 : Option Addr, v = .tuple #[.pointer ao0, .int .i64 r.2] ∧ St A N w w' [oT ao0 r.1] []) := by
  unfold formula_From.f at H
  refine calls_of_wc (n := 35) fn_formula_From rfl rfl (by simp) ?_
  refine wc_seq (wc_region ?_)
  replace S : St A N w w [oT none none] [fS 4 Nd.C s_0 a0] := S.add (Ext.refl _) (oT.nil _) (fun _ x => x.elim)
  refine wd (does_as_p rfl) ?_
  refine wd (does_as_i rfl) ?_
  refine wl_nil ?_
  refine wc_seq (wc_region ?_)
  obtain ⟨r1, er1, H⟩ := bind_ex H
  obtain ⟨B3, MB3, SB3, back⟩ := S.calln 0 ((.nil))
  refine wl_call (does_call ca_formula_New) (by decide) (formula_New_st SB3 er1) ?_
  rintro _ w2 ⟨a4, rfl, S2⟩
  replace S : St A N w w2 [oT a4 r1, oT none none] [fS 4 Nd.C s_0 a0] := back _ _ _ _ S2 rfl
  clear back S2 SB3
  refine wd (does_as_p rfl) ?_
  refine wl_nil ?_
  refine wc_seq (wc_seq (wc_region ?_))
  refine wd (does_mv_l rfl) ?_
  refine wd (does_lenR sl_L_api_Node rfl (S.rd 0)) ?_
  refine wd (does_mv_i rfl) ?_
  refine wl_nil ?_
  obtain ⟨o5, e5, Ho5⟩ := bind_ex H
  clear H
  refine wc_cutq [2, 3, 5, 6, 7, 8, 12, 13, 14, 15, 16, 17, 18, 19, 20, 21, 22, 23, 24, 25, 26, 27, 28, 29, 30, 31, 32, 33] (fun fr W => ∃ s5 : Tb, o5 = .inl s5 ∧ St A N w W [oT a4 s5, oT none none] [fS 4 Nd.C s_0 a0]) ?_ ?_
  · refine wc_block ?_
    refine wc_loopm (α := Nat × Int × Tb) [2, 3, 5, 6, 7, 8, 12, 13, 14, 15, 16, 17, 18, 19, 20, 21, 22, 23, 24, 25, 26, 27, 28, 29, 30, 31, 32, 33] (fun x fr W => (x.1 : Int) = (a0.length : Int) - x.2.1 ∧ 0 ≤ x.2.1 ∧ forN (fun i s => formula_From.b0 a0 i s) x.1 x.2.1 x.2.2 = some o5 ∧ fr 12 = .int .i64 x.2.1 ∧ St A N w W [oT a4 (x.2.2), oT none none] [fS 4 Nd.C s_0 a0]) (fun x => x.1) (((a0.length : Int) - 0).toNat, 0, r1) ⟨(by dsimp only; have hle := Int.natCast_nonneg (a0.length); omega), (Int.le_refl _), (by dsimp only; exact e5), rfl, S⟩ ?_
    rintro ⟨m5, i5, x5_0⟩ g5 u5 ⟨hm5, hl5, e5, q5_i, S⟩
    try dsimp only at hm5
    try dsimp only at hl5
    try dsimp only at e5
    try dsimp only at S
    try dsimp only at q5_i
    refine wc_seq (wc_region ?_)
    refine wd (does_lt q5_i rfl) ?_
    refine wl_nil ?_
    refine wc_seq ?_
    refine wc_if rfl (fun hc6 => ?_) (fun hc6 => ?_)
    rotate_left
    · refine wc_exit ?_
      have hge : (a0.length : Int) ≤ i5 := Int.not_lt.1 (of_decide_eq_false hc6)
      obtain rfl : m5 = 0 := by omega
      replace e5 := forN_0 e5
      exact ⟨rfl, ((Dif.self _ _ _).upd rfl _), x5_0, e5, S⟩
    refine wc_skip ?_
    have hlt5 : i5 < (a0.length : Int) := of_decide_eq_true hc6
    obtain ⟨m5, rfl⟩ : ∃ m, m5 = m + 1 := ⟨m5 - 1, by omega⟩
    obtain ⟨q5, H, e5⟩ := forN_s e5
    unfold formula_From.b0 at H
    try dsimp only at H
    have hb5 := (S.len 0)
    refine wc_seq ?_
    refine wc_block ?_
    refine wc_seq (wc_region ?_)
    refine wd (does_mv_i q5_i) ?_
    refine wd (does_indexR sl_L_api_Node rfl q5_i (S.rd 0) (And.intro (show 0 ≤ i5 by omega) (show i5 < (a0.length : Int) from hlt5)).1 (And.intro (show 0 ≤ i5 by omega) (show i5 < (a0.length : Int) from hlt5)).2) ?_
    refine wd (does_load_agg ag_Nd rfl ((S.rd 0).at (at_some Nd.z (And.intro (show 0 ≤ i5 by omega) (show i5 < (a0.length : Int) from hlt5)))) (Nd.len _)) ?_
    refine wl_alloc ze_Nd (by decide) fun b9 w8 hw8 => ?_
    replace S : St A N w w8 [oB b9 T_Nd (Nd.C Nd.z), oT a4 x5_0, oT none none] [fS 4 Nd.C s_0 a0] := S.new hw8
    refine wd (does_as_i rfl) ?_
    refine wl_store_agg ag_Nd rfl rfl (S.blk 0) (Nd.len _) (by rw [Nd.len]; decide) (Nd.one _) (store_all (Nd.len _)) fun w10 B hw10 zw10 => ?_
    replace S : St A N w w10 [oB b9 T_Nd (Nd.C (at_ Nd.z a0 i5)), oT a4 x5_0, oT none none] [fS 4 Nd.C s_0 a0] := S.store 0 B hw10
    clear B
    refine wl_nil ?_
    refine wc_seq (wc_region ?_)
    refine wd (does_mv_p rfl) ?_
    refine wd (does_load_agg ag_Nd rfl ((S.blk 0).all _ (Nd.len _)) (Nd.len _)) ?_
    obtain ⟨r11, er11, H⟩ := bind_ex H
    replace S : St A N w w10 [oT a4 x5_0, oB b9 T_Nd (Nd.C (at_ Nd.z a0 i5)), oT none none] [fS 4 Nd.C s_0 a0] := S.front 1
    obtain ⟨B13, MB13, SB13, back⟩ := S.calln 1 ((.nil))
    refine wl_call (does_call ca_formula_Table_Put) (by decide) (formula_Table_Put_st SB13 er11) ?_
    rintro _ w12 ⟨rfl, S2⟩
    replace S : St A N w w12 [oT a4 r11.1, oB b9 T_Nd (Nd.C (at_ Nd.z a0 i5)), oT none none] [fS 4 Nd.C s_0 a0] := back _ _ _ _ S2 rfl
    clear back S2 SB13
    refine wd (does_mv_t rfl) ?_
    refine wd (does_extract rfl rfl) ?_
    refine wd (does_extract rfl rfl) ?_
    refine wd (does_as_i rfl) ?_
    refine wd (does_as_i rfl) ?_
    refine wl_nil ?_
    refine wc_seq (wc_seq (wc_region ?_))
    refine wd (does_mv_i rfl) ?_
    refine wd (does_eq rfl rfl) ?_
    refine wd (does_mv_b rfl) ?_
    refine wl_guard (j := 2) (pol := true) rfl rfl rfl (by decide) (fun hg => does_mv_i rfl) (by decide) ?_
    refine wl_guard (j := 2) (pol := true) rfl rfl rfl (by decide) (fun hg => does_mv_i rfl) (by decide) ?_
    refine wl_guard (j := 2) (pol := true) rfl rfl rfl (by decide) (fun hg => does_ne (gv_yes hg) (gv_yes hg)) (by decide) ?_
    refine wd (does_and rfl (fun hp => (gv_yes (and_1 hp)))) ?_
    refine wl_nil ?_
    refine wc_if rfl (fun hc14 => ?_) (fun hc14 => ?_)
    · replace H := if_t hc14 H
      refine wc_region ?_
      refine wd (does_as_i rfl) ?_
      refine wl_nil ?_
      refine wc_seq (wc_region ?_)
      refine wd (does_mv_i rfl) ?_
      refine wd (does_ne rfl rfl) ?_
      refine wl_nil ?_
      refine wc_if rfl (fun hc15 => ?_) (fun hc15 => ?_)
      · replace H := if_t hc15 H
        refine wc_seq (wc_region ?_)
        refine wd (does_mv_i rfl) ?_
        replace S : St A N w w12 [oT none none, oT a4 r11.1, oB b9 T_Nd (Nd.C (at_ Nd.z a0 i5)), oT none none] [fS 4 Nd.C s_0 a0] := S.add (Ext.refl _) (oT.nil _) (fun _ x => x.elim)
        refine wd (does_as_p rfl) ?_
        refine wd (does_as_i rfl) ?_
        refine wl_nil ?_
        refine wc_ret ?_
        refine ⟨_, (rets2 (retOne_tmp rfl) (retOne_tmp rfl)), ?_⟩
        replace S : St A N w w12 [oT none none] [] := S.arr [0] []
        obtain rfl := Option.some.inj H
        obtain rfl := e5
        obtain rfl := aft_r Ho5
        exact ⟨none, rfl, S⟩
      replace H := if_f hc15 H
      refine wc_skip ?_
      refine wc_region ?_
      refine wd (does_addc q5_i rfl (c := i5 + 1) rfl (by omega) (by omega)) ?_
      refine wd (does_mv_i rfl) ?_
      refine wl_nil ?_
      replace S : St A N w w12 [oT a4 r11.1, oT none none] [fS 4 Nd.C s_0 a0] := S.arr [0, 2] [0]
      obtain rfl := Option.some.inj H
      exact ⟨rfl, (((((((((((((((((((((((((((Dif.self _ _ _).upd rfl _).upd rfl _).upd rfl _).upd rfl _).upd rfl _).upd rfl _).upd rfl _).upd rfl _).upd rfl _).upd rfl _).upd rfl _).upd rfl _).upd rfl _).upd rfl _).upd rfl _).upd rfl _).upd rfl _).upd rfl _).upd rfl _).upd rfl _).upd rfl _).upd rfl _).upd rfl _).upd rfl _).upd rfl _).upd rfl _), (m5, i5 + 1, r11.1), ⟨(by dsimp only; omega), (by dsimp only; omega), e5, rfl, S⟩, by dsimp only; omega⟩
    · replace H := if_f hc14 H
      refine wc_skip ?_
      refine wc_seq (wc_region ?_)
      refine wd (does_mv_i rfl) ?_
      refine wd (does_ne rfl rfl) ?_
      refine wl_nil ?_
      refine wc_if rfl (fun hc16 => ?_) (fun hc16 => ?_)
      · replace H := if_t hc16 H
        refine wc_seq (wc_region ?_)
        refine wd (does_mv_i rfl) ?_
        replace S : St A N w w12 [oT none none, oT a4 r11.1, oB b9 T_Nd (Nd.C (at_ Nd.z a0 i5)), oT none none] [fS 4 Nd.C s_0 a0] := S.add (Ext.refl _) (oT.nil _) (fun _ x => x.elim)
        refine wd (does_as_p rfl) ?_
        refine wd (does_as_i rfl) ?_
        refine wl_nil ?_
        refine wc_ret ?_
        refine ⟨_, (rets2 (retOne_tmp rfl) (retOne_tmp rfl)), ?_⟩
        replace S : St A N w w12 [oT none none] [] := S.arr [0] []
        obtain rfl := Option.some.inj H
        obtain rfl := e5
        obtain rfl := aft_r Ho5
        exact ⟨none, rfl, S⟩
      replace H := if_f hc16 H
      refine wc_skip ?_
      refine wc_region ?_
      refine wd (does_addc q5_i rfl (c := i5 + 1) rfl (by omega) (by omega)) ?_
      refine wd (does_mv_i rfl) ?_
      refine wl_nil ?_
      replace S : St A N w w12 [oT a4 r11.1, oT none none] [fS 4 Nd.C s_0 a0] := S.arr [0, 2] [0]
      obtain rfl := Option.some.inj H
      exact ⟨rfl, ((((((((((((((((((((((((((Dif.self _ _ _).upd rfl _).upd rfl _).upd rfl _).upd rfl _).upd rfl _).upd rfl _).upd rfl _).upd rfl _).upd rfl _).upd rfl _).upd rfl _).upd rfl _).upd rfl _).upd rfl _).upd rfl _).upd rfl _).upd rfl _).upd rfl _).upd rfl _).upd rfl _).upd rfl _).upd rfl _).upd rfl _).upd rfl _).upd rfl _), (m5, i5 + 1, r11.1), ⟨(by dsimp only; omega), (by dsimp only; omega), e5, rfl, S⟩, by dsimp only; omega⟩
  rintro g17 u18 ⟨s5, rfl, S⟩
  have H := Ho5
  dsimp only [aft] at H
  refine wc_seq (wc_region ?_)
  refine wd (does_mv_p rfl) ?_
  refine wd (does_as_p rfl) ?_
  refine wd (does_as_i rfl) ?_
  refine wl_nil ?_
  refine wc_ret ?_
  refine ⟨_, (rets2 (retOne_tmp rfl) (retOne_tmp rfl)), ?_⟩
  replace S : St A N w u18 [oT a4 s5] [] := S.arr [0] []
  obtain rfl := Option.some.inj H
  exact ⟨a4, rfl, S⟩
end Go.Proofs.YtjjkhjieegmphaaDoor
end
section
namespace Go.Proofs.YtjjkhjieegmphaaDoor
open Gw Go.RowKit
set_option linter.unusedVariables false
set_option linter.unusedSimpArgs false

theorem ref03_Ints_st {A : Nat → Prop} {N : Oth} {w : World} {a0 : List Int} {s_0 : SlV} {a1 : List Int} {s_1 : SlV} (S : St A N w w [] [fS 1 IC s_0 a0, fS 1 IC s_1 a1]) {r : Bool} (H : ref03_Ints.f a0 a1 = some r) :
    Calls PP F_ref03_Ints #[s_0.v, s_1.v] w fun e w' => ∃ v, e = .returned v ∧ (v = .bool r ∧ St A N w w' [] []) := by
  unfold ref03_Ints.f at H
  refine calls_of_wc (n := 26) fn_ref03_Ints rfl rfl (by simp) ?_
  refine wc_seq (wc_region ?_)
  refine wd (does_as_b rfl) ?_
  refine wl_nil ?_
  refine wc_seq (wc_seq (wc_region ?_))
  refine wd (does_mv_l rfl) ?_
  refine wd (does_lenR sl_L_int rfl (S.rd 0)) ?_
  refine wd (does_mv_l rfl) ?_
  refine wd (does_lenR sl_L_int rfl (S.rd 1)) ?_
  refine wd (does_ne rfl rfl) ?_
  refine wl_nil ?_
  refine wc_if rfl (fun hc1 => ?_) (fun hc1 => ?_)
  · replace H := if_t hc1 H
    refine wc_seq (wc_region ?_)
    refine wd (does_as_b rfl) ?_
    refine wl_nil ?_
    refine wc_ret ?_
    refine ⟨_, (rets1 (retOne_tmp rfl)), ?_⟩
    replace S : St A N w w [] [] := S.arr [] []
    obtain rfl := Option.some.inj H
    exact ⟨rfl, S⟩
  replace H := if_f hc1 H
  refine wc_skip ?_
  refine wc_seq (wc_seq (wc_region ?_))
  refine wd (does_as_i rfl) ?_
  refine wl_nil ?_
  obtain ⟨o2, e2, Ho2⟩ := bind_ex H
  clear H
  refine wc_cutq [4, 5, 11, 12, 13, 14, 15, 16, 17, 18, 19, 20, 21, 22, 23, 24, 25] (fun fr W => ∃ s2 : Unit, o2 = .inl s2 ∧ St A N w W [] [fS 1 IC s_0 a0, fS 1 IC s_1 a1]) ?_ ?_
  · refine wc_block ?_
    refine wc_loopm (α := Nat × Int × Unit) [4, 5, 11, 12, 13, 14, 15, 16, 17, 18, 19, 20, 21, 22, 23, 24, 25] (fun x fr W => (x.1 : Int) = (a0.length : Int) - x.2.1 ∧ 0 ≤ x.2.1 ∧ forN (fun i s => ref03_Ints.b0 a1 a0 i) x.1 x.2.1 x.2.2 = some o2 ∧ fr 5 = .int .i64 x.2.1 ∧ St A N w W [] [fS 1 IC s_0 a0, fS 1 IC s_1 a1]) (fun x => x.1) (((a0.length : Int) - 0).toNat, 0, ()) ⟨(by dsimp only; have hle := Int.natCast_nonneg (a0.length); omega), (Int.le_refl _), (by dsimp only; exact e2), rfl, S⟩ ?_
    rintro ⟨m2, i2, _⟩ g2 u2 ⟨hm2, hl2, e2, q2_i, S⟩
    try dsimp only at hm2
    try dsimp only at hl2
    try dsimp only at e2
    try dsimp only at S
    try dsimp only at q2_i
    refine wc_seq (wc_seq (wc_region ?_))
    refine wd (does_mv_i q2_i) ?_
    refine wd (does_mv_l rfl) ?_
    refine wd (does_lenR sl_L_int rfl (S.rd 0)) ?_
    refine wd (does_lt rfl rfl) ?_
    refine wl_nil ?_
    refine wc_if rfl (fun hc3 => ?_) (fun hc3 => ?_)
    rotate_left
    · refine wc_exit ?_
      have hge : (a0.length : Int) ≤ i2 := Int.not_lt.1 (of_decide_eq_false hc3)
      obtain rfl : m2 = 0 := by omega
      replace e2 := forN_0 e2
      exact ⟨rfl, (((((Dif.self _ _ _).upd rfl _).upd rfl _).upd rfl _).upd rfl _), (), e2, S⟩
    refine wc_skip ?_
    have hlt2 : i2 < (a0.length : Int) := of_decide_eq_true hc3
    obtain ⟨m2, rfl⟩ : ∃ m, m2 = m + 1 := ⟨m2 - 1, by omega⟩
    obtain ⟨q2, H, e2⟩ := forN_s e2
    unfold ref03_Ints.b0 at H
    try dsimp only at H
    have hb2 := (S.len 0)
    refine wc_seq ?_
    refine wc_block ?_
    refine wc_seq ?_
    refine wc_quiet 8 (Ext u2) hmix (by kernel_rfl) (by kernel_rfl) (Ext.drawn _) ?_
    refine wq_does (fun v K => does_mv_l rfl) ?_
    refine wq_does (fun v K => does_mv_i q2_i) ?_
    refine wq_does (fun v K => does_indexR sl_L_int rfl rfl ((S.ext K).rd 0) (And.intro (show 0 ≤ i2 by omega) (show i2 < (a0.length : Int) from hlt2)).1 (And.intro (show 0 ≤ i2 by omega) (show i2 < (a0.length : Int) from hlt2)).2) ?_
    refine wq_does (fun v K => does_load on_int rfl (((S.ext K).rd 0).one (at_some (0 : Int) (And.intro (show 0 ≤ i2 by omega) (show i2 < (a0.length : Int) from hlt2))) rfl)) ?_
    refine wq_does (fun v K => does_mv_l rfl) ?_
    refine wq_does (fun v K => does_mv_i q2_i) ?_
    obtain ⟨hi5, H⟩ := chk_ex H
    refine wq_does (fun v K => does_indexR sl_L_int rfl rfl ((S.ext K).rd 1) (inb_ex hi5).1 (inb_ex hi5).2) ?_
    refine wq_does (fun v K => does_load on_int rfl (((S.ext K).rd 1).one (at_some (0 : Int) (inb_ex hi5)) rfl)) ?_
    refine wq_nil fun w6 K => ?_
    replace S := S.ext K
    clear K
    refine wd (does_ne rfl rfl) ?_
    refine wl_nil ?_
    refine wc_if rfl (fun hc7 => ?_) (fun hc7 => ?_)
    · replace H := if_t hc7 H
      refine wc_seq (wc_region ?_)
      refine wd (does_as_b rfl) ?_
      refine wl_nil ?_
      refine wc_ret ?_
      refine ⟨_, (rets1 (retOne_tmp rfl)), ?_⟩
      replace S : St A N w w6 [] [] := S.arr [] []
      obtain rfl := Option.some.inj H
      obtain rfl := e2
      obtain rfl := aft_r Ho2
      exact ⟨rfl, S⟩
    replace H := if_f hc7 H
    refine wc_skip ?_
    refine wc_region ?_
    refine wd (does_mv_i q2_i) ?_
    refine wd (does_addc rfl rfl (c := i2 + 1) rfl (by omega) (by omega)) ?_
    refine wd (does_as_i rfl) ?_
    refine wl_nil ?_
    obtain rfl := Option.some.inj H
    exact ⟨rfl, (((((((((((((((((Dif.self _ _ _).upd rfl _).upd rfl _).upd rfl _).upd rfl _).upd rfl _).upd rfl _).upd rfl _).upd rfl _).upd rfl _).upd rfl _).upd rfl _).upd rfl _).upd rfl _).upd rfl _).upd rfl _).upd rfl _), (m2, i2 + 1, ()), ⟨(by dsimp only; omega), (by dsimp only; omega), e2, rfl, S⟩, by dsimp only; omega⟩
  rintro g8 u9 ⟨s2, rfl, S⟩
  have H := Ho2
  dsimp only [aft] at H
  refine wc_seq (wc_region ?_)
  refine wd (does_as_b rfl) ?_
  refine wl_nil ?_
  refine wc_ret ?_
  refine ⟨_, (rets1 (retOne_tmp rfl)), ?_⟩
  replace S : St A N w u9 [] [] := S.arr [] []
  obtain rfl := Option.some.inj H
  exact ⟨rfl, S⟩
end Go.Proofs.YtjjkhjieegmphaaDoor
end
