/- Texts put together: Chapter 13, types: the walks. Printed by pp.py, a program of mine. -/
import Derived.Test.YtflieamjacclnaaGreatDoorMHN3
set_option linter.unusedVariables false
set_option linter.unusedSimpArgs false
section
namespace Go.Proofs.YtflieamjacclnaaGreatDoor
open Gw Go.RowKit
set_option maxHeartbeats 4000000
set_option maxRecDepth 20000
theorem types_checker_node_st {A : Nat → Prop} {N : Oth} {w : World} {a0 : PChecker} {a_0 : Option Addr} {a1 : Int} {a2 : Int} (S : St A N w w [] [oT a_0 a0.t]) {r : Nd × (Option (Int × List Int))} (H : types_checker_node.f a0 a1 a2 = some r) :
  Calls PP F_types_checker_node #[.agg (Checker.C (⟨a_0⟩ : Checker)).toArray, .int .i64 a1, .int .i64 a2] w fun e w' => ∃ v, e = .returned v ∧ (∃ vo0 : Value, v = .tuple #[.agg (Nd.C r.1).toArray, vo0] ∧ St A N w w' [oE vo0 r.2] []) := by
 unfold types_checker_node.f at H
 refine calls_of_wc (n := 26) fn_types_checker_node rfl rfl (by simp) (wc_seq (wc_region ?_))
 refine wl_box_agg rfl (by decide) fun b2 w1 hw1 => ?_
 replace S := S.new hw1
 refine wl_alloc ze_Nd (by decide) fun b4 w3 hw3 => ?_
 replace S := S.new hw3
 refine wd (does_assign rfl) (wl_nil (wc_seq (wc_region (wd (does_fieldAddr fl_Checker_t rfl (o' := 0) rfl) (wd (does_load on_dictum_formula_has rfl ((S.blk 1).cell (Checker.get_t _))) (wd (does_mv_i rfl) ?_))))))
 obtain ⟨r5, er5, H⟩ := bind_ex H
 obtain ⟨B7, MB7, SB7, back⟩ := S.calln 0 ((.z 0 rfl .nil))
 refine wl_call (does_call ca_formula_Table_Node) (by decide) (formula_Table_Node_st SB7 er5) ?_
 rintro _ w6 ⟨rfl, S2⟩
 replace S := back _ _ _ _ S2 rfl
 clear back S2 SB7
 refine wd (does_mv_t rfl) (wd (does_extract rfl rfl) (wd (does_extract rfl rfl) ?_))
 refine wl_alloc ze_Nd (by decide) fun b9 w8 hw8 => ?_
 replace S := S.new hw8
 refine wl_store_agg ag_Nd rfl rfl (S.blk 0) (Nd.len _) (by rw [Nd.len]; decide) (Nd.one _) (store_all (Nd.len _)) fun w10 B hw10 zw10 => ?_
 replace S := S.store 0 B hw10
 clear B
 refine wd (does_as_b rfl) (wl_nil (wc_seq (wc_seq (wc_region (wd (does_fieldAddr fl_Nd_kind rfl (o' := 0) rfl) (wd (does_load on_api_Kind rfl ((S.blk 0).cell (Nd.get_kind _))) (wd (does_mv_i rfl) ?_)))))))
 refine wd (does_ne rfl rfl) (wl_nil ?_)
 refine wc_if rfl (fun hc11 => ?_) (fun hc11 => ?_)
 ·replace H := if_t hc11 H
  refine wc_seq (wc_region (wd (does_load_agg ag_Nd rfl ((S.blk 0).all _ (Nd.len _)) (Nd.len _)) (wd (Does.to (v' := .agg (Refusal.C (⟨130, SlV.nil⟩ : Refusal)).toArray) (does_buildv (vs := [(0, .int .i64 130)]) bu_Refusal (consP rfl rfl) (Bld.one rfl rfl (by rw [Refusal.len]; decide) (Refusal.set_code _ _) Bld.nil)) rfl) ?_)))
  refine wl_box_agg rfl (by decide) fun b13 w12 hw12 => ?_
  replace S := S.new hw12
  refine wd (does_makeInterface rfl) ?_
  replace S := ((S.nil T_int 1 IC).front 1).mkE
  refine wl_store_agg ag_Nd rfl rfl (S.blk 2) (Nd.len _) (by rw [Nd.len]; decide) (Nd.one _) (store_all (Nd.len _)) fun w14 B hw14 zw14 => ?_
  replace S := S.store 2 B hw14
  clear B
  refine wd (does_assign rfl) (wl_nil (wc_ret ?_))
  refine ⟨_, (rets2 (retOne_agg ag_Nd rfl ((S.blk 0).all _ (Nd.len _)) (Nd.len _)) (retOne_tmp rfl)), ?_⟩
  replace S := S.arr [1] []
  obtain rfl := Option.some.inj H
  exact ⟨(.iface T_P_Refusal (.pointer (some ⟨b13, 0, none⟩))), rfl, S⟩
 replace H := if_f hc11 H
 refine wc_skip (wc_seq (wc_region (wd (does_load_agg ag_Nd rfl ((S.blk 0).all _ (Nd.len _)) (Nd.len _)) ?_)))
 refine wl_store_agg ag_Nd rfl rfl (S.blk 1) (Nd.len _) (by rw [Nd.len]; decide) (Nd.one _) (store_all (Nd.len _)) fun w15 B hw15 zw15 => ?_
 replace S := S.store 1 B hw15
 clear B
 refine wd (does_assign rfl) (wl_nil (wc_ret ?_))
 replace S := S.nilE
 refine ⟨_, (rets2 (retOne_agg ag_Nd rfl ((S.blk 1).all _ (Nd.len _)) (Nd.len _)) (retOne_tmp rfl)), ?_⟩
 replace S := S.arr [0] []
 obtain rfl := Option.some.inj H
 exact ⟨.nilIface, rfl, S⟩
theorem types_checker_part_gst {rec_types_checker_told : PChecker → PTerm → (List (ByteArray × Int)) → Option (Int × (Option (Int × List Int)))} (hrec_types_checker_told : ∀ {A : Nat → Prop} {N : Oth} {w : World} {a0 : PChecker} {a_0 : Option Addr} {a1 : PTerm} {s_1 : SlV} {a2 : List (ByteArray × Int)} {a_2 : Option Addr} (S : St A N w w [] [oT a_0 a0.t, oDTerm s_1 a1.sub, fScope a_2 a2, oEt]) {r : Int × (Option (Int × List Int))} (H : rec_types_checker_told a0 a1 a2 = some r), Calls PP F_types_checker_told #[.agg (Checker.C (⟨a_0⟩ : Checker)).toArray, .agg (Term.C (⟨a1.kind, a1.name, a1.other, a1.form, s_1⟩ : Term)).toArray, .pointer a_2] w fun e w' => ∃ v, e = .returned v ∧ (∃ vo0 : Value, v = .tuple #[.int .i64 r.1, vo0] ∧ St A N w w' [oE vo0 r.2] [])) {A : Nat → Prop} {N : Oth} {w : World} {a0 : PChecker} {a_0 : Option Addr} {a1 : PTerm} {s_1 : SlV} {a2 : Int} {a3 : List (ByteArray × Int)} {a_3 : Option Addr} (S : St A N w w [] [oT a_0 a0.t, oDTerm s_1 a1.sub, fScope a_3 a3, oEt]) {r : Int × (Option (Int × List Int))} (H : types_checker_part.g rec_types_checker_told a0 a1 a2 a3 = some r) :
  Calls PP F_types_checker_part #[.agg (Checker.C (⟨a_0⟩ : Checker)).toArray, .agg (Term.C (⟨a1.kind, a1.name, a1.other, a1.form, s_1⟩ : Term)).toArray, .int .i64 a2, .pointer a_3] w fun e w' => ∃ v, e = .returned v ∧ (∃ vo0 : Value, v = .tuple #[.int .i64 r.1, vo0] ∧ St A N w w' [oE vo0 r.2] []) := by
 unfold types_checker_part.g at H
 refine calls_of_wc (n := 27) fn_types_checker_part rfl rfl (by simp) (wc_seq (wc_region ?_))
 refine wl_box_agg rfl (by decide) fun b2 w1 hw1 => ?_
 replace S := S.new hw1
 refine wl_box_agg rfl (by decide) fun b4 w3 hw3 => ?_
 replace S := S.new hw3
 refine wd (does_as_i rfl) (wd (does_assign rfl) (wl_nil (wc_seq ?_)))
 refine wc_ws hmix fun w10 K => ?_
 replace S := S.ext K
 clear K
 obtain ⟨hi11, H⟩ := chk_ex H
 obtain ⟨s12, hc13, S⟩ := S.viewTerm 1 (inb_ex hi11)
 replace S := S.zs [1, 2, 3, 4, 0]
 refine ws_semi 0 7 [] (by kernel_rfl) (by decide) (by kernel_rfl)
  (V := fun i v u => match i with
  | _ => True) ?_ ?_
 ·intro i v u u' hi hx hv
  match i, hv with
  | _, _ => exact trivial
 refine wm_does (fun v K => does_load_agg ag_Checker rfl (((S.ext K).blk 1).all _ (Checker.len _)) (Checker.len _)) rfl (wm_does (fun v K => does_fieldAddr fl_Term_sub rfl (o' := 4) rfl) rfl (wm_does (fun v K => does_load on_L_api_Term rfl (((S.ext K).blk 0).cell (Term.get_sub _))) rfl (wm_does (fun v K => does_mv_i rfl) rfl (wm_does (fun v K => does_indexF sl_L_api_Term rfl rfl ((S.ext K).onZ 1) (inb_ex hi11).1 (inb_ex hi11).2) rfl (wm_does (fun v K => does_load_agg ag_Term rfl (hc13.chg K (fun x => x)) (Term.len _)) rfl ?_)))))
 refine wm_does (fun v K => does_mv_p rfl) rfl ?_
 refine wm_nil fun g w14 K hV => ?_
 replace S := S.ext K
 clear K hV
 refine ws_chain 7 9 (by kernel_rfl) (by decide) ?_
 obtain ⟨r16, er16, H⟩ := bind_ex H
 obtain ⟨B18, MB18, SB18, back⟩ := S.calln 0 ((.z 0 rfl (.z 4 rfl (.z 2 rfl (.z 3 rfl .nil)))))
 refine wl_call (does_call ca_types_checker_told) (by decide) (hrec_types_checker_told (a0 := a0) (a1 := (at_ PTerm.z a1.sub a2)) SB18 er16) ?_
 rintro _ w17 ⟨v19, rfl, S2⟩
 replace S := back _ _ _ _ S2 rfl
 clear back S2 SB18
 refine wd (does_mv_t rfl) (wl_nil ⟨rfl, ?_⟩)
 refine ws_semi 9 12 [] (by kernel_rfl) (by decide) (by kernel_rfl)
  (V := fun i v u => match i with
  | _ => True) ?_ ?_
 ·intro i v u u' hi hx hv
  match i, hv with
  | _, _ => exact trivial
 refine wm_does (fun v K => does_extract rfl rfl) rfl (wm_does (fun v K => does_extract rfl rfl) rfl (wm_does (fun v K => does_as_i rfl) rfl ?_))
 refine wm_nil fun g w20 K hV => ?_
 replace S := S.ext K
 clear K hV
 refine ws_tail 12 (by kernel_rfl) (by decide) (wd (does_assign rfl) (wl_nil (wc_seq (wc_region (wd (does_mv_i rfl) (wd (does_mv_i rfl) ?_))))))
 refine wd (does_move rfl) ?_
 obtain ⟨r22, er22, H⟩ := bind_ex H
 obtain ⟨B24, MB24, SB24, back⟩ := S.calln 1 ((.z 3 rfl .nil))
 refine wl_call (does_call ca_types_at) (by decide) (types_at_st (a1 := r16.2) SB24 er22) ?_
 rintro v25 w23 ⟨_, rfl, S2⟩
 replace S := back _ _ _ _ S2 rfl
 clear back S2 SB24
 refine wd (does_as_i rfl) (wd (does_assign rfl) (wl_nil (wc_ret ?_)))
 refine ⟨_, (rets2 (retOne_tmp rfl) (retOne_tmp rfl)), ?_⟩
 replace S := S.arr [0] []
 obtain rfl := Option.some.inj H
 exact ⟨v25, rfl, S⟩
theorem types_checker_check_gst {rec_types_checker_checked : PChecker → PTerm → (List (ByteArray × Int)) → Int → Option (Option (Int × List Int))} (hrec_types_checker_checked : ∀ {A : Nat → Prop} {N : Oth} {w : World} {a0 : PChecker} {a_0 : Option Addr} {a1 : PTerm} {s_1 : SlV} {a2 : List (ByteArray × Int)} {a_2 : Option Addr} {a3 : Int} (S : St A N w w [] [oT a_0 a0.t, oDTerm s_1 a1.sub, fScope a_2 a2, oEt]) {r : (Option (Int × List Int))} (H : rec_types_checker_checked a0 a1 a2 a3 = some r), Calls PP F_types_checker_checked #[.agg (Checker.C (⟨a_0⟩ : Checker)).toArray, .agg (Term.C (⟨a1.kind, a1.name, a1.other, a1.form, s_1⟩ : Term)).toArray, .pointer a_2, .int .i64 a3] w fun e w' => ∃ v, e = .returned v ∧ (∃ vo0 : Value, v = vo0 ∧ St A N w w' [oE vo0 r] [])) {A : Nat → Prop} {N : Oth} {w : World} {a0 : PChecker} {a_0 : Option Addr} {a1 : PTerm} {s_1 : SlV} {a2 : Int} {a3 : List (ByteArray × Int)} {a_3 : Option Addr} {a4 : Int} (S : St A N w w [] [oT a_0 a0.t, oDTerm s_1 a1.sub, fScope a_3 a3, oEt]) {r : (Option (Int × List Int))} (H : types_checker_check.g rec_types_checker_checked a0 a1 a2 a3 a4 = some r) :
  Calls PP F_types_checker_check #[.agg (Checker.C (⟨a_0⟩ : Checker)).toArray, .agg (Term.C (⟨a1.kind, a1.name, a1.other, a1.form, s_1⟩ : Term)).toArray, .int .i64 a2, .pointer a_3, .int .i64 a4] w fun e w' => ∃ v, e = .returned v ∧ (∃ vo0 : Value, v = vo0 ∧ St A N w w' [oE vo0 r] []) := by
 unfold types_checker_check.g at H
 refine calls_of_wc (n := 22) fn_types_checker_check rfl rfl (by simp) (wc_seq (wc_region ?_))
 refine wl_box_agg rfl (by decide) fun b2 w1 hw1 => ?_
 replace S := S.new hw1
 refine wl_box_agg rfl (by decide) fun b4 w3 hw3 => ?_
 replace S := S.new hw3
 refine wd (does_assign rfl) (wl_nil (wc_seq ?_))
 obtain ⟨hi5, H⟩ := chk_ex H
 obtain ⟨s6, hc7, S⟩ := S.viewTerm 1 (inb_ex hi5)
 replace S := S.zs [1, 2, 3, 4, 0]
 obtain ⟨r8, er8, H⟩ := bind_ex H
 refine wc_semi 10 [9]
  (fun i v u => match i with
  | 9 => ∃ v9 : Value, v = v9 ∧ ∃ F, (oE v9 r8).holds u F ∧ ∀ i, F i → w3.heap.size ≤ i
  | _ => True) hmix (by kernel_rfl) (by kernel_rfl) ?_ ?_
 ·intro i v u u' hi hx hv
  match i, hv with
  | 9, ⟨b, e1, F, hb, hl⟩ => exact ⟨b, e1, F, OA.loc _ hb hx (fun _ _ x => x), hl⟩
  | 0, _ => exact trivial
  | 1, _ => exact trivial
  | 2, _ => exact trivial
  | 3, _ => exact trivial
  | 4, _ => exact trivial
  | 5, _ => exact trivial
  | 6, _ => exact trivial
  | 7, _ => exact trivial
  | 8, _ => exact trivial
  | _ + 10, _ => exact trivial
 refine wm_does (fun v K => does_mv_i rfl) rfl (wm_does (fun v K => does_load_agg ag_Checker rfl (((S.ext K).blk 1).all _ (Checker.len _)) (Checker.len _)) rfl (wm_does (fun v K => does_fieldAddr fl_Term_sub rfl (o' := 4) rfl) rfl (wm_does (fun v K => does_load on_L_api_Term rfl (((S.ext K).blk 0).cell (Term.get_sub _))) rfl (wm_does (fun v K => does_mv_i rfl) rfl (wm_does (fun v K => does_indexF sl_L_api_Term rfl rfl ((S.ext K).onZ 1) (inb_ex hi5).1 (inb_ex hi5).2) rfl ?_)))))
 refine wm_does (fun v K => does_load_agg ag_Term rfl (hc7.chg K (fun x => x)) (Term.len _)) rfl (wm_does (fun v K => does_mv_p rfl) rfl (wm_does (fun v K => does_mv_i rfl) rfl ?_))
 refine wm_newcall (fun g v K G => (have ⟨M, SS⟩ := (S.ext K).lend ((.z 0 rfl (.z 4 rfl (.z 2 rfl (.z 3 rfl .nil))))); ⟨_, _, does_callg ca_types_checker_checked (cons2 rfl (cons2 rfl (cons2 rfl (cons2 rfl rfl)))), newc (hrec_types_checker_checked (a0 := a0) (a1 := (at_ PTerm.z a1.sub a2)) SS er8) fun _ _ ⟨v9, hv, h⟩ => ⟨h.frame, v9, hv, h.newP.elim fun F hF => ⟨F, hF.1, fun i hi => by have := hF.2 i hi; have := K.size; omega⟩⟩⟩)) rfl ?_
 refine wm_nil fun g w10 K hV => ?_
 obtain ⟨v9, hv119, F9, hb9, hf9⟩ := hV 9 rfl (by decide)
 replace S := S.add (b := oE v9 r8) K hb9 hf9
 clear K hV
 obtain ⟨r12, er12, H⟩ := bind_ex H
 obtain ⟨B14, MB14, SB14, back⟩ := S.calln 1 ((.z 3 rfl .nil))
 refine wl_call (does_callg ca_types_at (cons2 rfl (cons2 hv119 rfl))) (by decide) (types_at_st (a1 := r8) SB14 er12) ?_
 rintro v15 w13 ⟨_, rfl, S2⟩
 replace S := back _ _ _ _ S2 rfl
 clear back S2 SB14
 refine wd (does_assign rfl) (wl_nil (wc_ret ?_))
 refine ⟨_, (rets1 (retOne_tmp rfl)), ?_⟩
 replace S := S.arr [0] []
 obtain rfl := Option.some.inj H
 exact ⟨v15, rfl, S⟩
theorem types_checker_head_gst {rec_types_checker_told : PChecker → PTerm → (List (ByteArray × Int)) → Option (Int × (Option (Int × List Int)))} (hrec_types_checker_told : ∀ {A : Nat → Prop} {N : Oth} {w : World} {a0 : PChecker} {a_0 : Option Addr} {a1 : PTerm} {s_1 : SlV} {a2 : List (ByteArray × Int)} {a_2 : Option Addr} (S : St A N w w [] [oT a_0 a0.t, oDTerm s_1 a1.sub, fScope a_2 a2, oEt]) {r : Int × (Option (Int × List Int))} (H : rec_types_checker_told a0 a1 a2 = some r), Calls PP F_types_checker_told #[.agg (Checker.C (⟨a_0⟩ : Checker)).toArray, .agg (Term.C (⟨a1.kind, a1.name, a1.other, a1.form, s_1⟩ : Term)).toArray, .pointer a_2] w fun e w' => ∃ v, e = .returned v ∧ (∃ vo0 : Value, v = .tuple #[.int .i64 r.1, vo0] ∧ St A N w w' [oE vo0 r.2] [])) {A : Nat → Prop} {N : Oth} {w : World} {a0 : PChecker} {a_0 : Option Addr} {a1 : PTerm} {s_1 : SlV} {a2 : List (ByteArray × Int)} {a_2 : Option Addr} {a3 : Int} (S : St A N w w [] [oT a_0 a0.t, oDTerm s_1 a1.sub, fScope a_2 a2, oEt]) {r : Nd × (Option (Int × List Int))} (H : types_checker_head.g rec_types_checker_told a0 a1 a2 a3 = some r) :
  Calls PP F_types_checker_head #[.agg (Checker.C (⟨a_0⟩ : Checker)).toArray, .agg (Term.C (⟨a1.kind, a1.name, a1.other, a1.form, s_1⟩ : Term)).toArray, .pointer a_2, .int .i64 a3] w fun e w' => ∃ v, e = .returned v ∧ (∃ vo0 : Value, v = .tuple #[.agg (Nd.C r.1).toArray, vo0] ∧ St A N w w' [oE vo0 r.2] []) := by
 unfold types_checker_head.g at H
 refine calls_of_wc (n := 29) fn_types_checker_head rfl rfl (by simp) (wc_seq (wc_region ?_))
 refine wl_box_agg rfl (by decide) fun b2 w1 hw1 => ?_
 replace S := S.new hw1
 refine wl_box_agg rfl (by decide) fun b4 w3 hw3 => ?_
 replace S := S.new hw3
 refine wl_alloc ze_Nd (by decide) fun b6 w5 hw5 => ?_
 replace S := S.new hw5
 refine wd (does_assign rfl) (wl_nil (wc_seq (wc_region (wd (does_load_agg ag_Checker rfl ((S.blk 2).all _ (Checker.len _)) (Checker.len _)) (wd (does_load_agg ag_Term rfl ((S.blk 1).all _ (Term.len _)) (Term.len _)) (wd (does_mv_p rfl) ?_))))))
 obtain ⟨r7, er7, H⟩ := bind_ex H
 obtain ⟨B9, MB9, SB9, back⟩ := S.calln 0 ((.z 0 rfl (.z 1 rfl (.z 2 rfl (.z 3 rfl .nil)))))
 refine wl_call (does_call ca_types_checker_part) (by decide) (types_checker_part_gst hrec_types_checker_told (a0 := a0) (a1 := a1) SB9 er7) ?_
 rintro _ w8 ⟨v10, rfl, S2⟩
 replace S := back _ _ _ _ S2 rfl
 clear back S2 SB9
 refine wd (does_mv_t rfl) (wd (does_extract rfl rfl) (wd (does_extract rfl rfl) (wd (does_as_i rfl) (wd (does_assign rfl) (wl_nil (wc_seq (wc_seq (wc_region ?_))))))))
 refine wd (does_move rfl) (wd (does_neE if_error rfl rfl (S.onO 0)) (wl_nil ?_))
 refine wc_if rfl (fun hc11 => ?_) (fun hc11 => ?_)
 ·replace H := if_t hc11 H
  refine wc_seq (wc_region (wd (does_build bu_Nd Bld.nil) (wd (does_move rfl) ?_)))
  refine wl_store_agg ag_Nd rfl rfl (S.blk 1) (Nd.len _) (by rw [Nd.len]; decide) (Nd.one _) (store_all (Nd.len _)) fun w12 B hw12 zw12 => ?_
  replace S := S.store 1 B hw12
  clear B
  refine wd (does_assign rfl) (wl_nil (wc_ret ?_))
  refine ⟨_, (rets2 (retOne_agg ag_Nd rfl ((S.blk 0).all _ (Nd.len _)) (Nd.len _)) (retOne_tmp rfl)), ?_⟩
  replace S := S.arr [1] []
  obtain rfl := Option.some.inj H
  exact ⟨v10, rfl, S⟩
 replace H := if_f hc11 H
 refine wc_skip (wc_seq (wc_region (wd (does_load_agg ag_Checker rfl ((S.blk 3).all _ (Checker.len _)) (Checker.len _)) (wd (does_mv_i rfl) (wd (does_mv_i rfl) ?_)))))
 obtain ⟨r13, er13, H⟩ := bind_ex H
 obtain ⟨B15, MB15, SB15, back⟩ := S.calln 0 ((.z 0 rfl .nil))
 refine wl_call (does_call ca_types_checker_node) (by decide) (types_checker_node_st (a0 := a0) SB15 er13) ?_
 rintro _ w14 ⟨v16, rfl, S2⟩
 replace S := back _ _ _ _ S2 rfl
 clear back S2 SB15
 refine wd (does_extract rfl rfl) (wd (does_extract rfl rfl) ?_)
 refine wl_store_agg ag_Nd rfl rfl (S.blk 2) (Nd.len _) (by rw [Nd.len]; decide) (Nd.one _) (store_all (Nd.len _)) fun w17 B hw17 zw17 => ?_
 replace S := S.store 2 B hw17
 clear B
 refine wd (does_assign rfl) (wl_nil (wc_ret ?_))
 refine ⟨_, (rets2 (retOne_agg ag_Nd rfl ((S.blk 0).all _ (Nd.len _)) (Nd.len _)) (retOne_tmp rfl)), ?_⟩
 replace S := S.arr [1] []
 obtain rfl := Option.some.inj H
 exact ⟨v16, rfl, S⟩
theorem types_checker_told_gst {rec_types_checker_told : PChecker → PTerm → (List (ByteArray × Int)) → Option (Int × (Option (Int × List Int)))} (hrec_types_checker_told : ∀ {A : Nat → Prop} {N : Oth} {w : World} {a0 : PChecker} {a_0 : Option Addr} {a1 : PTerm} {s_1 : SlV} {a2 : List (ByteArray × Int)} {a_2 : Option Addr} (S : St A N w w [] [oT a_0 a0.t, oDTerm s_1 a1.sub, fScope a_2 a2, oEt]) {r : Int × (Option (Int × List Int))} (H : rec_types_checker_told a0 a1 a2 = some r), Calls PP F_types_checker_told #[.agg (Checker.C (⟨a_0⟩ : Checker)).toArray, .agg (Term.C (⟨a1.kind, a1.name, a1.other, a1.form, s_1⟩ : Term)).toArray, .pointer a_2] w fun e w' => ∃ v, e = .returned v ∧ (∃ vo0 : Value, v = .tuple #[.int .i64 r.1, vo0] ∧ St A N w w' [oE vo0 r.2] [])) {rec_types_checker_checked : PChecker → PTerm → (List (ByteArray × Int)) → Int → Option (Option (Int × List Int))} (hrec_types_checker_checked : ∀ {A : Nat → Prop} {N : Oth} {w : World} {a0 : PChecker} {a_0 : Option Addr} {a1 : PTerm} {s_1 : SlV} {a2 : List (ByteArray × Int)} {a_2 : Option Addr} {a3 : Int} (S : St A N w w [] [oT a_0 a0.t, oDTerm s_1 a1.sub, fScope a_2 a2, oEt]) {r : (Option (Int × List Int))} (H : rec_types_checker_checked a0 a1 a2 a3 = some r), Calls PP F_types_checker_checked #[.agg (Checker.C (⟨a_0⟩ : Checker)).toArray, .agg (Term.C (⟨a1.kind, a1.name, a1.other, a1.form, s_1⟩ : Term)).toArray, .pointer a_2, .int .i64 a3] w fun e w' => ∃ v, e = .returned v ∧ (∃ vo0 : Value, v = vo0 ∧ St A N w w' [oE vo0 r] [])) {A : Nat → Prop} {N : Oth} {w : World} {a0 : PChecker} {a_0 : Option Addr} {a1 : PTerm} {s_1 : SlV} {a2 : List (ByteArray × Int)} {a_2 : Option Addr} (S : St A N w w [] [oT a_0 a0.t, oDTerm s_1 a1.sub, fScope a_2 a2, oEt]) {r : Int × (Option (Int × List Int))} (H : types_checker_told.g rec_types_checker_told rec_types_checker_checked a0 a1 a2 = some r) :
  Calls PP F_types_checker_told #[.agg (Checker.C (⟨a_0⟩ : Checker)).toArray, .agg (Term.C (⟨a1.kind, a1.name, a1.other, a1.form, s_1⟩ : Term)).toArray, .pointer a_2] w fun e w' => ∃ v, e = .returned v ∧ (∃ vo0 : Value, v = .tuple #[.int .i64 r.1, vo0] ∧ St A N w w' [oE vo0 r.2] []) := by
 unfold types_checker_told.g at H
 refine calls_of_wc (n := 175) fn_types_checker_told rfl rfl (by simp) (wc_seq (wc_region ?_))
 refine wl_box_agg rfl (by decide) fun b2 w1 hw1 => ?_
 replace S := S.new hw1
 refine wl_box_agg rfl (by decide) fun b4 w3 hw3 => ?_
 replace S := S.new hw3
 refine wd (does_as_i rfl) (wd (does_assign rfl) (wl_nil (wc_seq (wc_seq (wc_region (wd (does_fieldAddr fl_Term_kind rfl (o' := 0) rfl) (wd (does_load on_api_TermKind rfl ((S.blk 0).cell (Term.get_kind _))) (wl_nil ?_))))))))
 refine wc_block (wc_seq (wc_region (wd (does_eq rfl rfl) (wd (does_as_b rfl) (wl_nil ?_)))))
 refine wc_if rfl (fun hc5 => ?_) (fun hc5 => ?_)
 ·replace H := if_t hc5 H
  refine wc_seq (wc_region (wd (does_mv_p rfl) (wd (does_fieldAddr fl_Term_name rfl (o' := 1) rfl) (wd (does_load on_string rfl ((S.blk 0).cell (Term.get_name _))) ?_))))
  obtain ⟨r6, er6, H⟩ := bind_ex H
  obtain ⟨B8, MB8, SB8, back⟩ := S.calln 0 ((.z 2 rfl .nil))
  refine wl_call (does_call ca_types_scope_find) (by decide) (types_scope_find_st SB8 er6) ?_
  rintro _ w7 ⟨v9, rfl, S2⟩
  replace S := back _ _ _ _ S2 rfl
  clear back S2 SB8
  refine wd (does_extract rfl rfl) (wd (does_extract rfl rfl) (wd (does_as_i rfl) (wd (does_assign rfl) (wl_nil (wc_ret ?_)))))
  refine ⟨_, (rets2 (retOne_tmp rfl) (retOne_tmp rfl)), ?_⟩
  replace S := S.arr [0] []
  obtain rfl := Option.some.inj H
  exact ⟨v9, rfl, S⟩
 replace H := if_f hc5 H
 refine wc_seq (wc_region (wd (does_eq rfl rfl) (wd (does_as_b rfl) (wl_nil ?_))))
 refine wc_if rfl (fun hc10 => ?_) (fun hc10 => ?_)
 ·replace H := if_t hc10 H
  refine wc_seq (wc_region (wd (does_load_agg ag_Checker rfl ((S.blk 1).all _ (Checker.len _)) (Checker.len _)) (wd (does_load_agg ag_Term rfl ((S.blk 0).all _ (Term.len _)) (Term.len _)) (wd (does_mv_p rfl) ?_))))
  obtain ⟨r11, er11, H⟩ := bind_ex H
  obtain ⟨B13, MB13, SB13, back⟩ := S.calln 0 ((.z 0 rfl (.z 1 rfl (.z 2 rfl (.z 3 rfl .nil)))))
  refine wl_call (does_call ca_types_checker_head) (by decide) (types_checker_head_gst hrec_types_checker_told (a0 := a0) (a1 := a1) SB13 er11) ?_
  rintro _ w12 ⟨v14, rfl, S2⟩
  replace S := back _ _ _ _ S2 rfl
  clear back S2 SB13
  refine wd (does_mv_t rfl) (wd (does_extract rfl rfl) (wd (does_extract rfl rfl) ?_))
  refine wl_alloc ze_Nd (by decide) fun b16 w15 hw15 => ?_
  replace S := S.new hw15
  refine wl_store_agg ag_Nd rfl rfl (S.blk 0) (Nd.len _) (by rw [Nd.len]; decide) (Nd.one _) (store_all (Nd.len _)) fun w17 B hw17 zw17 => ?_
  replace S := S.store 0 B hw17
  clear B
  refine wd (does_assign rfl) (wl_nil (wc_seq (wc_seq (wc_region (wd (does_move rfl) (wd (does_neE if_error rfl rfl (S.onO 1)) (wl_nil ?_)))))))
  refine wc_if rfl (fun hc18 => ?_) (fun hc18 => ?_)
  ·replace H := if_t hc18 H
   refine wc_seq (wc_region (wd (does_move rfl) (wd (does_as_i rfl) (wd (does_assign rfl) (wl_nil (wc_ret ?_))))))
   refine ⟨_, (rets2 (retOne_tmp rfl) (retOne_tmp rfl)), ?_⟩
   replace S := S.arr [1] []
   obtain rfl := Option.some.inj H
   exact ⟨v14, rfl, S⟩
  replace H := if_f hc18 H
  refine wc_skip (wc_seq ?_)
  obtain ⟨r19, er19, H⟩ := bind_ex H
  refine wc_semi 8 [7]
   (fun i v u => match i with
   | 7 => ∃ v20 : Value, v = v20 ∧ ∃ F, (oE v20 r19).holds u F ∧ ∀ i, F i → w17.heap.size ≤ i
   | _ => True) hmix (by kernel_rfl) (by kernel_rfl) ?_ ?_
  ·intro i v u u' hi hx hv
   match i, hv with
   | 7, ⟨b, e1, F, hb, hl⟩ => exact ⟨b, e1, F, OA.loc _ hb hx (fun _ _ x => x), hl⟩
   | 0, _ => exact trivial
   | 1, _ => exact trivial
   | 2, _ => exact trivial
   | 3, _ => exact trivial
   | 4, _ => exact trivial
   | 5, _ => exact trivial
   | 6, _ => exact trivial
   | _ + 8, _ => exact trivial
  refine wm_does (fun v K => does_fieldAddr fl_Nd_r rfl (o' := 3) rfl) rfl (wm_does (fun v K => does_load on_int rfl (((S.ext K).blk 0).cell (Nd.get_r _))) rfl (wm_does (fun v K => does_load_agg ag_Checker rfl (((S.ext K).blk 3).all _ (Checker.len _)) (Checker.len _)) rfl (wm_does (fun v K => does_load_agg ag_Term rfl (((S.ext K).blk 2).all _ (Term.len _)) (Term.len _)) rfl (wm_does (fun v K => does_mv_p rfl) rfl (wm_does (fun v K => does_fieldAddr fl_Nd_l rfl (o' := 2) rfl) rfl ?_)))))
  refine wm_does (fun v K => does_load on_int rfl (((S.ext K).blk 0).cell (Nd.get_l _))) rfl ?_
  refine wm_newcall (fun g v K G => (have ⟨M, SS⟩ := (S.ext K).lend ((.z 0 rfl (.z 1 rfl (.z 2 rfl (.z 3 rfl .nil))))); ⟨_, _, does_callg ca_types_checker_check (cons2 rfl (cons2 rfl (cons2 rfl (cons2 rfl (cons2 rfl rfl))))), newc (types_checker_check_gst hrec_types_checker_checked (a0 := a0) (a1 := a1) SS er19) fun _ _ ⟨v20, hv, h⟩ => ⟨h.frame, v20, hv, h.newP.elim fun F hF => ⟨F, hF.1, fun i hi => by have := hF.2 i hi; have := K.size; omega⟩⟩⟩)) rfl ?_
  refine wm_nil fun g w21 K hV => ?_
  obtain ⟨v20, hv227, F7, hb7, hf7⟩ := hV 7 rfl (by decide)
  replace S := S.add (b := oE v20 r19) K hb7 hf7
  clear K hV
  refine wd (does_as_i rfl) (wd (does_assign hv227) (wl_nil (wc_ret ?_)))
  refine ⟨_, (rets2 (retOne_tmp rfl) (retOne_tmp rfl)), ?_⟩
  replace S := S.arr [0] []
  obtain rfl := Option.some.inj H
  exact ⟨v20, rfl, S⟩
 replace H := if_f hc10 H
 refine wc_seq (wc_region (wd (does_eq rfl rfl) (wd (does_as_b rfl) (wl_nil ?_))))
 refine wc_if rfl (fun hc23 => ?_) (fun hc23 => ?_)
 ·replace H := if_t hc23 H
  refine wc_seq (wc_region (wd (does_load_agg ag_Checker rfl ((S.blk 1).all _ (Checker.len _)) (Checker.len _)) (wd (does_load_agg ag_Term rfl ((S.blk 0).all _ (Term.len _)) (Term.len _)) (wd (does_mv_p rfl) ?_))))
  obtain ⟨r24, er24, H⟩ := bind_ex H
  obtain ⟨B26, MB26, SB26, back⟩ := S.calln 0 ((.z 0 rfl (.z 1 rfl (.z 2 rfl (.z 3 rfl .nil)))))
  refine wl_call (does_call ca_types_checker_head) (by decide) (types_checker_head_gst hrec_types_checker_told (a0 := a0) (a1 := a1) SB26 er24) ?_
  rintro _ w25 ⟨v27, rfl, S2⟩
  replace S := back _ _ _ _ S2 rfl
  clear back S2 SB26
  refine wd (does_mv_t rfl) (wd (does_extract rfl rfl) (wd (does_extract rfl rfl) ?_))
  refine wl_alloc ze_Nd (by decide) fun b29 w28 hw28 => ?_
  replace S := S.new hw28
  refine wl_store_agg ag_Nd rfl rfl (S.blk 0) (Nd.len _) (by rw [Nd.len]; decide) (Nd.one _) (store_all (Nd.len _)) fun w30 B hw30 zw30 => ?_
  replace S := S.store 0 B hw30
  clear B
  refine wd (does_assign rfl) (wl_nil (wc_seq (wc_region (wd (does_fieldAddr fl_Nd_l rfl (o' := 2) rfl) (wd (does_load on_int rfl ((S.blk 0).cell (Nd.get_l _))) (wd (does_move rfl) ?_))))))
  refine wd (does_as_i rfl) (wd (does_assign rfl) (wl_nil (wc_ret ?_)))
  refine ⟨_, (rets2 (retOne_tmp rfl) (retOne_tmp rfl)), ?_⟩
  replace S := S.arr [1] []
  obtain rfl := Option.some.inj H
  exact ⟨v27, rfl, S⟩
 replace H := if_f hc23 H
 refine wc_seq (wc_region (wd (does_eq rfl rfl) (wd (does_as_b rfl) (wl_nil ?_))))
 refine wc_if rfl (fun hc31 => ?_) (fun hc31 => ?_)
 ·replace H := if_t hc31 H
  refine wc_seq (wc_region (wd (does_load_agg ag_Checker rfl ((S.blk 1).all _ (Checker.len _)) (Checker.len _)) (wd (does_load_agg ag_Term rfl ((S.blk 0).all _ (Term.len _)) (Term.len _)) (wd (does_mv_p rfl) ?_))))
  obtain ⟨r32, er32, H⟩ := bind_ex H
  obtain ⟨B34, MB34, SB34, back⟩ := S.calln 0 ((.z 0 rfl (.z 1 rfl (.z 2 rfl (.z 3 rfl .nil)))))
  refine wl_call (does_call ca_types_checker_head) (by decide) (types_checker_head_gst hrec_types_checker_told (a0 := a0) (a1 := a1) SB34 er32) ?_
  rintro _ w33 ⟨v35, rfl, S2⟩
  replace S := back _ _ _ _ S2 rfl
  clear back S2 SB34
  refine wd (does_mv_t rfl) (wd (does_extract rfl rfl) (wd (does_extract rfl rfl) ?_))
  refine wl_alloc ze_Nd (by decide) fun b37 w36 hw36 => ?_
  replace S := S.new hw36
  refine wl_store_agg ag_Nd rfl rfl (S.blk 0) (Nd.len _) (by rw [Nd.len]; decide) (Nd.one _) (store_all (Nd.len _)) fun w38 B hw38 zw38 => ?_
  replace S := S.store 0 B hw38
  clear B
  refine wd (does_assign rfl) (wl_nil (wc_seq (wc_region (wd (does_fieldAddr fl_Nd_r rfl (o' := 3) rfl) (wd (does_load on_int rfl ((S.blk 0).cell (Nd.get_r _))) (wd (does_move rfl) ?_))))))
  refine wd (does_as_i rfl) (wd (does_assign rfl) (wl_nil (wc_ret ?_)))
  refine ⟨_, (rets2 (retOne_tmp rfl) (retOne_tmp rfl)), ?_⟩
  replace S := S.arr [1] []
  obtain rfl := Option.some.inj H
  exact ⟨v35, rfl, S⟩
 replace H := if_f hc31 H
 refine wc_seq (wc_region (wd (does_eq rfl rfl) (wd (does_as_b rfl) (wl_nil ?_))))
 refine wc_if rfl (fun hc39 => ?_) (fun hc39 => ?_)
 ·replace H := if_t hc39 H
  refine wc_seq (wc_seq (wc_region (wd (does_fieldAddr fl_Checker_t rfl (o' := 0) rfl) (wd (does_load on_dictum_formula_has rfl ((S.blk 1).cell (Checker.get_t _))) (wd (does_fieldAddr fl_Term_form rfl (o' := 3) rfl) (wd (does_load on_int rfl ((S.blk 0).cell (Term.get_form _))) ?_))))))
  obtain ⟨r40, er40, H⟩ := bind_ex H
  obtain ⟨B42, MB42, SB42, back⟩ := S.calln 0 ((.z 0 rfl .nil))
  refine wl_call (does_call ca_formula_Table_Node) (by decide) (formula_Table_Node_st SB42 er40) ?_
  rintro _ w41 ⟨rfl, S2⟩
  replace S := back _ _ _ _ S2 rfl
  clear back S2 SB42
  refine wd (does_mv_t rfl) (wd (does_extract rfl rfl) (wd (does_extract rfl rfl) ?_))
  refine wl_alloc ze_Nd (by decide) fun b44 w43 hw43 => ?_
  replace S := S.new hw43
  refine wl_store_agg ag_Nd rfl rfl (S.blk 0) (Nd.len _) (by rw [Nd.len]; decide) (Nd.one _) (store_all (Nd.len _)) fun w45 B hw45 zw45 => ?_
  replace S := S.store 0 B hw45
  clear B
  refine wd (does_as_b rfl) (wl_nil (wc_seq (wc_region (wd (does_mv_b rfl) (wd (does_not rfl) (wl_nil ?_))))))
  refine wc_if rfl (fun hc46 => ?_) (fun hc46 => ?_)
  ·replace H := if_t hc46 H
   refine wc_seq (wc_region (wd (Does.to (v' := .agg (Refusal.C (⟨31, SlV.nil⟩ : Refusal)).toArray) (does_buildv (vs := [(0, .int .i64 31)]) bu_Refusal (consP rfl rfl) (Bld.one rfl rfl (by rw [Refusal.len]; decide) (Refusal.set_code _ _) Bld.nil)) rfl) ?_))
   refine wl_box_agg rfl (by decide) fun b48 w47 hw47 => ?_
   replace S := S.new hw47
   refine wd (does_makeInterface rfl) ?_
   replace S := ((S.nil T_int 1 IC).front 1).mkE
   refine wd (does_as_i rfl) (wd (does_assign rfl) (wl_nil (wc_ret ?_)))
   refine ⟨_, (rets2 (retOne_tmp rfl) (retOne_tmp rfl)), ?_⟩
   replace S := S.arr [0] []
   obtain rfl := Option.some.inj H
   exact ⟨(.iface T_P_Refusal (.pointer (some ⟨b48, 0, none⟩))), rfl, S⟩
  replace H := if_f hc46 H
  refine wc_skip (wc_seq ?_)
  obtain ⟨r49, er49, H⟩ := bind_ex H
  refine wc_semi 8 [7]
   (fun i v u => match i with
   | 7 => ∃ v50 : Value, v = v50 ∧ ∃ F, (oE v50 r49).holds u F ∧ ∀ i, F i → w45.heap.size ≤ i
   | _ => True) hmix (by kernel_rfl) (by kernel_rfl) ?_ ?_
  ·intro i v u u' hi hx hv
   match i, hv with
   | 7, ⟨b, e1, F, hb, hl⟩ => exact ⟨b, e1, F, OA.loc _ hb hx (fun _ _ x => x), hl⟩
   | 0, _ => exact trivial
   | 1, _ => exact trivial
   | 2, _ => exact trivial
   | 3, _ => exact trivial
   | 4, _ => exact trivial
   | 5, _ => exact trivial
   | 6, _ => exact trivial
   | _ + 8, _ => exact trivial
  refine wm_does (fun v K => does_fieldAddr fl_Term_form rfl (o' := 3) rfl) rfl (wm_does (fun v K => does_load on_int rfl (((S.ext K).blk 1).cell (Term.get_form _))) rfl (wm_does (fun v K => does_load_agg ag_Checker rfl (((S.ext K).blk 2).all _ (Checker.len _)) (Checker.len _)) rfl (wm_does (fun v K => does_load_agg ag_Term rfl (((S.ext K).blk 1).all _ (Term.len _)) (Term.len _)) rfl (wm_does (fun v K => does_mv_p rfl) rfl (wm_does (fun v K => does_fieldAddr fl_Term_form rfl (o' := 3) rfl) rfl ?_)))))
  refine wm_does (fun v K => does_load on_int rfl (((S.ext K).blk 1).cell (Term.get_form _))) rfl ?_
  refine wm_newcall (fun g v K G => (have ⟨M, SS⟩ := (S.ext K).lend ((.z 0 rfl (.z 1 rfl (.z 2 rfl (.z 3 rfl .nil))))); ⟨_, _, does_callg ca_types_checker_check (cons2 rfl (cons2 rfl (cons2 rfl (cons2 rfl (cons2 rfl rfl))))), newc (types_checker_check_gst hrec_types_checker_checked (a0 := a0) (a1 := a1) SS er49) fun _ _ ⟨v50, hv, h⟩ => ⟨h.frame, v50, hv, h.newP.elim fun F hF => ⟨F, hF.1, fun i hi => by have := hF.2 i hi; have := K.size; omega⟩⟩⟩)) rfl ?_
  refine wm_nil fun g w51 K hV => ?_
  obtain ⟨v50, hv527, F7, hb7, hf7⟩ := hV 7 rfl (by decide)
  replace S := S.add (b := oE v50 r49) K hb7 hf7
  clear K hV
  refine wd (does_as_i rfl) (wd (does_assign hv527) (wl_nil (wc_ret ?_)))
  refine ⟨_, (rets2 (retOne_tmp rfl) (retOne_tmp rfl)), ?_⟩
  replace S := S.arr [0] []
  obtain rfl := Option.some.inj H
  exact ⟨v50, rfl, S⟩
 replace H := if_f hc39 H
 refine wc_seq (wc_region (wd (does_eq rfl rfl) (wd (does_as_b rfl) (wl_nil ?_))))
 refine wc_if rfl (fun hc53 => ?_) (fun hc53 => ?_)
 ·replace H := if_t hc53 H
  refine wc_seq (wc_region (wd (does_load_agg ag_Checker rfl ((S.blk 1).all _ (Checker.len _)) (Checker.len _)) (wd (does_load_agg ag_Term rfl ((S.blk 0).all _ (Term.len _)) (Term.len _)) (wd (does_mv_p rfl) ?_))))
  obtain ⟨r54, er54, H⟩ := bind_ex H
  obtain ⟨B56, MB56, SB56, back⟩ := S.calln 0 ((.z 0 rfl (.z 1 rfl (.z 2 rfl (.z 3 rfl .nil)))))
  refine wl_call (does_call ca_types_checker_part) (by decide) (types_checker_part_gst hrec_types_checker_told (a0 := a0) (a1 := a1) SB56 er54) ?_
  rintro _ w55 ⟨v57, rfl, S2⟩
  replace S := back _ _ _ _ S2 rfl
  clear back S2 SB56
  refine wd (does_mv_t rfl) (wd (does_extract rfl rfl) (wd (does_extract rfl rfl) (wd (does_as_i rfl) (wd (does_assign rfl) (wl_nil (wc_seq (wc_seq (wc_region ?_))))))))
  refine wd (does_move rfl) (wd (does_neE if_error rfl rfl (S.onO 0)) (wl_nil ?_))
  refine wc_if rfl (fun hc58 => ?_) (fun hc58 => ?_)
  ·replace H := if_t hc58 H
   refine wc_seq (wc_region (wd (does_move rfl) (wd (does_as_i rfl) (wd (does_assign rfl) (wl_nil (wc_ret ?_))))))
   refine ⟨_, (rets2 (retOne_tmp rfl) (retOne_tmp rfl)), ?_⟩
   replace S := S.arr [0] []
   obtain rfl := Option.some.inj H
   exact ⟨v57, rfl, S⟩
  replace H := if_f hc58 H
  refine wc_skip (wc_seq ?_)
  refine wc_ws hmix fun w62 K => ?_
  replace S := S.ext K
  clear K
  refine ws_semi 0 7 [6] (by kernel_rfl) (by decide) (by kernel_rfl)
   (V := fun i v u => match i with
   | 6 => ∃ b : Nat, v = Value.pointer (some ⟨b, 0, none⟩) ∧ Blk u b T_Scope (Scope.C ⟨a1.name, r54.1, a_2⟩) ∧ w62.heap.size ≤ b
   | _ => True) ?_ ?_
  ·intro i v u u' hi hx hv
   match i, hv with
   | 6, ⟨b, e1, hb, hl⟩ => exact ⟨b, e1, hb.ext hx, hl⟩
   | 0, _ => exact trivial
   | 1, _ => exact trivial
   | 2, _ => exact trivial
   | 3, _ => exact trivial
   | 4, _ => exact trivial
   | 5, _ => exact trivial
   | _ + 7, _ => exact trivial
  refine wm_does (fun v K => does_load_agg ag_Checker rfl (((S.ext K).blk 2).all _ (Checker.len _)) (Checker.len _)) rfl (wm_does (fun v K => does_load_agg ag_Term rfl (((S.ext K).blk 1).all _ (Term.len _)) (Term.len _)) rfl (wm_does (fun v K => does_mv_p rfl) rfl (wm_does (fun v K => does_fieldAddr fl_Term_name rfl (o' := 1) rfl) rfl (wm_does (fun v K => does_load on_string rfl (((S.ext K).blk 1).cell (Term.get_name _))) rfl (wm_does (fun v K => does_mv_i rfl) rfl ?_)))))
  refine wm_newcall (fun g v K G => ⟨_, _, does_callg ca_types_scope_with (cons2 rfl (cons2 rfl (cons2 rfl rfl))), newc (types_scope_with_ok _ _ _ _) fun _ _ ⟨b, hv, hx, hb, hl⟩ => ⟨hx, b, hv, hb, by have := K.size; omega⟩⟩) rfl ?_
  refine wm_nil fun g w64 K hV => ?_
  obtain ⟨b63, hv656, hb6, hf6⟩ := hV 6 rfl (by decide)
  replace S := (S.newAt K hb6 hf6).pushScope 0 2
  clear K hV
  refine ws_chain 7 8 (by kernel_rfl) (by decide) ?_
  obtain ⟨r66, er66, H⟩ := bind_ex H
  obtain ⟨B68, MB68, SB68, back⟩ := S.calln 0 ((.z 1 rfl (.z 2 rfl (.z 0 rfl (.z 4 rfl .nil)))))
  refine wl_call (does_callg ca_types_checker_part (cons2 rfl (cons2 rfl (cons2 rfl (cons2 hv656 rfl))))) (by decide) (types_checker_part_gst hrec_types_checker_told (a0 := a0) (a1 := a1) SB68 er66) ?_
  rintro _ w67 ⟨v69, rfl, S2⟩
  replace S := back _ _ _ _ S2 rfl
  clear back S2 SB68
  refine wl_nil ⟨rfl, ?_⟩
  refine ws_semi 8 10 [] (by kernel_rfl) (by decide) (by kernel_rfl)
   (V := fun i v u => match i with
   | _ => True) ?_ ?_
  ·intro i v u u' hi hx hv
   match i, hv with
   | _, _ => exact trivial
  refine wm_does (fun v K => does_extract rfl rfl) rfl (wm_does (fun v K => does_extract rfl rfl) rfl ?_)
  refine wm_nil fun g w70 K hV => ?_
  replace S := S.ext K
  clear K hV
  refine ws_tail 10 (by kernel_rfl) (by decide) (wd (does_as_i rfl) (wd (does_assign rfl) (wl_nil (wc_ret ?_))))
  refine ⟨_, (rets2 (retOne_tmp rfl) (retOne_tmp rfl)), ?_⟩
  replace S := S.arr [0] []
  obtain rfl := Option.some.inj H
  exact ⟨v69, rfl, S⟩
 replace H := if_f hc53 H
 refine wc_seq (wc_region (wd (does_eq rfl rfl) (wd (does_as_b rfl) (wl_nil ?_))))
 refine wc_if rfl (fun hc72 => ?_) (fun hc72 => ?_)
 ·replace H := if_t hc72 H
  refine wc_seq (wc_region (wd (does_load_agg ag_Checker rfl ((S.blk 1).all _ (Checker.len _)) (Checker.len _)) (wd (does_load_agg ag_Term rfl ((S.blk 0).all _ (Term.len _)) (Term.len _)) (wd (does_mv_p rfl) ?_))))
  obtain ⟨r73, er73, H⟩ := bind_ex H
  obtain ⟨B75, MB75, SB75, back⟩ := S.calln 0 ((.z 0 rfl (.z 1 rfl (.z 2 rfl (.z 3 rfl .nil)))))
  refine wl_call (does_call ca_types_checker_head) (by decide) (types_checker_head_gst hrec_types_checker_told (a0 := a0) (a1 := a1) SB75 er73) ?_
  rintro _ w74 ⟨v76, rfl, S2⟩
  replace S := back _ _ _ _ S2 rfl
  clear back S2 SB75
  refine wd (does_mv_t rfl) (wd (does_extract rfl rfl) (wd (does_extract rfl rfl) ?_))
  refine wl_alloc ze_Nd (by decide) fun b78 w77 hw77 => ?_
  replace S := S.new hw77
  refine wl_store_agg ag_Nd rfl rfl (S.blk 0) (Nd.len _) (by rw [Nd.len]; decide) (Nd.one _) (store_all (Nd.len _)) fun w79 B hw79 zw79 => ?_
  replace S := S.store 0 B hw79
  clear B
  refine wd (does_assign rfl) (wl_nil (wc_seq (wc_seq (wc_region (wd (does_move rfl) (wd (does_neE if_error rfl rfl (S.onO 1)) (wl_nil ?_)))))))
  refine wc_if rfl (fun hc80 => ?_) (fun hc80 => ?_)
  ·replace H := if_t hc80 H
   refine wc_seq (wc_region (wd (does_move rfl) (wd (does_as_i rfl) (wd (does_assign rfl) (wl_nil (wc_ret ?_))))))
   refine ⟨_, (rets2 (retOne_tmp rfl) (retOne_tmp rfl)), ?_⟩
   replace S := S.arr [1] []
   obtain rfl := Option.some.inj H
   exact ⟨v76, rfl, S⟩
  replace H := if_f hc80 H
  refine wc_skip (wc_seq ?_)
  refine wc_ws hmix fun w84 K => ?_
  replace S := S.ext K
  clear K
  refine ws_semi 0 8 [7] (by kernel_rfl) (by decide) (by kernel_rfl)
   (V := fun i v u => match i with
   | 7 => ∃ b : Nat, v = Value.pointer (some ⟨b, 0, none⟩) ∧ Blk u b T_Scope (Scope.C ⟨a1.name, r73.1.l, a_2⟩) ∧ w84.heap.size ≤ b
   | _ => True) ?_ ?_
  ·intro i v u u' hi hx hv
   match i, hv with
   | 7, ⟨b, e1, hb, hl⟩ => exact ⟨b, e1, hb.ext hx, hl⟩
   | 0, _ => exact trivial
   | 1, _ => exact trivial
   | 2, _ => exact trivial
   | 3, _ => exact trivial
   | 4, _ => exact trivial
   | 5, _ => exact trivial
   | 6, _ => exact trivial
   | _ + 8, _ => exact trivial
  refine wm_does (fun v K => does_load_agg ag_Checker rfl (((S.ext K).blk 3).all _ (Checker.len _)) (Checker.len _)) rfl (wm_does (fun v K => does_load_agg ag_Term rfl (((S.ext K).blk 2).all _ (Term.len _)) (Term.len _)) rfl (wm_does (fun v K => does_mv_p rfl) rfl (wm_does (fun v K => does_fieldAddr fl_Term_name rfl (o' := 1) rfl) rfl (wm_does (fun v K => does_load on_string rfl (((S.ext K).blk 2).cell (Term.get_name _))) rfl (wm_does (fun v K => does_fieldAddr fl_Nd_l rfl (o' := 2) rfl) rfl ?_)))))
  refine wm_does (fun v K => does_load on_int rfl (((S.ext K).blk 0).cell (Nd.get_l _))) rfl ?_
  refine wm_newcall (fun g v K G => ⟨_, _, does_callg ca_types_scope_with (cons2 rfl (cons2 rfl (cons2 rfl rfl))), newc (types_scope_with_ok _ _ _ _) fun _ _ ⟨b, hv, hx, hb, hl⟩ => ⟨hx, b, hv, hb, by have := K.size; omega⟩⟩) rfl ?_
  refine wm_nil fun g w86 K hV => ?_
  obtain ⟨b85, hv877, hb7, hf7⟩ := hV 7 rfl (by decide)
  replace S := (S.newAt K hb7 hf7).pushScope 0 2
  clear K hV
  refine ws_chain 8 10 (by kernel_rfl) (by decide) ?_
  obtain ⟨r88, er88, H⟩ := bind_ex H
  obtain ⟨B90, MB90, SB90, back⟩ := S.calln 0 ((.z 1 rfl (.z 2 rfl (.z 0 rfl (.z 4 rfl .nil)))))
  refine wl_call (does_callg ca_types_checker_part (cons2 rfl (cons2 rfl (cons2 rfl (cons2 hv877 rfl))))) (by decide) (types_checker_part_gst hrec_types_checker_told (a0 := a0) (a1 := a1) SB90 er88) ?_
  rintro _ w89 ⟨v91, rfl, S2⟩
  replace S := back _ _ _ _ S2 rfl
  clear back S2 SB90
  refine wd (does_mv_t rfl) (wl_nil ⟨rfl, ?_⟩)
  refine ws_semi 10 13 [] (by kernel_rfl) (by decide) (by kernel_rfl)
   (V := fun i v u => match i with
   | _ => True) ?_ ?_
  ·intro i v u u' hi hx hv
   match i, hv with
   | _, _ => exact trivial
  refine wm_does (fun v K => does_extract rfl rfl) rfl (wm_does (fun v K => does_extract rfl rfl) rfl (wm_does (fun v K => does_as_i rfl) rfl ?_))
  refine wm_nil fun g w92 K hV => ?_
  replace S := S.ext K
  clear K hV
  refine ws_tail 13 (by kernel_rfl) (by decide) (wd (does_assign rfl) (wl_nil (wc_seq (wc_seq (wc_region (wd (does_move rfl) (wd (does_neE if_error rfl rfl (S.onO 0)) (wl_nil ?_))))))))
  refine wc_if rfl (fun hc94 => ?_) (fun hc94 => ?_)
  ·replace H := if_t hc94 H
   refine wc_seq (wc_region (wd (does_move rfl) (wd (does_as_i rfl) (wd (does_assign rfl) (wl_nil (wc_ret ?_))))))
   refine ⟨_, (rets2 (retOne_tmp rfl) (retOne_tmp rfl)), ?_⟩
   replace S := S.arr [0] []
   obtain rfl := Option.some.inj H
   exact ⟨v91, rfl, S⟩
  replace H := if_f hc94 H
  refine wc_skip (wc_seq ?_)
  refine wc_ws hmix fun w98 K => ?_
  replace S := S.ext K
  clear K
  refine ws_semi 0 8 [7] (by kernel_rfl) (by decide) (by kernel_rfl)
   (V := fun i v u => match i with
   | 7 => ∃ b : Nat, v = Value.pointer (some ⟨b, 0, none⟩) ∧ Blk u b T_Scope (Scope.C ⟨a1.other, r73.1.r, a_2⟩) ∧ w98.heap.size ≤ b
   | _ => True) ?_ ?_
  ·intro i v u u' hi hx hv
   match i, hv with
   | 7, ⟨b, e1, hb, hl⟩ => exact ⟨b, e1, hb.ext hx, hl⟩
   | 0, _ => exact trivial
   | 1, _ => exact trivial
   | 2, _ => exact trivial
   | 3, _ => exact trivial
   | 4, _ => exact trivial
   | 5, _ => exact trivial
   | 6, _ => exact trivial
   | _ + 8, _ => exact trivial
  refine wm_does (fun v K => does_load_agg ag_Checker rfl (((S.ext K).blk 4).all _ (Checker.len _)) (Checker.len _)) rfl (wm_does (fun v K => does_load_agg ag_Term rfl (((S.ext K).blk 3).all _ (Term.len _)) (Term.len _)) rfl (wm_does (fun v K => does_mv_p rfl) rfl (wm_does (fun v K => does_fieldAddr fl_Term_other rfl (o' := 2) rfl) rfl (wm_does (fun v K => does_load on_string rfl (((S.ext K).blk 3).cell (Term.get_other _))) rfl (wm_does (fun v K => does_fieldAddr fl_Nd_r rfl (o' := 3) rfl) rfl ?_)))))
  refine wm_does (fun v K => does_load on_int rfl (((S.ext K).blk 1).cell (Nd.get_r _))) rfl ?_
  refine wm_newcall (fun g v K G => ⟨_, _, does_callg ca_types_scope_with (cons2 rfl (cons2 rfl (cons2 rfl rfl))), newc (types_scope_with_ok _ _ _ _) fun _ _ ⟨b, hv, hx, hb, hl⟩ => ⟨hx, b, hv, hb, by have := K.size; omega⟩⟩) rfl ?_
  refine wm_nil fun g w100 K hV => ?_
  obtain ⟨b99, hv1017, hb7, hf7⟩ := hV 7 rfl (by decide)
  replace S := (S.newAt K hb7 hf7).pushScope 0 3
  clear K hV
  refine ws_chain 8 10 (by kernel_rfl) (by decide) ?_
  obtain ⟨r102, er102, H⟩ := bind_ex H
  obtain ⟨B104, MB104, SB104, back⟩ := S.calln 0 ((.z 2 rfl (.z 3 rfl (.z 0 rfl (.z 5 rfl .nil)))))
  refine wl_call (does_callg ca_types_checker_part (cons2 rfl (cons2 rfl (cons2 rfl (cons2 hv1017 rfl))))) (by decide) (types_checker_part_gst hrec_types_checker_told (a0 := a0) (a1 := a1) SB104 er102) ?_
  rintro _ w103 ⟨v105, rfl, S2⟩
  replace S := back _ _ _ _ S2 rfl
  clear back S2 SB104
  refine wd (does_mv_t rfl) (wl_nil ⟨rfl, ?_⟩)
  refine ws_semi 10 13 [] (by kernel_rfl) (by decide) (by kernel_rfl)
   (V := fun i v u => match i with
   | _ => True) ?_ ?_
  ·intro i v u u' hi hx hv
   match i, hv with
   | _, _ => exact trivial
  refine wm_does (fun v K => does_extract rfl rfl) rfl (wm_does (fun v K => does_extract rfl rfl) rfl (wm_does (fun v K => does_as_i rfl) rfl ?_))
  refine wm_nil fun g w106 K hV => ?_
  replace S := S.ext K
  clear K hV
  refine ws_tail 13 (by kernel_rfl) (by decide) (wd (does_assign rfl) (wl_nil (wc_seq (wc_seq (wc_region (wd (does_move rfl) (wd (does_eqE if_error rfl rfl (S.onO 0)) ?_)))))))
  refine wd (does_mv_b rfl) ?_
  refine wg (fun hg => does_mv_i rfl) ?_
  refine wg (fun hg => does_mv_i rfl) ?_
  refine wg (fun hg => does_ne (gv_yes hg) (gv_yes hg)) (wd (does_and rfl (fun hp => (gv_yes (and_1 hp)))) (wl_nil ?_))
  refine wc_if rfl (fun hc108 => ?_) (fun hc108 => ?_)
  ·replace H := if_t hc108 H
   refine wc_region (wd (Does.to (v' := .agg (Refusal.C (⟨130, SlV.nil⟩ : Refusal)).toArray) (does_buildv (vs := [(0, .int .i64 130)]) bu_Refusal (consP rfl rfl) (Bld.one rfl rfl (by rw [Refusal.len]; decide) (Refusal.set_code _ _) Bld.nil)) rfl) ?_)
   refine wl_box_agg rfl (by decide) fun b110 w109 hw109 => ?_
   replace S := S.new hw109
   refine wd (does_makeInterface rfl) ?_
   replace S := ((S.nil T_int 1 IC).front 1).mkE
   refine wd (does_assign rfl) (wl_nil (wc_seq (wc_region (wd (does_mv_i rfl) (wd (does_move rfl) (wd (does_as_i rfl) ?_))))))
   refine wd (does_assign rfl) (wl_nil (wc_ret ?_))
   refine ⟨_, (rets2 (retOne_tmp rfl) (retOne_tmp rfl)), ?_⟩
   replace S := S.arr [0] []
   obtain rfl := Option.some.inj H
   exact ⟨(.iface T_P_Refusal (.pointer (some ⟨b110, 0, none⟩))), rfl, S⟩
  ·replace H := if_f hc108 H
   refine wc_skip (wc_seq (wc_region (wd (does_mv_i rfl) (wd (does_move rfl) (wd (does_as_i rfl) (wd (does_assign rfl) (wl_nil (wc_ret ?_))))))))
   refine ⟨_, (rets2 (retOne_tmp rfl) (retOne_tmp rfl)), ?_⟩
   replace S := S.arr [0] []
   obtain rfl := Option.some.inj H
   exact ⟨v105, rfl, S⟩
 replace H := if_f hc72 H
 refine wc_skip (wc_seq (wc_region (wd (Does.to (v' := .agg (Refusal.C (⟨132, SlV.nil⟩ : Refusal)).toArray) (does_buildv (vs := [(0, .int .i64 132)]) bu_Refusal (consP rfl rfl) (Bld.one rfl rfl (by rw [Refusal.len]; decide) (Refusal.set_code _ _) Bld.nil)) rfl) ?_)))
 refine wl_box_agg rfl (by decide) fun b112 w111 hw111 => ?_
 replace S := S.new hw111
 refine wd (does_makeInterface rfl) ?_
 replace S := ((S.nil T_int 1 IC).front 1).mkE
 refine wd (does_as_i rfl) (wd (does_assign rfl) (wl_nil (wc_ret ?_)))
 refine ⟨_, (rets2 (retOne_tmp rfl) (retOne_tmp rfl)), ?_⟩
 replace S := S.arr [0] []
 obtain rfl := Option.some.inj H
 exact ⟨(.iface T_P_Refusal (.pointer (some ⟨b112, 0, none⟩))), rfl, S⟩
theorem types_checker_checked_gst {rec_types_checker_told : PChecker → PTerm → (List (ByteArray × Int)) → Option (Int × (Option (Int × List Int)))} (hrec_types_checker_told : ∀ {A : Nat → Prop} {N : Oth} {w : World} {a0 : PChecker} {a_0 : Option Addr} {a1 : PTerm} {s_1 : SlV} {a2 : List (ByteArray × Int)} {a_2 : Option Addr} (S : St A N w w [] [oT a_0 a0.t, oDTerm s_1 a1.sub, fScope a_2 a2, oEt]) {r : Int × (Option (Int × List Int))} (H : rec_types_checker_told a0 a1 a2 = some r), Calls PP F_types_checker_told #[.agg (Checker.C (⟨a_0⟩ : Checker)).toArray, .agg (Term.C (⟨a1.kind, a1.name, a1.other, a1.form, s_1⟩ : Term)).toArray, .pointer a_2] w fun e w' => ∃ v, e = .returned v ∧ (∃ vo0 : Value, v = .tuple #[.int .i64 r.1, vo0] ∧ St A N w w' [oE vo0 r.2] [])) {rec_types_checker_checked : PChecker → PTerm → (List (ByteArray × Int)) → Int → Option (Option (Int × List Int))} (hrec_types_checker_checked : ∀ {A : Nat → Prop} {N : Oth} {w : World} {a0 : PChecker} {a_0 : Option Addr} {a1 : PTerm} {s_1 : SlV} {a2 : List (ByteArray × Int)} {a_2 : Option Addr} {a3 : Int} (S : St A N w w [] [oT a_0 a0.t, oDTerm s_1 a1.sub, fScope a_2 a2, oEt]) {r : (Option (Int × List Int))} (H : rec_types_checker_checked a0 a1 a2 a3 = some r), Calls PP F_types_checker_checked #[.agg (Checker.C (⟨a_0⟩ : Checker)).toArray, .agg (Term.C (⟨a1.kind, a1.name, a1.other, a1.form, s_1⟩ : Term)).toArray, .pointer a_2, .int .i64 a3] w fun e w' => ∃ v, e = .returned v ∧ (∃ vo0 : Value, v = vo0 ∧ St A N w w' [oE vo0 r] [])) {A : Nat → Prop} {N : Oth} {w : World} {a0 : PChecker} {a_0 : Option Addr} {a1 : PTerm} {s_1 : SlV} {a2 : List (ByteArray × Int)} {a_2 : Option Addr} {a3 : Int} (S : St A N w w [] [oT a_0 a0.t, oDTerm s_1 a1.sub, fScope a_2 a2, oEt]) {r : (Option (Int × List Int))} (H : types_checker_checked.g rec_types_checker_told rec_types_checker_checked a0 a1 a2 a3 = some r) :
  Calls PP F_types_checker_checked #[.agg (Checker.C (⟨a_0⟩ : Checker)).toArray, .agg (Term.C (⟨a1.kind, a1.name, a1.other, a1.form, s_1⟩ : Term)).toArray, .pointer a_2, .int .i64 a3] w fun e w' => ∃ v, e = .returned v ∧ (∃ vo0 : Value, v = vo0 ∧ St A N w w' [oE vo0 r] []) := by
 unfold types_checker_checked.g at H
 refine calls_of_wc (n := 186) fn_types_checker_checked rfl rfl (by simp) (wc_seq (wc_region ?_))
 refine wl_box_agg rfl (by decide) fun b2 w1 hw1 => ?_
 replace S := S.new hw1
 refine wl_box_agg rfl (by decide) fun b4 w3 hw3 => ?_
 replace S := S.new hw3
 refine wd (does_assign rfl) (wl_nil (wc_seq (wc_seq (wc_region (wd (does_fieldAddr fl_Term_kind rfl (o' := 0) rfl) (wd (does_load on_api_TermKind rfl ((S.blk 0).cell (Term.get_kind _))) (wl_nil ?_)))))))
 refine wc_block (wc_seq (wc_region (wd (does_eq rfl rfl) (wd (does_as_b rfl) (wl_nil ?_)))))
 refine wc_if rfl (fun hc5 => ?_) (fun hc5 => ?_)
 ·replace H := if_t hc5 H
  refine wc_seq (wc_region (wd (does_load_agg ag_Checker rfl ((S.blk 1).all _ (Checker.len _)) (Checker.len _)) (wd (does_mv_i rfl) ?_)))
  obtain ⟨r6, er6, H⟩ := bind_ex H
  obtain ⟨B8, MB8, SB8, back⟩ := S.calln 0 ((.z 0 rfl .nil))
  refine wl_call (does_call ca_types_checker_node) (by decide) (types_checker_node_st (a0 := a0) SB8 er6) ?_
  rintro _ w7 ⟨v9, rfl, S2⟩
  replace S := back _ _ _ _ S2 rfl
  clear back S2 SB8
  refine wd (does_mv_t rfl) (wd (does_extract rfl rfl) (wd (does_extract rfl rfl) ?_))
  refine wl_alloc ze_Nd (by decide) fun b11 w10 hw10 => ?_
  replace S := S.new hw10
  refine wl_store_agg ag_Nd rfl rfl (S.blk 0) (Nd.len _) (by rw [Nd.len]; decide) (Nd.one _) (store_all (Nd.len _)) fun w12 B hw12 zw12 => ?_
  replace S := S.store 0 B hw12
  clear B
  refine wd (does_assign rfl) (wl_nil (wc_seq (wc_seq (wc_region (wd (does_move rfl) (wd (does_neE if_error rfl rfl (S.onO 1)) (wl_nil ?_)))))))
  refine wc_if rfl (fun hc13 => ?_) (fun hc13 => ?_)
  ·replace H := if_t hc13 H
   refine wc_seq (wc_region (wd (does_move rfl) (wd (does_assign rfl) (wl_nil (wc_ret ?_)))))
   refine ⟨_, (rets1 (retOne_tmp rfl)), ?_⟩
   replace S := S.arr [1] []
   obtain rfl := Option.some.inj H
   exact ⟨v9, rfl, S⟩
  replace H := if_f hc13 H
  refine wc_skip (wc_seq ?_)
  refine wc_semi 10 [7]
   (fun i v u => match i with
   | 7 => ∃ b : Nat, v = Value.pointer (some ⟨b, 0, none⟩) ∧ Blk u b T_Scope (Scope.C ⟨a1.name, r6.1.l, a_2⟩) ∧ w12.heap.size ≤ b
   | _ => True) hmix (by kernel_rfl) (by kernel_rfl) ?_ ?_
  ·intro i v u u' hi hx hv
   match i, hv with
   | 7, ⟨b, e1, hb, hl⟩ => exact ⟨b, e1, hb.ext hx, hl⟩
   | 0, _ => exact trivial
   | 1, _ => exact trivial
   | 2, _ => exact trivial
   | 3, _ => exact trivial
   | 4, _ => exact trivial
   | 5, _ => exact trivial
   | 6, _ => exact trivial
   | _ + 8, _ => exact trivial
  refine wm_does (fun v K => does_load_agg ag_Checker rfl (((S.ext K).blk 3).all _ (Checker.len _)) (Checker.len _)) rfl (wm_does (fun v K => does_load_agg ag_Term rfl (((S.ext K).blk 2).all _ (Term.len _)) (Term.len _)) rfl (wm_does (fun v K => does_mv_p rfl) rfl (wm_does (fun v K => does_fieldAddr fl_Term_name rfl (o' := 1) rfl) rfl (wm_does (fun v K => does_load on_string rfl (((S.ext K).blk 2).cell (Term.get_name _))) rfl (wm_does (fun v K => does_fieldAddr fl_Nd_l rfl (o' := 2) rfl) rfl ?_)))))
  refine wm_does (fun v K => does_load on_int rfl (((S.ext K).blk 0).cell (Nd.get_l _))) rfl ?_
  refine wm_newcall (fun g v K G => ⟨_, _, does_callg ca_types_scope_with (cons2 rfl (cons2 rfl (cons2 rfl rfl))), newc (types_scope_with_ok _ _ _ _) fun _ _ ⟨b, hv, hx, hb, hl⟩ => ⟨hx, b, hv, hb, by have := K.size; omega⟩⟩) rfl (wm_does (fun v K => does_fieldAddr fl_Nd_r rfl (o' := 3) rfl) rfl (wm_does (fun v K => does_load on_int rfl (((S.ext K).blk 0).cell (Nd.get_r _))) rfl ?_))
  refine wm_nil fun g w15 K hV => ?_
  obtain ⟨b14, hv167, hb7, hf7⟩ := hV 7 rfl (by decide)
  replace S := (S.newAt K hb7 hf7).pushScope 0 2
  clear K hV
  obtain ⟨r17, er17, H⟩ := bind_ex H
  obtain ⟨B19, MB19, SB19, back⟩ := S.calln 0 ((.z 1 rfl (.z 2 rfl (.z 0 rfl (.z 4 rfl .nil)))))
  refine wl_call (does_callg ca_types_checker_check (cons2 rfl (cons2 rfl (cons2 rfl (cons2 hv167 (cons2 rfl rfl)))))) (by decide) (types_checker_check_gst hrec_types_checker_checked (a0 := a0) (a1 := a1) SB19 er17) ?_
  rintro v20 w18 ⟨_, rfl, S2⟩
  replace S := back _ _ _ _ S2 rfl
  clear back S2 SB19
  refine wd (does_assign rfl) (wl_nil (wc_ret ?_))
  refine ⟨_, (rets1 (retOne_tmp rfl)), ?_⟩
  replace S := S.arr [0] []
  obtain rfl := Option.some.inj H
  exact ⟨v20, rfl, S⟩
 replace H := if_f hc5 H
 refine wc_seq (wc_region (wd (does_eq rfl rfl) (wd (does_as_b rfl) (wl_nil ?_))))
 refine wc_if rfl (fun hc21 => ?_) (fun hc21 => ?_)
 ·replace H := if_t hc21 H
  refine wc_seq (wc_region (wd (does_load_agg ag_Checker rfl ((S.blk 1).all _ (Checker.len _)) (Checker.len _)) (wd (does_mv_i rfl) ?_)))
  obtain ⟨r22, er22, H⟩ := bind_ex H
  obtain ⟨B24, MB24, SB24, back⟩ := S.calln 0 ((.z 0 rfl .nil))
  refine wl_call (does_call ca_types_checker_node) (by decide) (types_checker_node_st (a0 := a0) SB24 er22) ?_
  rintro _ w23 ⟨v25, rfl, S2⟩
  replace S := back _ _ _ _ S2 rfl
  clear back S2 SB24
  refine wd (does_mv_t rfl) (wd (does_extract rfl rfl) (wd (does_extract rfl rfl) ?_))
  refine wl_alloc ze_Nd (by decide) fun b27 w26 hw26 => ?_
  replace S := S.new hw26
  refine wl_store_agg ag_Nd rfl rfl (S.blk 0) (Nd.len _) (by rw [Nd.len]; decide) (Nd.one _) (store_all (Nd.len _)) fun w28 B hw28 zw28 => ?_
  replace S := S.store 0 B hw28
  clear B
  refine wd (does_assign rfl) (wl_nil (wc_seq (wc_seq (wc_region (wd (does_move rfl) (wd (does_neE if_error rfl rfl (S.onO 1)) (wl_nil ?_)))))))
  refine wc_if rfl (fun hc29 => ?_) (fun hc29 => ?_)
  ·replace H := if_t hc29 H
   refine wc_seq (wc_region (wd (does_move rfl) (wd (does_assign rfl) (wl_nil (wc_ret ?_)))))
   refine ⟨_, (rets1 (retOne_tmp rfl)), ?_⟩
   replace S := S.arr [1] []
   obtain rfl := Option.some.inj H
   exact ⟨v25, rfl, S⟩
  replace H := if_f hc29 H
  refine wc_skip (wc_seq (wc_seq (wc_region (wd (does_load_agg ag_Checker rfl ((S.blk 3).all _ (Checker.len _)) (Checker.len _)) (wd (does_load_agg ag_Term rfl ((S.blk 2).all _ (Term.len _)) (Term.len _)) (wd (does_mv_p rfl) (wd (does_fieldAddr fl_Nd_l rfl (o' := 2) rfl) ?_)))))))
  refine wd (does_load on_int rfl ((S.blk 0).cell (Nd.get_l _))) ?_
  obtain ⟨r30, er30, H⟩ := bind_ex H
  obtain ⟨B32, MB32, SB32, back⟩ := S.calln 0 ((.z 0 rfl (.z 1 rfl (.z 2 rfl (.z 3 rfl .nil)))))
  refine wl_call (does_call ca_types_checker_check) (by decide) (types_checker_check_gst hrec_types_checker_checked (a0 := a0) (a1 := a1) SB32 er30) ?_
  rintro v33 w31 ⟨_, rfl, S2⟩
  replace S := back _ _ _ _ S2 rfl
  clear back S2 SB32
  refine wd (does_assign rfl) (wl_nil (wc_seq (wc_region (wd (does_move rfl) (wd (does_neE if_error rfl rfl (S.onO 0)) (wl_nil ?_))))))
  refine wc_if rfl (fun hc34 => ?_) (fun hc34 => ?_)
  ·replace H := if_t hc34 H
   refine wc_seq (wc_region (wd (does_move rfl) (wd (does_assign rfl) (wl_nil (wc_ret ?_)))))
   refine ⟨_, (rets1 (retOne_tmp rfl)), ?_⟩
   replace S := S.arr [0] []
   obtain rfl := Option.some.inj H
   exact ⟨v33, rfl, S⟩
  replace H := if_f hc34 H
  refine wc_skip (wc_seq (wc_region (wd (does_load_agg ag_Checker rfl ((S.blk 4).all _ (Checker.len _)) (Checker.len _)) (wd (does_load_agg ag_Term rfl ((S.blk 3).all _ (Term.len _)) (Term.len _)) (wd (does_mv_p rfl) (wd (does_fieldAddr fl_Nd_r rfl (o' := 3) rfl) ?_))))))
  refine wd (does_load on_int rfl ((S.blk 1).cell (Nd.get_r _))) ?_
  obtain ⟨r35, er35, H⟩ := bind_ex H
  obtain ⟨B37, MB37, SB37, back⟩ := S.calln 0 ((.z 0 rfl (.z 1 rfl (.z 2 rfl (.z 3 rfl .nil)))))
  refine wl_call (does_call ca_types_checker_check) (by decide) (types_checker_check_gst hrec_types_checker_checked (a0 := a0) (a1 := a1) SB37 er35) ?_
  rintro v38 w36 ⟨_, rfl, S2⟩
  replace S := back _ _ _ _ S2 rfl
  clear back S2 SB37
  refine wd (does_assign rfl) (wl_nil (wc_ret ?_))
  refine ⟨_, (rets1 (retOne_tmp rfl)), ?_⟩
  replace S := S.arr [0] []
  obtain rfl := Option.some.inj H
  exact ⟨v38, rfl, S⟩
 replace H := if_f hc21 H
 refine wc_seq (wc_seq (wc_region (wd (does_eq rfl rfl) (wd (does_as_b rfl) (wl_nil ?_)))))
 obtain ⟨o39, e39, Ho39⟩ := bind_ex H
 replace H := e39; clear e39
 refine wc_cutq [75, 77] (fun fr W => fr 75 = .bool o39 ∧ St A N w W [oB b4 T_Term (Term.C (⟨a1.kind, a1.name, a1.other, a1.form, s_1⟩ : Term)), oB b2 T_Checker (Checker.C (⟨a_0⟩ : Checker))] [oT a_0 a0.t, oDTerm s_1 a1.sub, fScope a_2 a2, oEt]) ?_ ?_
 ·refine wc_if rfl (fun hc40 => ?_) (fun hc40 => ?_)
  ·replace H := if_t hc40 H
   refine wc_skip ?_
   obtain rfl := Option.some.inj H
   exact ⟨rfl, (Dif.refl _ _), rfl, S⟩
  ·replace H := if_f hc40 H
   refine wc_region (wd (does_eq rfl rfl) (wd (does_as_b rfl) (wl_nil ?_)))
   obtain rfl := Option.some.inj H
   exact ⟨rfl, (((Dif.refl _ _).upd rfl _).upd rfl _), rfl, S⟩
 rintro g41 u42 ⟨p39_75, S⟩
 have H := Ho39
 refine wc_if p39_75 (fun hc43 => ?_) (fun hc43 => ?_)
 ·replace H := if_t hc43 H
  refine wc_seq (wc_region (wd (does_load_agg ag_Checker rfl ((S.blk 1).all _ (Checker.len _)) (Checker.len _)) (wd (does_mv_i rfl) ?_)))
  obtain ⟨r44, er44, H⟩ := bind_ex H
  obtain ⟨B46, MB46, SB46, back⟩ := S.calln 0 ((.z 0 rfl .nil))
  refine wl_call (does_call ca_types_checker_node) (by decide) (types_checker_node_st (a0 := a0) SB46 er44) ?_
  rintro _ w45 ⟨v47, rfl, S2⟩
  replace S := back _ _ _ _ S2 rfl
  clear back S2 SB46
  refine wd (does_mv_t rfl) (wd (does_extract rfl rfl) (wd (does_extract rfl rfl) ?_))
  refine wl_alloc ze_Nd (by decide) fun b49 w48 hw48 => ?_
  replace S := S.new hw48
  refine wl_store_agg ag_Nd rfl rfl (S.blk 0) (Nd.len _) (by rw [Nd.len]; decide) (Nd.one _) (store_all (Nd.len _)) fun w50 B hw50 zw50 => ?_
  replace S := S.store 0 B hw50
  clear B
  refine wd (does_assign rfl) (wl_nil (wc_seq (wc_seq (wc_region (wd (does_move rfl) (wd (does_neE if_error rfl rfl (S.onO 1)) (wl_nil ?_)))))))
  refine wc_if rfl (fun hc51 => ?_) (fun hc51 => ?_)
  ·replace H := if_t hc51 H
   refine wc_seq (wc_region (wd (does_move rfl) (wd (does_assign rfl) (wl_nil (wc_ret ?_)))))
   refine ⟨_, (rets1 (retOne_tmp rfl)), ?_⟩
   replace S := S.arr [1] []
   obtain rfl := Option.some.inj H
   exact ⟨v47, rfl, S⟩
  replace H := if_f hc51 H
  refine wc_skip (wc_seq (wc_seq (wc_region (wd (does_fieldAddr fl_Term_kind rfl (o' := 0) rfl) (wd (does_load on_api_TermKind rfl ((S.blk 2).cell (Term.get_kind _))) (wd (does_eq rfl rfl) (wl_nil ?_)))))))
  refine wc_if rfl (fun hc52 => ?_) (fun hc52 => ?_)
  ·replace H := if_t hc52 H
   refine wc_seq (wc_region (wd (does_load_agg ag_Checker rfl ((S.blk 3).all _ (Checker.len _)) (Checker.len _)) (wd (does_load_agg ag_Term rfl ((S.blk 2).all _ (Term.len _)) (Term.len _)) (wd (does_mv_p rfl) (wd (does_fieldAddr fl_Nd_l rfl (o' := 2) rfl) (wd (does_load on_int rfl ((S.blk 0).cell (Nd.get_l _))) ?_))))))
   obtain ⟨r53, er53, H⟩ := bind_ex H
   obtain ⟨B55, MB55, SB55, back⟩ := S.calln 0 ((.z 0 rfl (.z 1 rfl (.z 2 rfl (.z 3 rfl .nil)))))
   refine wl_call (does_call ca_types_checker_check) (by decide) (types_checker_check_gst hrec_types_checker_checked (a0 := a0) (a1 := a1) SB55 er53) ?_
   rintro v56 w54 ⟨_, rfl, S2⟩
   replace S := back _ _ _ _ S2 rfl
   clear back S2 SB55
   refine wd (does_assign rfl) (wl_nil (wc_ret ?_))
   refine ⟨_, (rets1 (retOne_tmp rfl)), ?_⟩
   replace S := S.arr [0] []
   obtain rfl := Option.some.inj H
   exact ⟨v56, rfl, S⟩
  replace H := if_f hc52 H
  refine wc_skip (wc_seq (wc_region (wd (does_load_agg ag_Checker rfl ((S.blk 3).all _ (Checker.len _)) (Checker.len _)) (wd (does_load_agg ag_Term rfl ((S.blk 2).all _ (Term.len _)) (Term.len _)) (wd (does_mv_p rfl) (wd (does_fieldAddr fl_Nd_r rfl (o' := 3) rfl) ?_))))))
  refine wd (does_load on_int rfl ((S.blk 0).cell (Nd.get_r _))) ?_
  obtain ⟨r57, er57, H⟩ := bind_ex H
  obtain ⟨B59, MB59, SB59, back⟩ := S.calln 0 ((.z 0 rfl (.z 1 rfl (.z 2 rfl (.z 3 rfl .nil)))))
  refine wl_call (does_call ca_types_checker_check) (by decide) (types_checker_check_gst hrec_types_checker_checked (a0 := a0) (a1 := a1) SB59 er57) ?_
  rintro v60 w58 ⟨_, rfl, S2⟩
  replace S := back _ _ _ _ S2 rfl
  clear back S2 SB59
  refine wd (does_assign rfl) (wl_nil (wc_ret ?_))
  refine ⟨_, (rets1 (retOne_tmp rfl)), ?_⟩
  replace S := S.arr [0] []
  obtain rfl := Option.some.inj H
  exact ⟨v60, rfl, S⟩
 replace H := if_f hc43 H
 refine wc_seq (wc_region (wd (does_eq rfl rfl) (wd (does_as_b rfl) (wl_nil ?_))))
 refine wc_if rfl (fun hc61 => ?_) (fun hc61 => ?_)
 ·replace H := if_t hc61 H
  refine wc_seq (wc_region (wd (does_load_agg ag_Checker rfl ((S.blk 1).all _ (Checker.len _)) (Checker.len _)) (wd (does_load_agg ag_Term rfl ((S.blk 0).all _ (Term.len _)) (Term.len _)) (wd (does_mv_p rfl) ?_))))
  obtain ⟨r62, er62, H⟩ := bind_ex H
  obtain ⟨B64, MB64, SB64, back⟩ := S.calln 0 ((.z 0 rfl (.z 1 rfl (.z 2 rfl (.z 3 rfl .nil)))))
  refine wl_call (does_call ca_types_checker_head) (by decide) (types_checker_head_gst hrec_types_checker_told (a0 := a0) (a1 := a1) SB64 er62) ?_
  rintro _ w63 ⟨v65, rfl, S2⟩
  replace S := back _ _ _ _ S2 rfl
  clear back S2 SB64
  refine wd (does_mv_t rfl) (wd (does_extract rfl rfl) (wd (does_extract rfl rfl) ?_))
  refine wl_alloc ze_Nd (by decide) fun b67 w66 hw66 => ?_
  replace S := S.new hw66
  refine wl_store_agg ag_Nd rfl rfl (S.blk 0) (Nd.len _) (by rw [Nd.len]; decide) (Nd.one _) (store_all (Nd.len _)) fun w68 B hw68 zw68 => ?_
  replace S := S.store 0 B hw68
  clear B
  refine wd (does_assign rfl) (wl_nil (wc_seq (wc_seq (wc_region (wd (does_move rfl) (wd (does_neE if_error rfl rfl (S.onO 1)) (wl_nil ?_)))))))
  refine wc_if rfl (fun hc69 => ?_) (fun hc69 => ?_)
  ·replace H := if_t hc69 H
   refine wc_seq (wc_region (wd (does_move rfl) (wd (does_assign rfl) (wl_nil (wc_ret ?_)))))
   refine ⟨_, (rets1 (retOne_tmp rfl)), ?_⟩
   replace S := S.arr [1] []
   obtain rfl := Option.some.inj H
   exact ⟨v65, rfl, S⟩
  replace H := if_f hc69 H
  refine wc_skip (wc_seq (wc_seq ?_))
  refine wc_semi 9 [7]
   (fun i v u => match i with
   | 7 => ∃ b : Nat, v = Value.pointer (some ⟨b, 0, none⟩) ∧ Blk u b T_Scope (Scope.C ⟨a1.name, r62.1.l, a_2⟩) ∧ w68.heap.size ≤ b
   | _ => True) hmix (by kernel_rfl) (by kernel_rfl) ?_ ?_
  ·intro i v u u' hi hx hv
   match i, hv with
   | 7, ⟨b, e1, hb, hl⟩ => exact ⟨b, e1, hb.ext hx, hl⟩
   | 0, _ => exact trivial
   | 1, _ => exact trivial
   | 2, _ => exact trivial
   | 3, _ => exact trivial
   | 4, _ => exact trivial
   | 5, _ => exact trivial
   | 6, _ => exact trivial
   | _ + 8, _ => exact trivial
  refine wm_does (fun v K => does_load_agg ag_Checker rfl (((S.ext K).blk 3).all _ (Checker.len _)) (Checker.len _)) rfl (wm_does (fun v K => does_load_agg ag_Term rfl (((S.ext K).blk 2).all _ (Term.len _)) (Term.len _)) rfl (wm_does (fun v K => does_mv_p rfl) rfl (wm_does (fun v K => does_fieldAddr fl_Term_name rfl (o' := 1) rfl) rfl (wm_does (fun v K => does_load on_string rfl (((S.ext K).blk 2).cell (Term.get_name _))) rfl (wm_does (fun v K => does_fieldAddr fl_Nd_l rfl (o' := 2) rfl) rfl ?_)))))
  refine wm_does (fun v K => does_load on_int rfl (((S.ext K).blk 0).cell (Nd.get_l _))) rfl ?_
  refine wm_newcall (fun g v K G => ⟨_, _, does_callg ca_types_scope_with (cons2 rfl (cons2 rfl (cons2 rfl rfl))), newc (types_scope_with_ok _ _ _ _) fun _ _ ⟨b, hv, hx, hb, hl⟩ => ⟨hx, b, hv, hb, by have := K.size; omega⟩⟩) rfl (wm_does (fun v K => does_mv_i rfl) rfl ?_)
  refine wm_nil fun g w71 K hV => ?_
  obtain ⟨b70, hv727, hb7, hf7⟩ := hV 7 rfl (by decide)
  replace S := (S.newAt K hb7 hf7).pushScope 0 2
  clear K hV
  obtain ⟨r73, er73, H⟩ := bind_ex H
  obtain ⟨B75, MB75, SB75, back⟩ := S.calln 0 ((.z 1 rfl (.z 2 rfl (.z 0 rfl (.z 4 rfl .nil)))))
  refine wl_call (does_callg ca_types_checker_check (cons2 rfl (cons2 rfl (cons2 rfl (cons2 hv727 (cons2 rfl rfl)))))) (by decide) (types_checker_check_gst hrec_types_checker_checked (a0 := a0) (a1 := a1) SB75 er73) ?_
  rintro v76 w74 ⟨_, rfl, S2⟩
  replace S := back _ _ _ _ S2 rfl
  clear back S2 SB75
  refine wd (does_assign rfl) (wl_nil (wc_seq (wc_region (wd (does_move rfl) (wd (does_neE if_error rfl rfl (S.onO 0)) (wl_nil ?_))))))
  refine wc_if rfl (fun hc77 => ?_) (fun hc77 => ?_)
  ·replace H := if_t hc77 H
   refine wc_seq (wc_region (wd (does_move rfl) (wd (does_assign rfl) (wl_nil (wc_ret ?_)))))
   refine ⟨_, (rets1 (retOne_tmp rfl)), ?_⟩
   replace S := S.arr [0] []
   obtain rfl := Option.some.inj H
   exact ⟨v76, rfl, S⟩
  replace H := if_f hc77 H
  refine wc_skip (wc_seq ?_)
  refine wc_semi 9 [7]
   (fun i v u => match i with
   | 7 => ∃ b : Nat, v = Value.pointer (some ⟨b, 0, none⟩) ∧ Blk u b T_Scope (Scope.C ⟨a1.other, r62.1.r, a_2⟩) ∧ w74.heap.size ≤ b
   | _ => True) hmix (by kernel_rfl) (by kernel_rfl) ?_ ?_
  ·intro i v u u' hi hx hv
   match i, hv with
   | 7, ⟨b, e1, hb, hl⟩ => exact ⟨b, e1, hb.ext hx, hl⟩
   | 0, _ => exact trivial
   | 1, _ => exact trivial
   | 2, _ => exact trivial
   | 3, _ => exact trivial
   | 4, _ => exact trivial
   | 5, _ => exact trivial
   | 6, _ => exact trivial
   | _ + 8, _ => exact trivial
  refine wm_does (fun v K => does_load_agg ag_Checker rfl (((S.ext K).blk 4).all _ (Checker.len _)) (Checker.len _)) rfl (wm_does (fun v K => does_load_agg ag_Term rfl (((S.ext K).blk 3).all _ (Term.len _)) (Term.len _)) rfl (wm_does (fun v K => does_mv_p rfl) rfl (wm_does (fun v K => does_fieldAddr fl_Term_other rfl (o' := 2) rfl) rfl (wm_does (fun v K => does_load on_string rfl (((S.ext K).blk 3).cell (Term.get_other _))) rfl (wm_does (fun v K => does_fieldAddr fl_Nd_r rfl (o' := 3) rfl) rfl ?_)))))
  refine wm_does (fun v K => does_load on_int rfl (((S.ext K).blk 1).cell (Nd.get_r _))) rfl ?_
  refine wm_newcall (fun g v K G => ⟨_, _, does_callg ca_types_scope_with (cons2 rfl (cons2 rfl (cons2 rfl rfl))), newc (types_scope_with_ok _ _ _ _) fun _ _ ⟨b, hv, hx, hb, hl⟩ => ⟨hx, b, hv, hb, by have := K.size; omega⟩⟩) rfl (wm_does (fun v K => does_mv_i rfl) rfl ?_)
  refine wm_nil fun g w79 K hV => ?_
  obtain ⟨b78, hv807, hb7, hf7⟩ := hV 7 rfl (by decide)
  replace S := (S.newAt K hb7 hf7).pushScope 0 3
  clear K hV
  obtain ⟨r81, er81, H⟩ := bind_ex H
  obtain ⟨B83, MB83, SB83, back⟩ := S.calln 0 ((.z 2 rfl (.z 3 rfl (.z 0 rfl (.z 5 rfl .nil)))))
  refine wl_call (does_callg ca_types_checker_check (cons2 rfl (cons2 rfl (cons2 rfl (cons2 hv807 (cons2 rfl rfl)))))) (by decide) (types_checker_check_gst hrec_types_checker_checked (a0 := a0) (a1 := a1) SB83 er81) ?_
  rintro v84 w82 ⟨_, rfl, S2⟩
  replace S := back _ _ _ _ S2 rfl
  clear back S2 SB83
  refine wd (does_assign rfl) (wl_nil (wc_ret ?_))
  refine ⟨_, (rets1 (retOne_tmp rfl)), ?_⟩
  replace S := S.arr [0] []
  obtain rfl := Option.some.inj H
  exact ⟨v84, rfl, S⟩
 replace H := if_f hc61 H
 refine wc_seq (wc_region (wd (does_eq rfl rfl) (wd (does_as_b rfl) (wl_nil ?_))))
 refine wc_if rfl (fun hc85 => ?_) (fun hc85 => ?_)
 ·replace H := if_t hc85 H
  refine wc_seq (wc_region (wd (does_load_agg ag_Checker rfl ((S.blk 1).all _ (Checker.len _)) (Checker.len _)) (wd (does_load_agg ag_Term rfl ((S.blk 0).all _ (Term.len _)) (Term.len _)) (wd (does_mv_p rfl) ?_))))
  obtain ⟨r86, er86, H⟩ := bind_ex H
  obtain ⟨B88, MB88, SB88, back⟩ := S.calln 0 ((.z 0 rfl (.z 1 rfl (.z 2 rfl (.z 3 rfl .nil)))))
  refine wl_call (does_call ca_types_checker_head) (by decide) (types_checker_head_gst hrec_types_checker_told (a0 := a0) (a1 := a1) SB88 er86) ?_
  rintro _ w87 ⟨v89, rfl, S2⟩
  replace S := back _ _ _ _ S2 rfl
  clear back S2 SB88
  refine wd (does_mv_t rfl) (wd (does_extract rfl rfl) (wd (does_extract rfl rfl) ?_))
  refine wl_alloc ze_Nd (by decide) fun b91 w90 hw90 => ?_
  replace S := S.new hw90
  refine wl_store_agg ag_Nd rfl rfl (S.blk 0) (Nd.len _) (by rw [Nd.len]; decide) (Nd.one _) (store_all (Nd.len _)) fun w92 B hw92 zw92 => ?_
  replace S := S.store 0 B hw92
  clear B
  refine wd (does_assign rfl) (wl_nil (wc_seq (wc_region (wd (does_move rfl) (wd (does_assign rfl) (wl_nil (wc_ret ?_)))))))
  refine ⟨_, (rets1 (retOne_tmp rfl)), ?_⟩
  replace S := S.arr [1] []
  obtain rfl := Option.some.inj H
  exact ⟨v89, rfl, S⟩
 replace H := if_f hc85 H
 refine wc_seq (wc_region (wd (does_eq rfl rfl) (wd (does_as_b rfl) (wl_nil ?_))))
 refine wc_if rfl (fun hc93 => ?_) (fun hc93 => ?_)
 ·replace H := if_t hc93 H
  refine wc_seq (wc_region (wd (does_load_agg ag_Checker rfl ((S.blk 1).all _ (Checker.len _)) (Checker.len _)) (wd (does_load_agg ag_Term rfl ((S.blk 0).all _ (Term.len _)) (Term.len _)) (wd (does_mv_p rfl) ?_))))
  obtain ⟨r94, er94, H⟩ := bind_ex H
  obtain ⟨B96, MB96, SB96, back⟩ := S.calln 0 ((.z 0 rfl (.z 1 rfl (.z 2 rfl (.z 3 rfl .nil)))))
  refine wl_call (does_call ca_types_checker_part) (by decide) (types_checker_part_gst hrec_types_checker_told (a0 := a0) (a1 := a1) SB96 er94) ?_
  rintro _ w95 ⟨v97, rfl, S2⟩
  replace S := back _ _ _ _ S2 rfl
  clear back S2 SB96
  refine wd (does_mv_t rfl) (wd (does_extract rfl rfl) (wd (does_extract rfl rfl) (wd (does_as_i rfl) (wd (does_assign rfl) (wl_nil (wc_seq (wc_seq (wc_region ?_))))))))
  refine wd (does_move rfl) (wd (does_neE if_error rfl rfl (S.onO 0)) (wl_nil ?_))
  refine wc_if rfl (fun hc98 => ?_) (fun hc98 => ?_)
  ·replace H := if_t hc98 H
   refine wc_seq (wc_region (wd (does_move rfl) (wd (does_assign rfl) (wl_nil (wc_ret ?_)))))
   refine ⟨_, (rets1 (retOne_tmp rfl)), ?_⟩
   replace S := S.arr [0] []
   obtain rfl := Option.some.inj H
   exact ⟨v97, rfl, S⟩
  replace H := if_f hc98 H
  refine wc_skip (wc_seq ?_)
  refine wc_semi 8 [6]
   (fun i v u => match i with
   | 6 => ∃ b : Nat, v = Value.pointer (some ⟨b, 0, none⟩) ∧ Blk u b T_Scope (Scope.C ⟨a1.name, r94.1, a_2⟩) ∧ w95.heap.size ≤ b
   | _ => True) hmix (by kernel_rfl) (by kernel_rfl) ?_ ?_
  ·intro i v u u' hi hx hv
   match i, hv with
   | 6, ⟨b, e1, hb, hl⟩ => exact ⟨b, e1, hb.ext hx, hl⟩
   | 0, _ => exact trivial
   | 1, _ => exact trivial
   | 2, _ => exact trivial
   | 3, _ => exact trivial
   | 4, _ => exact trivial
   | 5, _ => exact trivial
   | _ + 7, _ => exact trivial
  refine wm_does (fun v K => does_load_agg ag_Checker rfl (((S.ext K).blk 2).all _ (Checker.len _)) (Checker.len _)) rfl (wm_does (fun v K => does_load_agg ag_Term rfl (((S.ext K).blk 1).all _ (Term.len _)) (Term.len _)) rfl (wm_does (fun v K => does_mv_p rfl) rfl (wm_does (fun v K => does_fieldAddr fl_Term_name rfl (o' := 1) rfl) rfl (wm_does (fun v K => does_load on_string rfl (((S.ext K).blk 1).cell (Term.get_name _))) rfl (wm_does (fun v K => does_mv_i rfl) rfl ?_)))))
  refine wm_newcall (fun g v K G => ⟨_, _, does_callg ca_types_scope_with (cons2 rfl (cons2 rfl (cons2 rfl rfl))), newc (types_scope_with_ok _ _ _ _) fun _ _ ⟨b, hv, hx, hb, hl⟩ => ⟨hx, b, hv, hb, by have := K.size; omega⟩⟩) rfl (wm_does (fun v K => does_mv_i rfl) rfl ?_)
  refine wm_nil fun g w100 K hV => ?_
  obtain ⟨b99, hv1016, hb6, hf6⟩ := hV 6 rfl (by decide)
  replace S := (S.newAt K hb6 hf6).pushScope 0 2
  clear K hV
  obtain ⟨r102, er102, H⟩ := bind_ex H
  obtain ⟨B104, MB104, SB104, back⟩ := S.calln 0 ((.z 1 rfl (.z 2 rfl (.z 0 rfl (.z 4 rfl .nil)))))
  refine wl_call (does_callg ca_types_checker_check (cons2 rfl (cons2 rfl (cons2 rfl (cons2 hv1016 (cons2 rfl rfl)))))) (by decide) (types_checker_check_gst hrec_types_checker_checked (a0 := a0) (a1 := a1) SB104 er102) ?_
  rintro v105 w103 ⟨_, rfl, S2⟩
  replace S := back _ _ _ _ S2 rfl
  clear back S2 SB104
  refine wd (does_assign rfl) (wl_nil (wc_ret ?_))
  refine ⟨_, (rets1 (retOne_tmp rfl)), ?_⟩
  replace S := S.arr [0] []
  obtain rfl := Option.some.inj H
  exact ⟨v105, rfl, S⟩
 replace H := if_f hc93 H
 refine wc_skip (wc_seq (wc_region (wd (does_load_agg ag_Checker rfl ((S.blk 1).all _ (Checker.len _)) (Checker.len _)) (wd (does_load_agg ag_Term rfl ((S.blk 0).all _ (Term.len _)) (Term.len _)) (wd (does_mv_p rfl) ?_)))))
 obtain ⟨r106, er106, H⟩ := bind_ex H
 obtain ⟨B108, MB108, SB108, back⟩ := S.calln 0 ((.z 0 rfl (.z 1 rfl (.z 2 rfl (.z 3 rfl .nil)))))
 refine wl_call (does_call ca_types_checker_told) (by decide) (hrec_types_checker_told (a0 := a0) (a1 := a1) SB108 er106) ?_
 rintro _ w107 ⟨v109, rfl, S2⟩
 replace S := back _ _ _ _ S2 rfl
 clear back S2 SB108
 refine wd (does_mv_t rfl) (wd (does_extract rfl rfl) (wd (does_extract rfl rfl) (wd (does_as_i rfl) (wd (does_assign rfl) (wl_nil (wc_seq (wc_seq (wc_region ?_))))))))
 refine wd (does_move rfl) (wd (does_eqE if_error rfl rfl (S.onO 0)) (wd (does_mv_b rfl) ?_))
 refine wg (fun hg => does_mv_i rfl) ?_
 refine wg (fun hg => does_mv_i rfl) ?_
 refine wg (fun hg => does_ne (gv_yes hg) (gv_yes hg)) (wd (does_and rfl (fun hp => (gv_yes (and_1 hp)))) (wl_nil ?_))
 refine wc_if rfl (fun hc110 => ?_) (fun hc110 => ?_)
 ·replace H := if_t hc110 H
  refine wc_region (wd (Does.to (v' := .agg (Refusal.C (⟨130, SlV.nil⟩ : Refusal)).toArray) (does_buildv (vs := [(0, .int .i64 130)]) bu_Refusal (consP rfl rfl) (Bld.one rfl rfl (by rw [Refusal.len]; decide) (Refusal.set_code _ _) Bld.nil)) rfl) ?_)
  refine wl_box_agg rfl (by decide) fun b112 w111 hw111 => ?_
  replace S := S.new hw111
  refine wd (does_makeInterface rfl) ?_
  replace S := ((S.nil T_int 1 IC).front 1).mkE
  refine wd (does_assign rfl) (wl_nil (wc_seq (wc_region (wd (does_move rfl) (wd (does_assign rfl) (wl_nil (wc_ret ?_)))))))
  refine ⟨_, (rets1 (retOne_tmp rfl)), ?_⟩
  replace S := S.arr [0] []
  obtain rfl := Option.some.inj H
  exact ⟨(.iface T_P_Refusal (.pointer (some ⟨b112, 0, none⟩))), rfl, S⟩
 ·replace H := if_f hc110 H
  refine wc_skip (wc_seq (wc_region (wd (does_move rfl) (wd (does_assign rfl) (wl_nil (wc_ret ?_))))))
  refine ⟨_, (rets1 (retOne_tmp rfl)), ?_⟩
  replace S := S.arr [0] []
  obtain rfl := Option.some.inj H
  exact ⟨v109, rfl, S⟩
theorem types_tc_both : ∀ (k : Nat), (∀ {A : Nat → Prop} {N : Oth} {w : World} {a0 : PChecker} {a_0 : Option Addr} {a1 : PTerm} {s_1 : SlV} {a2 : List (ByteArray × Int)} {a_2 : Option Addr} (S : St A N w w [] [oT a_0 a0.t, oDTerm s_1 a1.sub, fScope a_2 a2, oEt]) {r : Int × (Option (Int × List Int))} (H : types_checker_told.f k a0 a1 a2 = some r), Calls PP F_types_checker_told #[.agg (Checker.C (⟨a_0⟩ : Checker)).toArray, .agg (Term.C (⟨a1.kind, a1.name, a1.other, a1.form, s_1⟩ : Term)).toArray, .pointer a_2] w fun e w' => ∃ v, e = .returned v ∧ (∃ vo0 : Value, v = .tuple #[.int .i64 r.1, vo0] ∧ St A N w w' [oE vo0 r.2] [])) ∧ (∀ {A : Nat → Prop} {N : Oth} {w : World} {a0 : PChecker} {a_0 : Option Addr} {a1 : PTerm} {s_1 : SlV} {a2 : List (ByteArray × Int)} {a_2 : Option Addr} {a3 : Int} (S : St A N w w [] [oT a_0 a0.t, oDTerm s_1 a1.sub, fScope a_2 a2, oEt]) {r : (Option (Int × List Int))} (H : types_checker_checked.f k a0 a1 a2 a3 = some r), Calls PP F_types_checker_checked #[.agg (Checker.C (⟨a_0⟩ : Checker)).toArray, .agg (Term.C (⟨a1.kind, a1.name, a1.other, a1.form, s_1⟩ : Term)).toArray, .pointer a_2, .int .i64 a3] w fun e w' => ∃ v, e = .returned v ∧ (∃ vo0 : Value, v = vo0 ∧ St A N w w' [oE vo0 r] [])) := by
 intro k
 induction k with
 | zero =>
  refine ⟨?_, ?_⟩
  ·intro A N w a0 a_0 a1 s_1 a2 a_2 S r H; cases H
  ·intro A N w a0 a_0 a1 s_1 a2 a_2 a3 S r H; cases H
 | succ k ih =>
  refine ⟨?_, ?_⟩
  ·intro A N w a0 a_0 a1 s_1 a2 a_2 S r H; exact types_checker_told_gst ih.1 ih.2 S H
  ·intro A N w a0 a_0 a1 s_1 a2 a_2 a3 S r H; exact types_checker_checked_gst ih.1 ih.2 S H
theorem types_checker_told_st {A : Nat → Prop} {N : Oth} {w : World} {a0 : PChecker} {a_0 : Option Addr} {a1 : PTerm} {s_1 : SlV} {a2 : List (ByteArray × Int)} {a_2 : Option Addr} (S : St A N w w [] [oT a_0 a0.t, oDTerm s_1 a1.sub, fScope a_2 a2, oEt]) {k : Nat} {r : Int × (Option (Int × List Int))} (H : types_checker_told.f k a0 a1 a2 = some r) :
  Calls PP F_types_checker_told #[.agg (Checker.C (⟨a_0⟩ : Checker)).toArray, .agg (Term.C (⟨a1.kind, a1.name, a1.other, a1.form, s_1⟩ : Term)).toArray, .pointer a_2] w fun e w' => ∃ v, e = .returned v ∧ (∃ vo0 : Value, v = .tuple #[.int .i64 r.1, vo0] ∧ St A N w w' [oE vo0 r.2] []) := by exact (types_tc_both k).1 S H
theorem types_checker_checked_st {A : Nat → Prop} {N : Oth} {w : World} {a0 : PChecker} {a_0 : Option Addr} {a1 : PTerm} {s_1 : SlV} {a2 : List (ByteArray × Int)} {a_2 : Option Addr} {a3 : Int} (S : St A N w w [] [oT a_0 a0.t, oDTerm s_1 a1.sub, fScope a_2 a2, oEt]) {k : Nat} {r : (Option (Int × List Int))} (H : types_checker_checked.f k a0 a1 a2 a3 = some r) :
  Calls PP F_types_checker_checked #[.agg (Checker.C (⟨a_0⟩ : Checker)).toArray, .agg (Term.C (⟨a1.kind, a1.name, a1.other, a1.form, s_1⟩ : Term)).toArray, .pointer a_2, .int .i64 a3] w fun e w' => ∃ v, e = .returned v ∧ (∃ vo0 : Value, v = vo0 ∧ St A N w w' [oE vo0 r] []) := by exact (types_tc_both k).2 S H
theorem types_ahead_st {A : Nat → Prop} {N : Oth} {w : World} {a0 : Tb} {a_0 : Option Addr} {a1 : List Hyp} {s_1 : SlV} {a2 : PTerm} {s_2 : SlV} {a3 : List Int} {s_3 : SlV} (S : St A N w w [oS T_int 1 IC s_3 a3] [oT a_0 a0, fS 2 Hyp.C s_1 a1, oDTerm s_2 a2.sub]) {k : Nat} {r : (List (ByteArray × Int)) × Int} (H : types_ahead.f k a0 a1 a2 a3 = some r) :
  Calls PP F_types_ahead #[.pointer a_0, s_1.v, .agg (Term.C (⟨a2.kind, a2.name, a2.other, a2.form, s_2⟩ : Term)).toArray, s_3.v] w fun e w' => ∃ v, e = .returned v ∧ (∃ ao0 : Option Addr, v = .tuple #[.pointer ao0, .int .i64 r.2] ∧ St A N w w' [] [fScope ao0 r.1]) := by
 unfold types_ahead.f at H
 refine calls_of_wc (n := 63) fn_types_ahead rfl rfl (by simp) (wc_seq (wc_region ?_))
 refine wl_box_agg rfl (by decide) fun b2 w1 hw1 => ?_
 replace S := S.new hw1
 refine wd (does_as_p rfl) ?_
 replace S := S.nil_fScopeZ
 refine wd (does_as_i rfl) (wl_nil (wc_seq (wc_seq (wc_region (wd (does_mv_p rfl) ?_)))))
 obtain ⟨r3, er3, H⟩ := bind_ex H
 obtain ⟨B5, MB5, SB5, back⟩ := S.calln 0 ((.z 1 rfl .nil))
 refine wl_call (does_call ca_formula_Table_Not) (by decide) (formula_Table_Not_neg_st SB5 rfl er3) ?_
 rintro _ w4 ⟨rfl, S2⟩
 replace S := back _ _ _ _ S2 rfl
 clear back S2 SB5
 refine wd (does_mv_t rfl) (wd (does_extract rfl rfl) (wd (does_extract rfl rfl) (wd (does_as_i rfl) (wd (does_as_i rfl) (wl_nil (wc_seq (wc_region ?_)))))))
 refine wd (does_mv_i rfl) (wd (does_eq rfl rfl) (wl_nil ?_))
 refine wc_if rfl (fun hc6 => ?_) (fun hc6 => ?_)
 ·replace H := if_t hc6 H
  refine wc_seq (wc_region (wd (does_mv_i rfl) (wd (does_as_p rfl) ?_)))
  replace S := S.nil_fScopeZ
  refine wd (does_as_i rfl) (wl_nil (wc_ret ?_))
  refine ⟨_, (rets2 (retOne_tmp rfl) (retOne_tmp rfl)), ?_⟩
  replace S := S.arr [] [0]
  obtain rfl := Option.some.inj H
  exact ⟨none, rfl, S⟩
 replace H := if_f hc6 H
 refine wc_skip (wc_seq (wc_region (wd (does_as_p rfl) ?_)))
 replace S := S.nil_fScopeZ
 refine wl_nil (wc_seq (wc_seq (wc_region (wd (does_mv_l rfl) (wd (does_lenR sl_L_api_Hyp rfl (S.rd 3)) (wd (does_mv_i rfl) (wl_nil ?_)))))))
 obtain ⟨o7, e7, Ho7⟩ := bind_ex H
 clear H
 refine wc_cutq [3, 12, 14, 29, 30, 31, 32, 33, 34, 35, 36, 37, 38, 39, 40, 41, 42, 43, 44] (fun fr W => ∃ s8 : SlV, ∃ a9 : Option Addr, fr 3 = s8.v ∧ fr 12 = .pointer a9 ∧ St A N w W [oB b2 T_Term (Term.C (⟨a2.kind, a2.name, a2.other, a2.form, s_2⟩ : Term)), oS T_int 1 IC s8 o7.1] [fScope a9 o7.2, fScope none ([] : List (ByteArray × Int)), oT a_0 a0, fS 2 Hyp.C s_1 a1, oDTerm s_2 a2.sub]) ?_ ?_
 ·refine wc_block ?_
  refine wc_loopm (α := Nat × Int × (List Int × (List (ByteArray × Int)))) [3, 12, 14, 29, 30, 31, 32, 33, 34, 35, 36, 37, 38, 39, 40, 41, 42, 43, 44] (fun x fr W => (x.1 : Int) = (a1.length : Int) - x.2.1 ∧ 0 ≤ x.2.1 ∧ forS (fun i s => types_ahead.b0 a1 i s.1 s.2) x.1 x.2.1 x.2.2 = some o7 ∧ ∃ s10 : SlV, ∃ a11 : Option Addr, fr 29 = .int .i64 x.2.1 ∧ fr 3 = s10.v ∧ fr 12 = .pointer a11 ∧ St A N w W [oB b2 T_Term (Term.C (⟨a2.kind, a2.name, a2.other, a2.form, s_2⟩ : Term)), oS T_int 1 IC s10 (x.2.2.1)] [fScope a11 (x.2.2.2), fScope none ([] : List (ByteArray × Int)), oT a_0 a0, fS 2 Hyp.C s_1 a1, oDTerm s_2 a2.sub]) (fun x => x.1) (((a1.length : Int) - 0).toNat, 0, (a3, ([] : List (ByteArray × Int)))) ⟨(by dsimp only; have hle := Int.natCast_nonneg (a1.length); omega), (Int.le_refl _), (by dsimp only; exact e7), s_3, none, rfl, rfl, rfl, S⟩ ?_
  rintro ⟨m7, i7, ⟨x7_0, x7_1⟩⟩ g7 u7 ⟨hm7, hl7, e7, s12, a13, q7_i, q7_3, q7_12, S⟩
  try dsimp only at hm7
  try dsimp only at hl7
  try dsimp only at e7
  try dsimp only at S
  try dsimp only at q7_i
  try dsimp only at q7_3
  try dsimp only at q7_12
  refine wc_seq (wc_region (wd (does_lt q7_i rfl) (wl_nil (wc_seq ?_))))
  refine wc_if rfl (fun hc14 => ?_) (fun hc14 => ?_)
  rotate_left
  ·refine wc_exit ?_
   have hge : (a1.length : Int) ≤ i7 := Int.not_lt.1 (of_decide_eq_false hc14)
   obtain rfl : m7 = 0 := by omega
   replace e7 := forS_0 e7
   obtain rfl := e7
   exact ⟨rfl, ((Dif.self _ _ _).upd rfl _), s12, a13, q7_3, q7_12, S⟩
  refine wc_skip ?_
  have hlt7 : i7 < (a1.length : Int) := of_decide_eq_true hc14
  obtain ⟨m7, rfl⟩ : ∃ m, m7 = m + 1 := ⟨m7 - 1, by omega⟩
  obtain ⟨q7, H, e7⟩ := forS_s e7
  unfold types_ahead.b0 at H
  try dsimp only at H
  have hb7 := (S.len 3)
  refine wc_seq ?_
  refine wc_block (wc_seq (wc_region (wd (does_indexR sl_L_api_Hyp rfl q7_i (S.rd 3) (And.intro (show 0 ≤ i7 by omega) (show i7 < (a1.length : Int) from hlt7)).1 (And.intro (show 0 ≤ i7 by omega) (show i7 < (a1.length : Int) from hlt7)).2) (wd (does_load_agg ag_Hyp rfl ((S.rd 3).at (at_some Hyp.z (And.intro (show 0 ≤ i7 by omega) (show i7 < (a1.length : Int) from hlt7)))) (Hyp.len _)) ?_))))
  refine wl_alloc ze_Hyp (by decide) fun b17 w16 hw16 => ?_
  replace S := S.new hw16
  refine wl_store_agg ag_Hyp rfl rfl (S.blk 0) (Hyp.len _) (by rw [Hyp.len]; decide) (Hyp.one _) (store_all (Hyp.len _)) fun w18 B hw18 zw18 => ?_
  replace S := S.store 0 B hw18
  clear B
  refine wl_nil (wc_seq (wc_region (wd (does_mv_l q7_3) (wd (does_fieldAddr fl_Hyp_form rfl (o' := 1) rfl) (wd (does_load on_int rfl ((S.blk 0).cell (Hyp.get_form _))) ?_)))))
  refine wl_lits (C := IC) (l := [(at_ Hyp.z a1 i7).form]) (vs := [.int .i64 ((at_ Hyp.z a1 i7).form)]) sl_L_int el_int.zero rfl rfl (fun _ _ => rfl) (by decide) rfl (by decide) fun b20 w19 s21 hBw19 hw19 => ?_
  replace S := S.lit hBw19 hw19 (by simp)
  obtain ⟨ha24, H⟩ := chk_ex H
  have ha24 := of_decide_eq_true ha24
  refine wl_appends (C := IC) sl_L_int el_int rfl rfl (S.sl 3) (S.rdO 0) (by simp) (fun a _ v hv => by rw [List.mem_singleton.1 hv]; rfl) ha24 (by omega) (by decide) fun s23 w22 O hw22 gw22 => ?_
  replace S := S.push 3 O (by first | (simp; done) | (simp; omega)) hw22 gw22
  clear O
  refine wd (does_as_l rfl) (wl_nil (wc_region (wd (does_mv_p q7_12) (wd (does_fieldAddr fl_Hyp_name rfl (o' := 0) rfl) (wd (does_load on_string rfl ((S.blk 2).cell (Hyp.get_name _))) ?_)))))
  refine wd (does_fieldAddr fl_Hyp_form rfl (o' := 1) rfl) (wd (does_load on_int rfl ((S.blk 2).cell (Hyp.get_form _))) ?_)
  obtain ⟨r25, er25, H⟩ := bind_ex H
  obtain ⟨B27, MB27, SB27, back⟩ := S.sub [0] [] [oS T_int 1 IC s23 (x7_0 ++ [(at_ Hyp.z a1 i7).form]), oS T_int 1 IC s21 ([(at_ Hyp.z a1 i7).form]), oB b17 T_Hyp (Hyp.C (at_ Hyp.z a1 i7)), oB b2 T_Term (Term.C (⟨a2.kind, a2.name, a2.other, a2.form, s_2⟩ : Term))]
  refine wl_call (does_call ca_types_scope_with) (by decide) (types_scope_with_st SB27 er25) ?_
  rintro _ w26 ⟨a28, rfl, S2⟩
  replace S := back _ _ _ _ _ S2 rfl rfl
  clear back S2 SB27
  refine wd (does_as_p rfl) (wl_nil (wc_region (wd (does_addc q7_i rfl (c := i7 + 1) rfl (by omega) (by omega)) (wd (does_mv_i rfl) (wl_nil ?_)))))
  replace S := S.arr [3, 0] [0, 2, 3, 4, 5]
  obtain rfl := Option.some.inj H
  exact ⟨rfl, ((((((((((((((((((((Dif.self _ _ _).upd rfl _).upd rfl _).upd rfl _).upd rfl _).upd rfl _).upd rfl _).upd rfl _).upd rfl _).upd rfl _).upd rfl _).upd rfl _).upd rfl _).upd rfl _).upd rfl _).upd rfl _).upd rfl _).upd rfl _).upd rfl _).upd rfl _), (m7, i7 + 1, (x7_0 ++ [(at_ Hyp.z a1 i7).form], r25)), ⟨(by dsimp only; omega), (by dsimp only; omega), e7, s23, a28, rfl, rfl, rfl, S⟩, by dsimp only; omega⟩
 rintro g29 u30 ⟨s8, a9, p7_3, p7_12, S⟩
 have H := Ho7
 refine wc_seq (wc_seq (wc_region (wd (does_mv_l p7_3) (wd (does_lenR sl_L_int rfl (S.rdO 1)) (wd (does_mv_i rfl) (wl_nil ?_))))))
 obtain ⟨o31, e31, Ho31⟩ := bind_ex H
 clear H
 refine wc_cutq [8, 9, 16, 17, 18, 47, 48, 49, 50, 51, 52, 53, 54, 55, 56, 57, 58, 59] (fun fr W => ∃ s31 : Unit, o31 = .inl s31 ∧ St A N w W [oB b2 T_Term (Term.C (⟨a2.kind, a2.name, a2.other, a2.form, s_2⟩ : Term)), oS T_int 1 IC s8 o7.1] [fScope a9 o7.2, fScope none ([] : List (ByteArray × Int)), oT a_0 a0, fS 2 Hyp.C s_1 a1, oDTerm s_2 a2.sub]) ?_ ?_
 ·refine wc_block ?_
  refine wc_loopm (α := Nat × Int × Unit) [8, 9, 16, 17, 18, 47, 48, 49, 50, 51, 52, 53, 54, 55, 56, 57, 58, 59] (fun x fr W => (x.1 : Int) = (o7.1.length : Int) - x.2.1 ∧ 0 ≤ x.2.1 ∧ forN (fun i s => types_ahead.b1 a0 o7 i) x.1 x.2.1 x.2.2 = some o31 ∧ fr 47 = .int .i64 x.2.1 ∧ St A N w W [oB b2 T_Term (Term.C (⟨a2.kind, a2.name, a2.other, a2.form, s_2⟩ : Term)), oS T_int 1 IC s8 o7.1] [fScope a9 o7.2, fScope none ([] : List (ByteArray × Int)), oT a_0 a0, fS 2 Hyp.C s_1 a1, oDTerm s_2 a2.sub]) (fun x => x.1) (((o7.1.length : Int) - 0).toNat, 0, ()) ⟨(by dsimp only; have hle := Int.natCast_nonneg (o7.1.length); omega), (Int.le_refl _), (by dsimp only; exact e31), rfl, S⟩ ?_
  rintro ⟨m31, i31, _⟩ g31 u31 ⟨hm31, hl31, e31, q31_i, S⟩
  try dsimp only at hm31
  try dsimp only at hl31
  try dsimp only at e31
  try dsimp only at S
  try dsimp only at q31_i
  refine wc_seq (wc_region (wd (does_lt q31_i rfl) (wl_nil (wc_seq ?_))))
  refine wc_if rfl (fun hc32 => ?_) (fun hc32 => ?_)
  rotate_left
  ·refine wc_exit ?_
   have hge : (o7.1.length : Int) ≤ i31 := Int.not_lt.1 (of_decide_eq_false hc32)
   obtain rfl : m31 = 0 := by omega
   replace e31 := forN_0 e31
   exact ⟨rfl, ((Dif.self _ _ _).upd rfl _), (), e31, S⟩
  refine wc_skip ?_
  have hlt31 : i31 < (o7.1.length : Int) := of_decide_eq_true hc32
  obtain ⟨m31, rfl⟩ : ∃ m, m31 = m + 1 := ⟨m31 - 1, by omega⟩
  obtain ⟨q31, H, e31⟩ := forN_s e31
  unfold types_ahead.b1 at H
  try dsimp only at H
  have hb31 := (S.lenO 1)
  refine wc_seq ?_
  refine wc_block (wc_seq (wc_region (wd (does_indexR sl_L_int rfl q31_i (S.rdO 1) (And.intro (show 0 ≤ i31 by omega) (show i31 < (o7.1.length : Int) from hlt31)).1 (And.intro (show 0 ≤ i31 by omega) (show i31 < (o7.1.length : Int) from hlt31)).2) (wd (does_load on_int rfl ((S.rdO 1).one (at_some (0 : Int) (And.intro (show 0 ≤ i31 by omega) (show i31 < (o7.1.length : Int) from hlt31))) rfl)) (wd (does_as_i rfl) (wl_nil (wc_seq (wc_region ?_))))))))
  refine wd (does_mv_p rfl) (wd (does_mv_i rfl) ?_)
  obtain ⟨r34, er34, H⟩ := bind_ex H
  obtain ⟨B36, MB36, SB36, back⟩ := S.calln 0 ((.z 2 rfl .nil))
  refine wl_call (does_call ca_formula_Table_Node) (by decide) (formula_Table_Node_st SB36 er34) ?_
  rintro _ w35 ⟨rfl, S2⟩
  replace S := back _ _ _ _ S2 rfl
  clear back S2 SB36
  refine wd (does_mv_t rfl) (wd (does_extract rfl rfl) (wd (does_extract rfl rfl) ?_))
  refine wl_alloc ze_Nd (by decide) fun b38 w37 hw37 => ?_
  replace S := S.new hw37
  refine wl_store_agg ag_Nd rfl rfl (S.blk 0) (Nd.len _) (by rw [Nd.len]; decide) (Nd.one _) (store_all (Nd.len _)) fun w39 B hw39 zw39 => ?_
  replace S := S.store 0 B hw39
  clear B
  refine wd (does_as_b rfl) (wl_nil (wc_seq (wc_region (wd (does_mv_b rfl) (wd (does_not rfl) (wl_nil ?_))))))
  refine wc_if rfl (fun hc40 => ?_) (fun hc40 => ?_)
  ·replace H := if_t hc40 H
   refine wc_seq (wc_region (wd (does_as_p rfl) ?_))
   replace S := S.nil_fScopeZ
   refine wd (does_as_i rfl) (wl_nil (wc_ret ?_))
   refine ⟨_, (rets2 (retOne_tmp rfl) (retOne_tmp rfl)), ?_⟩
   replace S := S.arr [] [0]
   obtain rfl := Option.some.inj H
   obtain rfl := e31
   obtain rfl := aft_r Ho31
   exact ⟨none, rfl, S⟩
  replace H := if_f hc40 H
  refine wc_skip (wc_region (wd (does_addc q31_i rfl (c := i31 + 1) rfl (by omega) (by omega)) (wd (does_mv_i rfl) (wl_nil ?_))))
  replace S := S.arr [1, 2] [0, 1, 2, 3, 4]
  obtain rfl := Option.some.inj H
  exact ⟨rfl, (((((((((((((((((Dif.self _ _ _).upd rfl _).upd rfl _).upd rfl _).upd rfl _).upd rfl _).upd rfl _).upd rfl _).upd rfl _).upd rfl _).upd rfl _).upd rfl _).upd rfl _).upd rfl _).upd rfl _).upd rfl _).upd rfl _), (m31, i31 + 1, ()), ⟨(by dsimp only; omega), (by dsimp only; omega), e31, rfl, S⟩, by dsimp only; omega⟩
 rintro g41 u42 ⟨s31, rfl, S⟩
 have H := Ho31
 dsimp only [aft] at H
 refine wc_seq (wc_region (wd (does_mv_p p7_12) (wd (does_load_agg ag_Term rfl ((S.blk 0).all _ (Term.len _)) (Term.len _)) ?_)))
 obtain ⟨r43, er43, H⟩ := bind_ex H
 obtain ⟨B45, MB45, SB45, back⟩ := S.calln 0 ((.z 4 rfl .nil))
 refine wl_call (does_call ca_term_Check) (by decide) (term_Check_st (a0 := a2) SB45 er43) ?_
 rintro _ w44 ⟨rfl, S2⟩
 replace S := back _ _ _ _ S2 rfl
 clear back S2 SB45
 refine wd (does_as_p rfl) (wd (does_as_i rfl) (wl_nil (wc_ret ?_)))
 refine ⟨_, (rets2 (retOne_tmp rfl) (retOne_tmp rfl)), ?_⟩
 replace S := S.arr [] [0]
 obtain rfl := Option.some.inj H
 exact ⟨a9, rfl, S⟩
theorem types_Where_st {A : Nat → Prop} {N : Oth} {w : World} {a0 : Tb} {a_0 : Option Addr} {a1 : List Hyp} {s_1 : SlV} {a2 : PTerm} {s_2 : SlV} {a3 : Int} (S : St A N w w [] [oT a_0 a0, fS 2 Hyp.C s_1 a1, oDTerm s_2 a2.sub, oEt]) {k : Nat} {r : List Int × Int} (H : types_Where.f k a0 a1 a2 a3 = some r) :
  Calls PP F_types_Where #[.pointer a_0, s_1.v, .agg (Term.C (⟨a2.kind, a2.name, a2.other, a2.form, s_2⟩ : Term)).toArray, .int .i64 a3] w fun e w' => ∃ v, e = .returned v ∧ (∃ so0 : SlV, v = .tuple #[so0.v, .int .i64 r.2] ∧ St A N w w' [oS T_int 1 IC so0 r.1] []) := by
 unfold types_Where.f at H
 refine calls_of_wc (n := 33) fn_types_Where rfl rfl (by simp) (wc_seq (wc_region ?_))
 refine wl_box_agg rfl (by decide) fun b2 w1 hw1 => ?_
 replace S := S.new hw1
 refine wd (does_as_nil) (wd (does_as_i rfl) (wl_nil (wc_seq (wc_region (wd (does_mv_p rfl) (wd (does_mv_l rfl) ?_))))))
 refine wd (does_load_agg ag_Term rfl ((S.blk 0).all _ (Term.len _)) (Term.len _)) (wd (does_mv_i rfl) ?_)
 refine wl_lits (C := IC) (l := [a3]) (vs := [.int .i64 a3]) sl_L_int el_int.zero rfl rfl (fun _ _ => rfl) (by decide) rfl (by decide) fun b4 w3 s5 hBw3 hw3 => ?_
 replace S := S.lit hBw3 hw3 (by simp)
 obtain ⟨r6, er6, H⟩ := bind_ex H
 obtain ⟨B8, MB8, SB8, back⟩ := S.sub [0, 1, 2] [oS T_int 1 IC s5 ([a3])] [oB b2 T_Term (Term.C (⟨a2.kind, a2.name, a2.other, a2.form, s_2⟩ : Term))]
 refine wl_call (does_call ca_types_ahead) (by decide) (types_ahead_st (a2 := a2) SB8 er6) ?_
 rintro _ w7 ⟨a9, rfl, S2⟩
 replace S := back _ _ _ _ _ S2 rfl rfl
 clear back S2 SB8
 refine wd (does_mv_t rfl) (wd (does_extract rfl rfl) (wd (does_extract rfl rfl) (wd (does_as_p rfl) (wd (does_as_i rfl) (wl_nil (wc_seq (wc_seq (wc_region ?_))))))))
 refine wd (does_mv_i rfl) (wd (does_ne rfl rfl) (wl_nil ?_))
 refine wc_if rfl (fun hc10 => ?_) (fun hc10 => ?_)
 ·replace H := if_t hc10 H
  refine wc_seq (wc_region (wd (does_mv_i rfl) (wd (does_as_nil) (wd (does_as_i rfl) (wl_nil (wc_ret ?_))))))
  replace S := S.nil T_int 1 IC
  refine ⟨_, (rets2 (retOne_tmp rfl) (retOne_tmp rfl)), ?_⟩
  replace S := S.arr [0] []
  obtain rfl := Option.some.inj H
  exact ⟨SlV.nil, rfl, S⟩
 replace H := if_f hc10 H
 refine wc_skip (wc_seq (wc_region (wd (does_mv_p rfl) (wd (Does.to (v' := .agg (Checker.C (⟨a_0⟩ : Checker)).toArray) (does_buildv (vs := [(0, .pointer a_0)]) bu_Checker (consP rfl rfl) (Bld.one rfl rfl (by rw [Checker.len]; decide) (Checker.set_t _ _) Bld.nil)) rfl) (wd (does_load_agg ag_Term rfl ((S.blk 0).all _ (Term.len _)) (Term.len _)) (wd (does_mv_p rfl) ?_))))))
 refine wd (does_mv_i rfl) ?_
 obtain ⟨r11, er11, H⟩ := bind_ex H
 obtain ⟨B13, MB13, SB13, back⟩ := S.calln 0 ((.z 1 rfl (.z 3 rfl (.z 0 rfl (.z 4 rfl .nil)))))
 refine wl_call (does_call ca_types_checker_checked) (by decide) (types_checker_checked_st (a0 := (⟨a0⟩ : PChecker)) (a1 := a2) SB13 er11) ?_
 rintro v14 w12 ⟨_, rfl, S2⟩
 replace S := back _ _ _ _ S2 rfl
 clear back S2 SB13
 obtain ⟨r15, er15, H⟩ := bind_ex H
 obtain ⟨B17, MB17, SB17, back⟩ := S.calln 1 ((.z 4 rfl .nil))
 refine wl_call (does_call ca_types_code) (by decide) (types_code_st (a0 := r11) SB17 er15) ?_
 rintro _ w16 ⟨s18, rfl, S2⟩
 replace S := back _ _ _ _ S2 rfl
 clear back S2 SB17
 refine wd (does_extract rfl rfl) (wd (does_extract rfl rfl) (wd (does_as_l rfl) (wd (does_as_i rfl) (wl_nil (wc_ret ?_)))))
 refine ⟨_, (rets2 (retOne_tmp rfl) (retOne_tmp rfl)), ?_⟩
 replace S := S.arr [0] []
 obtain rfl := Option.some.inj H
 exact ⟨s18, rfl, S⟩
theorem types_Check_st {A : Nat → Prop} {N : Oth} {w : World} {a0 : Tb} {a_0 : Option Addr} {a1 : List Hyp} {s_1 : SlV} {a2 : PTerm} {s_2 : SlV} {a3 : Int} (S : St A N w w [] [oT a_0 a0, fS 2 Hyp.C s_1 a1, oDTerm s_2 a2.sub, oEt]) {k : Nat} {r : Int} (H : types_Check.f k a0 a1 a2 a3 = some r) :
  Calls PP F_types_Check #[.pointer a_0, s_1.v, .agg (Term.C (⟨a2.kind, a2.name, a2.other, a2.form, s_2⟩ : Term)).toArray, .int .i64 a3] w fun e w' => ∃ v, e = .returned v ∧ (v = .int .i64 r ∧ St A N w w' [] []) := by
 unfold types_Check.f at H
 refine calls_of_wc (n := 20) fn_types_Check rfl rfl (by simp) (wc_seq (wc_region ?_))
 refine wl_box_agg rfl (by decide) fun b2 w1 hw1 => ?_
 replace S := S.new hw1
 refine wd (does_as_i rfl) (wl_nil (wc_seq (wc_region (wd (does_mv_p rfl) (wd (does_mv_l rfl) (wd (does_load_agg ag_Term rfl ((S.blk 0).all _ (Term.len _)) (Term.len _)) ?_))))))
 refine wd (does_mv_i rfl) ?_
 obtain ⟨r3, er3, H⟩ := bind_ex H
 obtain ⟨B5, MB5, SB5, back⟩ := S.calln 0 ((.z 0 rfl (.z 1 rfl (.z 2 rfl (.z 3 rfl .nil)))))
 refine wl_call (does_call ca_types_Where) (by decide) (types_Where_st (a2 := a2) SB5 er3) ?_
 rintro _ w4 ⟨s6, rfl, S2⟩
 replace S := back _ _ _ _ S2 rfl
 clear back S2 SB5
 refine wd (does_mv_t rfl) (wd (does_extract rfl rfl) (wd (does_extract rfl rfl) (wd (does_as_l rfl) (wd (does_as_i rfl) (wl_nil (wc_seq (wc_region ?_)))))))
 refine wd (does_mv_i rfl) (wd (does_as_i rfl) (wl_nil (wc_ret ?_)))
 refine ⟨_, (rets1 (retOne_tmp rfl)), ?_⟩
 replace S := S.arr [] []
 obtain rfl := Option.some.inj H
 exact ⟨rfl, S⟩
theorem types_Infer_st {A : Nat → Prop} {N : Oth} {w : World} {a0 : Tb} {a_0 : Option Addr} {a1 : List Hyp} {s_1 : SlV} {a2 : PTerm} {s_2 : SlV} (S : St A N w w [] [oT a_0 a0, fS 2 Hyp.C s_1 a1, oDTerm s_2 a2.sub, oEt]) {k : Nat} {r : Int × Int} (H : types_Infer.f k a0 a1 a2 = some r) :
  Calls PP F_types_Infer #[.pointer a_0, s_1.v, .agg (Term.C (⟨a2.kind, a2.name, a2.other, a2.form, s_2⟩ : Term)).toArray] w fun e w' => ∃ v, e = .returned v ∧ (v = .tuple #[.int .i64 r.1, .int .i64 r.2] ∧ St A N w w' [] []) := by
 unfold types_Infer.f at H
 refine calls_of_wc (n := 39) fn_types_Infer rfl rfl (by simp) (wc_seq (wc_region ?_))
 refine wl_box_agg rfl (by decide) fun b2 w1 hw1 => ?_
 replace S := S.new hw1
 refine wd (does_as_i rfl) (wd (does_as_i rfl) (wl_nil (wc_seq (wc_region (wd (does_mv_p rfl) (wd (does_mv_l rfl) ?_))))))
 refine wd (does_load_agg ag_Term rfl ((S.blk 0).all _ (Term.len _)) (Term.len _)) ?_
 replace S := S.nil T_int 1 IC
 obtain ⟨r3, er3, H⟩ := bind_ex H
 obtain ⟨B5, MB5, SB5, back⟩ := S.sub [0, 1, 2] [oS T_int 1 IC SlV.nil ([] : List Int)] [oB b2 T_Term (Term.C (⟨a2.kind, a2.name, a2.other, a2.form, s_2⟩ : Term))]
 refine wl_call (does_callg ca_types_ahead (cons2 rfl (cons2 rfl (cons2 rfl (cons2 SlV.nil_eq rfl))))) (by decide) (types_ahead_st (a2 := a2) SB5 er3) ?_
 rintro _ w4 ⟨a6, rfl, S2⟩
 replace S := back _ _ _ _ _ S2 rfl rfl
 clear back S2 SB5
 refine wd (does_mv_t rfl) (wd (does_extract rfl rfl) (wd (does_extract rfl rfl) (wd (does_as_p rfl) (wd (does_as_i rfl) (wl_nil (wc_seq (wc_seq (wc_region ?_))))))))
 refine wd (does_mv_i rfl) (wd (does_ne rfl rfl) (wl_nil ?_))
 refine wc_if rfl (fun hc7 => ?_) (fun hc7 => ?_)
 ·replace H := if_t hc7 H
  refine wc_seq (wc_region (wd (does_mv_i rfl) (wd (does_as_i rfl) (wd (does_as_i rfl) (wl_nil (wc_ret ?_))))))
  refine ⟨_, (rets2 (retOne_tmp rfl) (retOne_tmp rfl)), ?_⟩
  replace S := S.arr [] []
  obtain rfl := Option.some.inj H
  exact ⟨rfl, S⟩
 replace H := if_f hc7 H
 refine wc_skip (wc_seq (wc_region (wd (does_mv_p rfl) (wd (Does.to (v' := .agg (Checker.C (⟨a_0⟩ : Checker)).toArray) (does_buildv (vs := [(0, .pointer a_0)]) bu_Checker (consP rfl rfl) (Bld.one rfl rfl (by rw [Checker.len]; decide) (Checker.set_t _ _) Bld.nil)) rfl) (wd (does_load_agg ag_Term rfl ((S.blk 0).all _ (Term.len _)) (Term.len _)) (wd (does_mv_p rfl) ?_))))))
 obtain ⟨r8, er8, H⟩ := bind_ex H
 obtain ⟨B10, MB10, SB10, back⟩ := S.calln 0 ((.z 1 rfl (.z 3 rfl (.z 0 rfl (.z 4 rfl .nil)))))
 refine wl_call (does_call ca_types_checker_told) (by decide) (types_checker_told_st (a0 := (⟨a0⟩ : PChecker)) (a1 := a2) SB10 er8) ?_
 rintro _ w9 ⟨v11, rfl, S2⟩
 replace S := back _ _ _ _ S2 rfl
 clear back S2 SB10
 refine wd (does_mv_t rfl) (wd (does_extract rfl rfl) (wd (does_extract rfl rfl) (wd (does_as_i rfl) (wd (does_assign rfl) (wl_nil (wc_seq (wc_seq (wc_region ?_))))))))
 refine wd (does_move rfl) ?_
 obtain ⟨r12, er12, H⟩ := bind_ex H
 obtain ⟨B14, MB14, SB14, back⟩ := S.calln 1 ((.z 4 rfl .nil))
 refine wl_call (does_call ca_types_code) (by decide) (types_code_st (a0 := r8.2) SB14 er12) ?_
 rintro _ w13 ⟨s15, rfl, S2⟩
 replace S := back _ _ _ _ S2 rfl
 clear back S2 SB14
 refine wd (does_mv_t rfl) (wd (does_extract rfl rfl) (wd (does_extract rfl rfl) (wd (does_as_i rfl) (wl_nil (wc_seq (wc_region ?_))))))
 refine wd (does_mv_i rfl) (wd (does_ne rfl rfl) (wl_nil ?_))
 refine wc_if rfl (fun hc16 => ?_) (fun hc16 => ?_)
 ·replace H := if_t hc16 H
  refine wc_seq (wc_region (wd (does_mv_i rfl) (wd (does_as_i rfl) (wd (does_as_i rfl) (wl_nil (wc_ret ?_))))))
  refine ⟨_, (rets2 (retOne_tmp rfl) (retOne_tmp rfl)), ?_⟩
  replace S := S.arr [] []
  obtain rfl := Option.some.inj H
  exact ⟨rfl, S⟩
 replace H := if_f hc16 H
 refine wc_skip (wc_seq (wc_region (wd (does_mv_i rfl) (wd (does_as_i rfl) (wd (does_as_i rfl) (wl_nil (wc_ret ?_)))))))
 refine ⟨_, (rets2 (retOne_tmp rfl) (retOne_tmp rfl)), ?_⟩
 replace S := S.arr [] []
 obtain rfl := Option.some.inj H
 exact ⟨rfl, S⟩
end Go.Proofs.YtflieamjacclnaaGreatDoor
end
