/- Texts put together: Chapter 13, types: the walks. Printed by pp.py, a program of mine. Tables out of rows: the walks. Printed by pp.py, a program of mine. Chapter 13, the heads: the walks. Printed by pp.py, a program of mine. Chapter 13, TypesOne: the walks. Printed by pp.py, a program of mine. Tables out of rows, the program's and the document's: the plain law (out of chapter 09's). -/
import Derived.Test.YtjebgcoknpcadaaDoorMO2
set_option linter.unusedVariables false
set_option linter.unusedSimpArgs false
section
namespace Go.Proofs.YtjebgcoknpcadaaDoor
open Gw Go.RowKit
set_option maxHeartbeats 4000000
set_option maxRecDepth 20000
theorem types_checker_node_st {A : Nat → Prop} {N : Oth} {w : World} {a0 : PChecker} {a_0 : Option Addr} {a1 : Int} {a2 : Int} (S : St A N w w [] [oT a_0 a0.t]) {r : Nd × (Option (Int × List Int))} (H : types_checker_node.f a0 a1 a2 = some r) :
  Calls PP F_types_checker_node #[.agg (Checker.C (⟨a_0⟩ : Checker)).toArray, .int .i64 a1, .int .i64 a2] w fun e w' => ∃ v, e = .returned v ∧ (∃ vo0 : Value, v = .tuple #[.agg (Nd.C r.1).toArray, vo0] ∧ St A N w w' [oE vo0 r.2] []) := by
 unfold types_checker_node.f at H
 refine calls_of_wc (n := 26) fn_types_checker_node rfl rfl (by simp) ?_
 refine wc_seq (wc_region ?_)
 refine wl_box_agg rfl (by decide) fun b2 w1 hw1 => ?_
 replace S : St A N w w1 [oB b2 T_Checker (Checker.C (⟨a_0⟩ : Checker))] [oT a_0 a0.t] := S.new hw1
 refine wl_alloc ze_Nd (by decide) fun b4 w3 hw3 => ?_
 replace S : St A N w w3 [oB b4 T_Nd (Nd.C Nd.z), oB b2 T_Checker (Checker.C (⟨a_0⟩ : Checker))] [oT a_0 a0.t] := S.new hw3
 refine wd (does_assign rfl) ?_
 refine wl_nil ?_
 refine wc_seq (wc_region ?_)
 refine wd (does_fieldAddr fl_Checker_t rfl (o' := 0) rfl) ?_
 refine wd (does_load on_dictum_formula_has rfl ((S.blk 1).cell (Checker.get_t _))) ?_
 refine wd (does_mv_i rfl) ?_
 obtain ⟨r5, er5, H⟩ := bind_ex H
 obtain ⟨B7, MB7, SB7, back⟩ := S.calln 0 ((.z 0 rfl .nil))
 refine wl_call (does_call ca_formula_Table_Node) (by decide) (formula_Table_Node_st SB7 er5) ?_
 rintro _ w6 ⟨rfl, S2⟩
 replace S : St A N w w6 [oB b4 T_Nd (Nd.C Nd.z), oB b2 T_Checker (Checker.C (⟨a_0⟩ : Checker))] [oT a_0 a0.t] := back _ _ _ _ S2 rfl
 clear back S2 SB7
 refine wd (does_mv_t rfl) ?_
 refine wd (does_extract rfl rfl) ?_
 refine wd (does_extract rfl rfl) ?_
 refine wl_alloc ze_Nd (by decide) fun b9 w8 hw8 => ?_
 replace S : St A N w w8 [oB b9 T_Nd (Nd.C Nd.z), oB b4 T_Nd (Nd.C Nd.z), oB b2 T_Checker (Checker.C (⟨a_0⟩ : Checker))] [oT a_0 a0.t] := S.new hw8
 refine wl_store_agg ag_Nd rfl rfl (S.blk 0) (Nd.len _) (by rw [Nd.len]; decide) (Nd.one _) (store_all (Nd.len _)) fun w10 B hw10 zw10 => ?_
 replace S : St A N w w10 [oB b9 T_Nd (Nd.C r5.1), oB b4 T_Nd (Nd.C Nd.z), oB b2 T_Checker (Checker.C (⟨a_0⟩ : Checker))] [oT a_0 a0.t] := S.store 0 B hw10
 clear B
 refine wd (does_as_b rfl) ?_
 refine wl_nil ?_
 refine wc_seq (wc_seq (wc_region ?_))
 refine wd (does_fieldAddr fl_Nd_kind rfl (o' := 0) rfl) ?_
 refine wd (does_load on_api_Kind rfl ((S.blk 0).cell (Nd.get_kind _))) ?_
 refine wd (does_mv_i rfl) ?_
 refine wd (does_ne rfl rfl) ?_
 refine wl_nil ?_
 refine wc_if rfl (fun hc11 => ?_) (fun hc11 => ?_)
 ·replace H := if_t hc11 H
  refine wc_seq (wc_region ?_)
  refine wd (does_load_agg ag_Nd rfl ((S.blk 0).all _ (Nd.len _)) (Nd.len _)) ?_
  refine wd (Does.to (v' := .agg (Refusal.C (⟨130, SlV.nil⟩ : Refusal)).toArray) (does_buildv (vs := [(0, .int .i64 130)]) bu_Refusal (consP rfl rfl) (Bld.one rfl rfl (by rw [Refusal.len]; decide) (Refusal.set_code _ _) Bld.nil)) rfl) ?_
  refine wl_box_agg rfl (by decide) fun b13 w12 hw12 => ?_
  replace S : St A N w w12 [oB b13 T_Refusal (Refusal.C (⟨130, SlV.nil⟩ : Refusal)), oB b9 T_Nd (Nd.C r5.1), oB b4 T_Nd (Nd.C Nd.z), oB b2 T_Checker (Checker.C (⟨a_0⟩ : Checker))] [oT a_0 a0.t] := S.new hw12
  refine wd (does_makeInterface rfl) ?_
  replace S := S.nil T_int 1 IC
  replace S := S.front 1
  replace S : St A N w w12 [oE (.iface T_P_Refusal (.pointer (some ⟨b13, 0, none⟩))) (some (130, ([] : List Int))), oB b9 T_Nd (Nd.C r5.1), oB b4 T_Nd (Nd.C Nd.z), oB b2 T_Checker (Checker.C (⟨a_0⟩ : Checker))] [oT a_0 a0.t] := S.mkE
  refine wl_store_agg ag_Nd rfl rfl (S.blk 2) (Nd.len _) (by rw [Nd.len]; decide) (Nd.one _) (store_all (Nd.len _)) fun w14 B hw14 zw14 => ?_
  replace S : St A N w w14 [oB b4 T_Nd (Nd.C r5.1), oE (.iface T_P_Refusal (.pointer (some ⟨b13, 0, none⟩))) (some (130, ([] : List Int))), oB b9 T_Nd (Nd.C r5.1), oB b2 T_Checker (Checker.C (⟨a_0⟩ : Checker))] [oT a_0 a0.t] := S.store 2 B hw14
  clear B
  refine wd (does_assign rfl) ?_
  refine wl_nil ?_
  refine wc_ret ?_
  refine ⟨_, (rets2 (retOne_agg ag_Nd rfl ((S.blk 0).all _ (Nd.len _)) (Nd.len _)) (retOne_tmp rfl)), ?_⟩
  replace S : St A N w w14 [oE (.iface T_P_Refusal (.pointer (some ⟨b13, 0, none⟩))) (some (130, ([] : List Int)))] [] := S.arr [1] []
  obtain rfl := Option.some.inj H
  exact ⟨(.iface T_P_Refusal (.pointer (some ⟨b13, 0, none⟩))), rfl, S⟩
 replace H := if_f hc11 H
 refine wc_skip ?_
 refine wc_seq (wc_region ?_)
 refine wd (does_load_agg ag_Nd rfl ((S.blk 0).all _ (Nd.len _)) (Nd.len _)) ?_
 refine wl_store_agg ag_Nd rfl rfl (S.blk 1) (Nd.len _) (by rw [Nd.len]; decide) (Nd.one _) (store_all (Nd.len _)) fun w15 B hw15 zw15 => ?_
 replace S : St A N w w15 [oB b4 T_Nd (Nd.C r5.1), oB b9 T_Nd (Nd.C r5.1), oB b2 T_Checker (Checker.C (⟨a_0⟩ : Checker))] [oT a_0 a0.t] := S.store 1 B hw15
 clear B
 refine wd (does_assign rfl) ?_
 refine wl_nil ?_
 refine wc_ret ?_
 replace S : St A N w w15 [oE .nilIface none, oB b4 T_Nd (Nd.C r5.1), oB b9 T_Nd (Nd.C r5.1), oB b2 T_Checker (Checker.C (⟨a_0⟩ : Checker))] [oT a_0 a0.t] := S.nilE
 refine ⟨_, (rets2 (retOne_agg ag_Nd rfl ((S.blk 1).all _ (Nd.len _)) (Nd.len _)) (retOne_tmp rfl)), ?_⟩
 replace S : St A N w w15 [oE .nilIface none] [] := S.arr [0] []
 obtain rfl := Option.some.inj H
 exact ⟨.nilIface, rfl, S⟩
theorem types_checker_part_gst {rec_types_checker_told : PChecker → PTerm → (List (ByteArray × Int)) → Option (Int × (Option (Int × List Int)))} (hrec_types_checker_told : ∀ {A : Nat → Prop} {N : Oth} {w : World} {a0 : PChecker} {a_0 : Option Addr} {a1 : PTerm} {s_1 : SlV} {a2 : List (ByteArray × Int)} {a_2 : Option Addr} (S : St A N w w [] [oT a_0 a0.t, oDTerm s_1 a1.sub, fScope a_2 a2, oEt]) {r : Int × (Option (Int × List Int))} (H : rec_types_checker_told a0 a1 a2 = some r), Calls PP F_types_checker_told #[.agg (Checker.C (⟨a_0⟩ : Checker)).toArray, .agg (Term.C (⟨a1.kind, a1.name, a1.other, a1.form, s_1⟩ : Term)).toArray, .pointer a_2] w fun e w' => ∃ v, e = .returned v ∧ (∃ vo0 : Value, v = .tuple #[.int .i64 r.1, vo0] ∧ St A N w w' [oE vo0 r.2] [])) {A : Nat → Prop} {N : Oth} {w : World} {a0 : PChecker} {a_0 : Option Addr} {a1 : PTerm} {s_1 : SlV} {a2 : Int} {a3 : List (ByteArray × Int)} {a_3 : Option Addr} (S : St A N w w [] [oT a_0 a0.t, oDTerm s_1 a1.sub, fScope a_3 a3, oEt]) {r : Int × (Option (Int × List Int))} (H : types_checker_part.g rec_types_checker_told a0 a1 a2 a3 = some r) :
  Calls PP F_types_checker_part #[.agg (Checker.C (⟨a_0⟩ : Checker)).toArray, .agg (Term.C (⟨a1.kind, a1.name, a1.other, a1.form, s_1⟩ : Term)).toArray, .int .i64 a2, .pointer a_3] w fun e w' => ∃ v, e = .returned v ∧ (∃ vo0 : Value, v = .tuple #[.int .i64 r.1, vo0] ∧ St A N w w' [oE vo0 r.2] []) := by
 unfold types_checker_part.g at H
 refine calls_of_wc (n := 27) fn_types_checker_part rfl rfl (by simp) ?_
 refine wc_seq (wc_region ?_)
 refine wl_box_agg rfl (by decide) fun b2 w1 hw1 => ?_
 replace S : St A N w w1 [oB b2 T_Checker (Checker.C (⟨a_0⟩ : Checker))] [oT a_0 a0.t, oDTerm s_1 a1.sub, fScope a_3 a3, oEt] := S.new hw1
 refine wl_box_agg rfl (by decide) fun b4 w3 hw3 => ?_
 replace S : St A N w w3 [oB b4 T_Term (Term.C (⟨a1.kind, a1.name, a1.other, a1.form, s_1⟩ : Term)), oB b2 T_Checker (Checker.C (⟨a_0⟩ : Checker))] [oT a_0 a0.t, oDTerm s_1 a1.sub, fScope a_3 a3, oEt] := S.new hw3
 refine wd (does_as_i rfl) ?_
 refine wd (does_assign rfl) ?_
 refine wl_nil ?_
 refine wc_seq ?_
 refine wc_ws hmix fun w10 K => ?_
 replace S := S.ext K
 clear K
 obtain ⟨hi11, H⟩ := chk_ex H
 obtain ⟨s12, hc13, S⟩ := S.viewTerm 1 (inb_ex hi11)
 replace S : St A N w w10 [oB b4 T_Term (Term.C (⟨a1.kind, a1.name, a1.other, a1.form, s_1⟩ : Term)), oB b2 T_Checker (Checker.C (⟨a_0⟩ : Checker))] [oDTerm s12 ((at_ PTerm.z a1.sub a2).sub), oT a_0 a0.t, oDTerm s_1 a1.sub, fScope a_3 a3, oEt] := S
 replace S : St A N w w10 [oB b4 T_Term (Term.C (⟨a1.kind, a1.name, a1.other, a1.form, s_1⟩ : Term)), oB b2 T_Checker (Checker.C (⟨a_0⟩ : Checker))] [oT a_0 a0.t, oDTerm s_1 a1.sub, fScope a_3 a3, oEt, oDTerm s12 ((at_ PTerm.z a1.sub a2).sub)] := S.zs [1, 2, 3, 4, 0]
 refine ws_semi 0 7 [] (by kernel_rfl) (by decide) (by kernel_rfl)
  (V := fun i v u => match i with
  | _ => True) ?_ ?_
 ·intro i v u u' hi hx hv
  match i, hv with
  | _, _ => exact trivial
 refine wm_does (fun v K => does_load_agg ag_Checker rfl (((S.ext K).blk 1).all _ (Checker.len _)) (Checker.len _)) rfl ?_
 refine wm_does (fun v K => does_fieldAddr fl_Term_sub rfl (o' := 4) rfl) rfl ?_
 refine wm_does (fun v K => does_load on_L_api_Term rfl (((S.ext K).blk 0).cell (Term.get_sub _))) rfl ?_
 refine wm_does (fun v K => does_mv_i rfl) rfl ?_
 refine wm_does (fun v K => does_indexF sl_L_api_Term rfl rfl ((S.ext K).onZ 1) (inb_ex hi11).1 (inb_ex hi11).2) rfl ?_
 refine wm_does (fun v K => does_load_agg ag_Term rfl (hc13.chg K (fun x => x)) (Term.len _)) rfl ?_
 refine wm_does (fun v K => does_mv_p rfl) rfl ?_
 refine wm_nil fun g w14 K hV => ?_
 replace S := S.ext K
 clear K hV
 refine ws_chain 7 9 (by kernel_rfl) (by decide) ?_
 obtain ⟨r16, er16, H⟩ := bind_ex H
 obtain ⟨B18, MB18, SB18, back⟩ := S.calln 0 ((.z 0 rfl (.z 4 rfl (.z 2 rfl (.z 3 rfl .nil)))))
 refine wl_call (does_call ca_types_checker_told) (by decide) (hrec_types_checker_told (a0 := a0) (a1 := (at_ PTerm.z a1.sub a2)) SB18 er16) ?_
 rintro _ w17 ⟨v19, rfl, S2⟩
 replace S : St A N w w17 [oE v19 r16.2, oB b4 T_Term (Term.C (⟨a1.kind, a1.name, a1.other, a1.form, s_1⟩ : Term)), oB b2 T_Checker (Checker.C (⟨a_0⟩ : Checker))] [oT a_0 a0.t, oDTerm s_1 a1.sub, fScope a_3 a3, oEt, oDTerm s12 ((at_ PTerm.z a1.sub a2).sub)] := back _ _ _ _ S2 rfl
 clear back S2 SB18
 refine wd (does_mv_t rfl) ?_
 refine wl_nil ⟨rfl, ?_⟩
 refine ws_semi 9 12 [] (by kernel_rfl) (by decide) (by kernel_rfl)
  (V := fun i v u => match i with
  | _ => True) ?_ ?_
 ·intro i v u u' hi hx hv
  match i, hv with
  | _, _ => exact trivial
 refine wm_does (fun v K => does_extract rfl rfl) rfl ?_
 refine wm_does (fun v K => does_extract rfl rfl) rfl ?_
 refine wm_does (fun v K => does_as_i rfl) rfl ?_
 refine wm_nil fun g w20 K hV => ?_
 replace S := S.ext K
 clear K hV
 refine ws_tail 12 (by kernel_rfl) (by decide) ?_
 refine wd (does_assign rfl) ?_
 refine wl_nil ?_
 refine wc_seq (wc_region ?_)
 refine wd (does_mv_i rfl) ?_
 refine wd (does_mv_i rfl) ?_
 refine wd (does_move rfl) ?_
 obtain ⟨r22, er22, H⟩ := bind_ex H
 obtain ⟨B24, MB24, SB24, back⟩ := S.calln 1 ((.z 3 rfl .nil))
 refine wl_call (does_call ca_types_at) (by decide) (types_at_st (a1 := r16.2) SB24 er22) ?_
 rintro v25 w23 ⟨_, rfl, S2⟩
 replace S : St A N w w23 [oE v25 r22, oB b4 T_Term (Term.C (⟨a1.kind, a1.name, a1.other, a1.form, s_1⟩ : Term)), oB b2 T_Checker (Checker.C (⟨a_0⟩ : Checker))] [oT a_0 a0.t, oDTerm s_1 a1.sub, fScope a_3 a3, oEt, oDTerm s12 ((at_ PTerm.z a1.sub a2).sub)] := back _ _ _ _ S2 rfl
 clear back S2 SB24
 refine wd (does_as_i rfl) ?_
 refine wd (does_assign rfl) ?_
 refine wl_nil ?_
 refine wc_ret ?_
 refine ⟨_, (rets2 (retOne_tmp rfl) (retOne_tmp rfl)), ?_⟩
 replace S : St A N w w23 [oE v25 r22] [] := S.arr [0] []
 obtain rfl := Option.some.inj H
 exact ⟨v25, rfl, S⟩
theorem types_checker_check_gst {rec_types_checker_checked : PChecker → PTerm → (List (ByteArray × Int)) → Int → Option (Option (Int × List Int))} (hrec_types_checker_checked : ∀ {A : Nat → Prop} {N : Oth} {w : World} {a0 : PChecker} {a_0 : Option Addr} {a1 : PTerm} {s_1 : SlV} {a2 : List (ByteArray × Int)} {a_2 : Option Addr} {a3 : Int} (S : St A N w w [] [oT a_0 a0.t, oDTerm s_1 a1.sub, fScope a_2 a2, oEt]) {r : (Option (Int × List Int))} (H : rec_types_checker_checked a0 a1 a2 a3 = some r), Calls PP F_types_checker_checked #[.agg (Checker.C (⟨a_0⟩ : Checker)).toArray, .agg (Term.C (⟨a1.kind, a1.name, a1.other, a1.form, s_1⟩ : Term)).toArray, .pointer a_2, .int .i64 a3] w fun e w' => ∃ v, e = .returned v ∧ (∃ vo0 : Value, v = vo0 ∧ St A N w w' [oE vo0 r] [])) {A : Nat → Prop} {N : Oth} {w : World} {a0 : PChecker} {a_0 : Option Addr} {a1 : PTerm} {s_1 : SlV} {a2 : Int} {a3 : List (ByteArray × Int)} {a_3 : Option Addr} {a4 : Int} (S : St A N w w [] [oT a_0 a0.t, oDTerm s_1 a1.sub, fScope a_3 a3, oEt]) {r : (Option (Int × List Int))} (H : types_checker_check.g rec_types_checker_checked a0 a1 a2 a3 a4 = some r) :
  Calls PP F_types_checker_check #[.agg (Checker.C (⟨a_0⟩ : Checker)).toArray, .agg (Term.C (⟨a1.kind, a1.name, a1.other, a1.form, s_1⟩ : Term)).toArray, .int .i64 a2, .pointer a_3, .int .i64 a4] w fun e w' => ∃ v, e = .returned v ∧ (∃ vo0 : Value, v = vo0 ∧ St A N w w' [oE vo0 r] []) := by
 unfold types_checker_check.g at H
 refine calls_of_wc (n := 22) fn_types_checker_check rfl rfl (by simp) ?_
 refine wc_seq (wc_region ?_)
 refine wl_box_agg rfl (by decide) fun b2 w1 hw1 => ?_
 replace S : St A N w w1 [oB b2 T_Checker (Checker.C (⟨a_0⟩ : Checker))] [oT a_0 a0.t, oDTerm s_1 a1.sub, fScope a_3 a3, oEt] := S.new hw1
 refine wl_box_agg rfl (by decide) fun b4 w3 hw3 => ?_
 replace S : St A N w w3 [oB b4 T_Term (Term.C (⟨a1.kind, a1.name, a1.other, a1.form, s_1⟩ : Term)), oB b2 T_Checker (Checker.C (⟨a_0⟩ : Checker))] [oT a_0 a0.t, oDTerm s_1 a1.sub, fScope a_3 a3, oEt] := S.new hw3
 refine wd (does_assign rfl) ?_
 refine wl_nil ?_
 refine wc_seq ?_
 obtain ⟨hi5, H⟩ := chk_ex H
 obtain ⟨s6, hc7, S⟩ := S.viewTerm 1 (inb_ex hi5)
 replace S : St A N w w3 [oB b4 T_Term (Term.C (⟨a1.kind, a1.name, a1.other, a1.form, s_1⟩ : Term)), oB b2 T_Checker (Checker.C (⟨a_0⟩ : Checker))] [oDTerm s6 ((at_ PTerm.z a1.sub a2).sub), oT a_0 a0.t, oDTerm s_1 a1.sub, fScope a_3 a3, oEt] := S
 replace S : St A N w w3 [oB b4 T_Term (Term.C (⟨a1.kind, a1.name, a1.other, a1.form, s_1⟩ : Term)), oB b2 T_Checker (Checker.C (⟨a_0⟩ : Checker))] [oT a_0 a0.t, oDTerm s_1 a1.sub, fScope a_3 a3, oEt, oDTerm s6 ((at_ PTerm.z a1.sub a2).sub)] := S.zs [1, 2, 3, 4, 0]
 obtain ⟨r8, er8, H⟩ := bind_ex H
 refine wc_semi 10 [9]
  (fun i v u => match i with
  | 9 => ∃ v9 : Value, v = v9 ∧ ∃ F, (oE v9 r8).holds u F ∧ ∀ i, F i → w3.heap.size ≤ i
  | _ => True) hmix (by kernel_rfl) (by kernel_rfl) ?_ ?_
 ·intro i v u u' hi hx hv
  match i, hv with
  | 9, ⟨b, e1, F, hb, hl⟩ => exact ⟨b, e1, F, OA.loc _ hb hx (fun _ _ x => x), hl⟩
  | 0, _ => exact trivial
  | 1, _ => exact trivial
  | 2, _ => exact trivial
  | 3, _ => exact trivial
  | 4, _ => exact trivial
  | 5, _ => exact trivial
  | 6, _ => exact trivial
  | 7, _ => exact trivial
  | 8, _ => exact trivial
  | _ + 10, _ => exact trivial
 refine wm_does (fun v K => does_mv_i rfl) rfl ?_
 refine wm_does (fun v K => does_load_agg ag_Checker rfl (((S.ext K).blk 1).all _ (Checker.len _)) (Checker.len _)) rfl ?_
 refine wm_does (fun v K => does_fieldAddr fl_Term_sub rfl (o' := 4) rfl) rfl ?_
 refine wm_does (fun v K => does_load on_L_api_Term rfl (((S.ext K).blk 0).cell (Term.get_sub _))) rfl ?_
 refine wm_does (fun v K => does_mv_i rfl) rfl ?_
 refine wm_does (fun v K => does_indexF sl_L_api_Term rfl rfl ((S.ext K).onZ 1) (inb_ex hi5).1 (inb_ex hi5).2) rfl ?_
 refine wm_does (fun v K => does_load_agg ag_Term rfl (hc7.chg K (fun x => x)) (Term.len _)) rfl ?_
 refine wm_does (fun v K => does_mv_p rfl) rfl ?_
 refine wm_does (fun v K => does_mv_i rfl) rfl ?_
 refine wm_newcall (fun g v K G => (have ⟨M, SS⟩ := (S.ext K).lend ((.z 0 rfl (.z 4 rfl (.z 2 rfl (.z 3 rfl .nil))))); ⟨_, _, does_callg ca_types_checker_checked (cons2 rfl (cons2 rfl (cons2 rfl (cons2 rfl rfl)))), newc (hrec_types_checker_checked (a0 := a0) (a1 := (at_ PTerm.z a1.sub a2)) SS er8) fun _ _ ⟨v9, hv, h⟩ => ⟨h.frame, v9, hv, h.newP.elim fun F hF => ⟨F, hF.1, fun i hi => by have := hF.2 i hi; have := K.size; omega⟩⟩⟩)) rfl ?_
 refine wm_nil fun g w10 K hV => ?_
 obtain ⟨v9, hv119, F9, hb9, hf9⟩ := hV 9 rfl (by decide)
 replace S : St A N w w10 [oE v9 r8, oB b4 T_Term (Term.C (⟨a1.kind, a1.name, a1.other, a1.form, s_1⟩ : Term)), oB b2 T_Checker (Checker.C (⟨a_0⟩ : Checker))] [oT a_0 a0.t, oDTerm s_1 a1.sub, fScope a_3 a3, oEt, oDTerm s6 ((at_ PTerm.z a1.sub a2).sub)] := S.add (b := oE v9 r8) K hb9 hf9
 clear K hV
 obtain ⟨r12, er12, H⟩ := bind_ex H
 obtain ⟨B14, MB14, SB14, back⟩ := S.calln 1 ((.z 3 rfl .nil))
 refine wl_call (does_callg ca_types_at (cons2 rfl (cons2 hv119 rfl))) (by decide) (types_at_st (a1 := r8) SB14 er12) ?_
 rintro v15 w13 ⟨_, rfl, S2⟩
 replace S : St A N w w13 [oE v15 r12, oB b4 T_Term (Term.C (⟨a1.kind, a1.name, a1.other, a1.form, s_1⟩ : Term)), oB b2 T_Checker (Checker.C (⟨a_0⟩ : Checker))] [oT a_0 a0.t, oDTerm s_1 a1.sub, fScope a_3 a3, oEt, oDTerm s6 ((at_ PTerm.z a1.sub a2).sub)] := back _ _ _ _ S2 rfl
 clear back S2 SB14
 refine wd (does_assign rfl) ?_
 refine wl_nil ?_
 refine wc_ret ?_
 refine ⟨_, (rets1 (retOne_tmp rfl)), ?_⟩
 replace S : St A N w w13 [oE v15 r12] [] := S.arr [0] []
 obtain rfl := Option.some.inj H
 exact ⟨v15, rfl, S⟩
theorem types_checker_head_gst {rec_types_checker_told : PChecker → PTerm → (List (ByteArray × Int)) → Option (Int × (Option (Int × List Int)))} (hrec_types_checker_told : ∀ {A : Nat → Prop} {N : Oth} {w : World} {a0 : PChecker} {a_0 : Option Addr} {a1 : PTerm} {s_1 : SlV} {a2 : List (ByteArray × Int)} {a_2 : Option Addr} (S : St A N w w [] [oT a_0 a0.t, oDTerm s_1 a1.sub, fScope a_2 a2, oEt]) {r : Int × (Option (Int × List Int))} (H : rec_types_checker_told a0 a1 a2 = some r), Calls PP F_types_checker_told #[.agg (Checker.C (⟨a_0⟩ : Checker)).toArray, .agg (Term.C (⟨a1.kind, a1.name, a1.other, a1.form, s_1⟩ : Term)).toArray, .pointer a_2] w fun e w' => ∃ v, e = .returned v ∧ (∃ vo0 : Value, v = .tuple #[.int .i64 r.1, vo0] ∧ St A N w w' [oE vo0 r.2] [])) {A : Nat → Prop} {N : Oth} {w : World} {a0 : PChecker} {a_0 : Option Addr} {a1 : PTerm} {s_1 : SlV} {a2 : List (ByteArray × Int)} {a_2 : Option Addr} {a3 : Int} (S : St A N w w [] [oT a_0 a0.t, oDTerm s_1 a1.sub, fScope a_2 a2, oEt]) {r : Nd × (Option (Int × List Int))} (H : types_checker_head.g rec_types_checker_told a0 a1 a2 a3 = some r) :
  Calls PP F_types_checker_head #[.agg (Checker.C (⟨a_0⟩ : Checker)).toArray, .agg (Term.C (⟨a1.kind, a1.name, a1.other, a1.form, s_1⟩ : Term)).toArray, .pointer a_2, .int .i64 a3] w fun e w' => ∃ v, e = .returned v ∧ (∃ vo0 : Value, v = .tuple #[.agg (Nd.C r.1).toArray, vo0] ∧ St A N w w' [oE vo0 r.2] []) := by
 unfold types_checker_head.g at H
 refine calls_of_wc (n := 29) fn_types_checker_head rfl rfl (by simp) ?_
 refine wc_seq (wc_region ?_)
 refine wl_box_agg rfl (by decide) fun b2 w1 hw1 => ?_
 replace S : St A N w w1 [oB b2 T_Checker (Checker.C (⟨a_0⟩ : Checker))] [oT a_0 a0.t, oDTerm s_1 a1.sub, fScope a_2 a2, oEt] := S.new hw1
 refine wl_box_agg rfl (by decide) fun b4 w3 hw3 => ?_
 replace S : St A N w w3 [oB b4 T_Term (Term.C (⟨a1.kind, a1.name, a1.other, a1.form, s_1⟩ : Term)), oB b2 T_Checker (Checker.C (⟨a_0⟩ : Checker))] [oT a_0 a0.t, oDTerm s_1 a1.sub, fScope a_2 a2, oEt] := S.new hw3
 refine wl_alloc ze_Nd (by decide) fun b6 w5 hw5 => ?_
 replace S : St A N w w5 [oB b6 T_Nd (Nd.C Nd.z), oB b4 T_Term (Term.C (⟨a1.kind, a1.name, a1.other, a1.form, s_1⟩ : Term)), oB b2 T_Checker (Checker.C (⟨a_0⟩ : Checker))] [oT a_0 a0.t, oDTerm s_1 a1.sub, fScope a_2 a2, oEt] := S.new hw5
 refine wd (does_assign rfl) ?_
 refine wl_nil ?_
 refine wc_seq (wc_region ?_)
 refine wd (does_load_agg ag_Checker rfl ((S.blk 2).all _ (Checker.len _)) (Checker.len _)) ?_
 refine wd (does_load_agg ag_Term rfl ((S.blk 1).all _ (Term.len _)) (Term.len _)) ?_
 refine wd (does_mv_p rfl) ?_
 obtain ⟨r7, er7, H⟩ := bind_ex H
 obtain ⟨B9, MB9, SB9, back⟩ := S.calln 0 ((.z 0 rfl (.z 1 rfl (.z 2 rfl (.z 3 rfl .nil)))))
 refine wl_call (does_call ca_types_checker_part) (by decide) (types_checker_part_gst hrec_types_checker_told (a0 := a0) (a1 := a1) SB9 er7) ?_
 rintro _ w8 ⟨v10, rfl, S2⟩
 replace S : St A N w w8 [oE v10 r7.2, oB b6 T_Nd (Nd.C Nd.z), oB b4 T_Term (Term.C (⟨a1.kind, a1.name, a1.other, a1.form, s_1⟩ : Term)), oB b2 T_Checker (Checker.C (⟨a_0⟩ : Checker))] [oT a_0 a0.t, oDTerm s_1 a1.sub, fScope a_2 a2, oEt] := back _ _ _ _ S2 rfl
 clear back S2 SB9
 refine wd (does_mv_t rfl) ?_
 refine wd (does_extract rfl rfl) ?_
 refine wd (does_extract rfl rfl) ?_
 refine wd (does_as_i rfl) ?_
 refine wd (does_assign rfl) ?_
 refine wl_nil ?_
 refine wc_seq (wc_seq (wc_region ?_))
 refine wd (does_move rfl) ?_
 refine wd (does_neE if_error rfl rfl (S.onO 0)) ?_
 refine wl_nil ?_
 refine wc_if rfl (fun hc11 => ?_) (fun hc11 => ?_)
 ·replace H := if_t hc11 H
  refine wc_seq (wc_region ?_)
  refine wd (does_build bu_Nd Bld.nil) ?_
  refine wd (does_move rfl) ?_
  refine wl_store_agg ag_Nd rfl rfl (S.blk 1) (Nd.len _) (by rw [Nd.len]; decide) (Nd.one _) (store_all (Nd.len _)) fun w12 B hw12 zw12 => ?_
  replace S : St A N w w12 [oB b6 T_Nd (Nd.C Nd.z), oE v10 r7.2, oB b4 T_Term (Term.C (⟨a1.kind, a1.name, a1.other, a1.form, s_1⟩ : Term)), oB b2 T_Checker (Checker.C (⟨a_0⟩ : Checker))] [oT a_0 a0.t, oDTerm s_1 a1.sub, fScope a_2 a2, oEt] := S.store 1 B hw12
  clear B
  refine wd (does_assign rfl) ?_
  refine wl_nil ?_
  refine wc_ret ?_
  refine ⟨_, (rets2 (retOne_agg ag_Nd rfl ((S.blk 0).all _ (Nd.len _)) (Nd.len _)) (retOne_tmp rfl)), ?_⟩
  replace S : St A N w w12 [oE v10 r7.2] [] := S.arr [1] []
  obtain rfl := Option.some.inj H
  exact ⟨v10, rfl, S⟩
 replace H := if_f hc11 H
 refine wc_skip ?_
 refine wc_seq (wc_region ?_)
 refine wd (does_load_agg ag_Checker rfl ((S.blk 3).all _ (Checker.len _)) (Checker.len _)) ?_
 refine wd (does_mv_i rfl) ?_
 refine wd (does_mv_i rfl) ?_
 obtain ⟨r13, er13, H⟩ := bind_ex H
 obtain ⟨B15, MB15, SB15, back⟩ := S.calln 0 ((.z 0 rfl .nil))
 refine wl_call (does_call ca_types_checker_node) (by decide) (types_checker_node_st (a0 := a0) SB15 er13) ?_
 rintro _ w14 ⟨v16, rfl, S2⟩
 replace S : St A N w w14 [oE v16 r13.2, oE v10 r7.2, oB b6 T_Nd (Nd.C Nd.z), oB b4 T_Term (Term.C (⟨a1.kind, a1.name, a1.other, a1.form, s_1⟩ : Term)), oB b2 T_Checker (Checker.C (⟨a_0⟩ : Checker))] [oT a_0 a0.t, oDTerm s_1 a1.sub, fScope a_2 a2, oEt] := back _ _ _ _ S2 rfl
 clear back S2 SB15
 refine wd (does_extract rfl rfl) ?_
 refine wd (does_extract rfl rfl) ?_
 refine wl_store_agg ag_Nd rfl rfl (S.blk 2) (Nd.len _) (by rw [Nd.len]; decide) (Nd.one _) (store_all (Nd.len _)) fun w17 B hw17 zw17 => ?_
 replace S : St A N w w17 [oB b6 T_Nd (Nd.C r13.1), oE v16 r13.2, oE v10 r7.2, oB b4 T_Term (Term.C (⟨a1.kind, a1.name, a1.other, a1.form, s_1⟩ : Term)), oB b2 T_Checker (Checker.C (⟨a_0⟩ : Checker))] [oT a_0 a0.t, oDTerm s_1 a1.sub, fScope a_2 a2, oEt] := S.store 2 B hw17
 clear B
 refine wd (does_assign rfl) ?_
 refine wl_nil ?_
 refine wc_ret ?_
 refine ⟨_, (rets2 (retOne_agg ag_Nd rfl ((S.blk 0).all _ (Nd.len _)) (Nd.len _)) (retOne_tmp rfl)), ?_⟩
 replace S : St A N w w17 [oE v16 r13.2] [] := S.arr [1] []
 obtain rfl := Option.some.inj H
 exact ⟨v16, rfl, S⟩
theorem types_checker_told_gst {rec_types_checker_told : PChecker → PTerm → (List (ByteArray × Int)) → Option (Int × (Option (Int × List Int)))} (hrec_types_checker_told : ∀ {A : Nat → Prop} {N : Oth} {w : World} {a0 : PChecker} {a_0 : Option Addr} {a1 : PTerm} {s_1 : SlV} {a2 : List (ByteArray × Int)} {a_2 : Option Addr} (S : St A N w w [] [oT a_0 a0.t, oDTerm s_1 a1.sub, fScope a_2 a2, oEt]) {r : Int × (Option (Int × List Int))} (H : rec_types_checker_told a0 a1 a2 = some r), Calls PP F_types_checker_told #[.agg (Checker.C (⟨a_0⟩ : Checker)).toArray, .agg (Term.C (⟨a1.kind, a1.name, a1.other, a1.form, s_1⟩ : Term)).toArray, .pointer a_2] w fun e w' => ∃ v, e = .returned v ∧ (∃ vo0 : Value, v = .tuple #[.int .i64 r.1, vo0] ∧ St A N w w' [oE vo0 r.2] [])) {rec_types_checker_checked : PChecker → PTerm → (List (ByteArray × Int)) → Int → Option (Option (Int × List Int))} (hrec_types_checker_checked : ∀ {A : Nat → Prop} {N : Oth} {w : World} {a0 : PChecker} {a_0 : Option Addr} {a1 : PTerm} {s_1 : SlV} {a2 : List (ByteArray × Int)} {a_2 : Option Addr} {a3 : Int} (S : St A N w w [] [oT a_0 a0.t, oDTerm s_1 a1.sub, fScope a_2 a2, oEt]) {r : (Option (Int × List Int))} (H : rec_types_checker_checked a0 a1 a2 a3 = some r), Calls PP F_types_checker_checked #[.agg (Checker.C (⟨a_0⟩ : Checker)).toArray, .agg (Term.C (⟨a1.kind, a1.name, a1.other, a1.form, s_1⟩ : Term)).toArray, .pointer a_2, .int .i64 a3] w fun e w' => ∃ v, e = .returned v ∧ (∃ vo0 : Value, v = vo0 ∧ St A N w w' [oE vo0 r] [])) {A : Nat → Prop} {N : Oth} {w : World} {a0 : PChecker} {a_0 : Option Addr} {a1 : PTerm} {s_1 : SlV} {a2 : List (ByteArray × Int)} {a_2 : Option Addr} (S : St A N w w [] [oT a_0 a0.t, oDTerm s_1 a1.sub, fScope a_2 a2, oEt]) {r : Int × (Option (Int × List Int))} (H : types_checker_told.g rec_types_checker_told rec_types_checker_checked a0 a1 a2 = some r) :
  Calls PP F_types_checker_told #[.agg (Checker.C (⟨a_0⟩ : Checker)).toArray, .agg (Term.C (⟨a1.kind, a1.name, a1.other, a1.form, s_1⟩ : Term)).toArray, .pointer a_2] w fun e w' => ∃ v, e = .returned v ∧ (∃ vo0 : Value, v = .tuple #[.int .i64 r.1, vo0] ∧ St A N w w' [oE vo0 r.2] []) := by
 unfold types_checker_told.g at H
 refine calls_of_wc (n := 175) fn_types_checker_told rfl rfl (by simp) ?_
 refine wc_seq (wc_region ?_)
 refine wl_box_agg rfl (by decide) fun b2 w1 hw1 => ?_
 replace S : St A N w w1 [oB b2 T_Checker (Checker.C (⟨a_0⟩ : Checker))] [oT a_0 a0.t, oDTerm s_1 a1.sub, fScope a_2 a2, oEt] := S.new hw1
 refine wl_box_agg rfl (by decide) fun b4 w3 hw3 => ?_
 replace S : St A N w w3 [oB b4 T_Term (Term.C (⟨a1.kind, a1.name, a1.other, a1.form, s_1⟩ : Term)), oB b2 T_Checker (Checker.C (⟨a_0⟩ : Checker))] [oT a_0 a0.t, oDTerm s_1 a1.sub, fScope a_2 a2, oEt] := S.new hw3
 refine wd (does_as_i rfl) ?_
 refine wd (does_assign rfl) ?_
 refine wl_nil ?_
 refine wc_seq (wc_seq (wc_region ?_))
 refine wd (does_fieldAddr fl_Term_kind rfl (o' := 0) rfl) ?_
 refine wd (does_load on_api_TermKind rfl ((S.blk 0).cell (Term.get_kind _))) ?_
 refine wl_nil ?_
 refine wc_block ?_
 refine wc_seq (wc_region ?_)
 refine wd (does_eq rfl rfl) ?_
 refine wd (does_as_b rfl) ?_
 refine wl_nil ?_
 refine wc_if rfl (fun hc5 => ?_) (fun hc5 => ?_)
 ·replace H := if_t hc5 H
  refine wc_seq (wc_region ?_)
  refine wd (does_mv_p rfl) ?_
  refine wd (does_fieldAddr fl_Term_name rfl (o' := 1) rfl) ?_
  refine wd (does_load on_string rfl ((S.blk 0).cell (Term.get_name _))) ?_
  obtain ⟨r6, er6, H⟩ := bind_ex H
  obtain ⟨B8, MB8, SB8, back⟩ := S.calln 0 ((.z 2 rfl .nil))
  refine wl_call (does_call ca_types_scope_find) (by decide) (types_scope_find_st SB8 er6) ?_
  rintro _ w7 ⟨v9, rfl, S2⟩
  replace S : St A N w w7 [oE v9 r6.2, oB b4 T_Term (Term.C (⟨a1.kind, a1.name, a1.other, a1.form, s_1⟩ : Term)), oB b2 T_Checker (Checker.C (⟨a_0⟩ : Checker))] [oT a_0 a0.t, oDTerm s_1 a1.sub, fScope a_2 a2, oEt] := back _ _ _ _ S2 rfl
  clear back S2 SB8
  refine wd (does_extract rfl rfl) ?_
  refine wd (does_extract rfl rfl) ?_
  refine wd (does_as_i rfl) ?_
  refine wd (does_assign rfl) ?_
  refine wl_nil ?_
  refine wc_ret ?_
  refine ⟨_, (rets2 (retOne_tmp rfl) (retOne_tmp rfl)), ?_⟩
  replace S : St A N w w7 [oE v9 r6.2] [] := S.arr [0] []
  obtain rfl := Option.some.inj H
  exact ⟨v9, rfl, S⟩
 replace H := if_f hc5 H
 refine wc_seq (wc_region ?_)
 refine wd (does_eq rfl rfl) ?_
 refine wd (does_as_b rfl) ?_
 refine wl_nil ?_
 refine wc_if rfl (fun hc10 => ?_) (fun hc10 => ?_)
 ·replace H := if_t hc10 H
  refine wc_seq (wc_region ?_)
  refine wd (does_load_agg ag_Checker rfl ((S.blk 1).all _ (Checker.len _)) (Checker.len _)) ?_
  refine wd (does_load_agg ag_Term rfl ((S.blk 0).all _ (Term.len _)) (Term.len _)) ?_
  refine wd (does_mv_p rfl) ?_
  obtain ⟨r11, er11, H⟩ := bind_ex H
  obtain ⟨B13, MB13, SB13, back⟩ := S.calln 0 ((.z 0 rfl (.z 1 rfl (.z 2 rfl (.z 3 rfl .nil)))))
  refine wl_call (does_call ca_types_checker_head) (by decide) (types_checker_head_gst hrec_types_checker_told (a0 := a0) (a1 := a1) SB13 er11) ?_
  rintro _ w12 ⟨v14, rfl, S2⟩
  replace S : St A N w w12 [oE v14 r11.2, oB b4 T_Term (Term.C (⟨a1.kind, a1.name, a1.other, a1.form, s_1⟩ : Term)), oB b2 T_Checker (Checker.C (⟨a_0⟩ : Checker))] [oT a_0 a0.t, oDTerm s_1 a1.sub, fScope a_2 a2, oEt] := back _ _ _ _ S2 rfl
  clear back S2 SB13
  refine wd (does_mv_t rfl) ?_
  refine wd (does_extract rfl rfl) ?_
  refine wd (does_extract rfl rfl) ?_
  refine wl_alloc ze_Nd (by decide) fun b16 w15 hw15 => ?_
  replace S : St A N w w15 [oB b16 T_Nd (Nd.C Nd.z), oE v14 r11.2, oB b4 T_Term (Term.C (⟨a1.kind, a1.name, a1.other, a1.form, s_1⟩ : Term)), oB b2 T_Checker (Checker.C (⟨a_0⟩ : Checker))] [oT a_0 a0.t, oDTerm s_1 a1.sub, fScope a_2 a2, oEt] := S.new hw15
  refine wl_store_agg ag_Nd rfl rfl (S.blk 0) (Nd.len _) (by rw [Nd.len]; decide) (Nd.one _) (store_all (Nd.len _)) fun w17 B hw17 zw17 => ?_
  replace S : St A N w w17 [oB b16 T_Nd (Nd.C r11.1), oE v14 r11.2, oB b4 T_Term (Term.C (⟨a1.kind, a1.name, a1.other, a1.form, s_1⟩ : Term)), oB b2 T_Checker (Checker.C (⟨a_0⟩ : Checker))] [oT a_0 a0.t, oDTerm s_1 a1.sub, fScope a_2 a2, oEt] := S.store 0 B hw17
  clear B
  refine wd (does_assign rfl) ?_
  refine wl_nil ?_
  refine wc_seq (wc_seq (wc_region ?_))
  refine wd (does_move rfl) ?_
  refine wd (does_neE if_error rfl rfl (S.onO 1)) ?_
  refine wl_nil ?_
  refine wc_if rfl (fun hc18 => ?_) (fun hc18 => ?_)
  ·replace H := if_t hc18 H
   refine wc_seq (wc_region ?_)
   refine wd (does_move rfl) ?_
   refine wd (does_as_i rfl) ?_
   refine wd (does_assign rfl) ?_
   refine wl_nil ?_
   refine wc_ret ?_
   refine ⟨_, (rets2 (retOne_tmp rfl) (retOne_tmp rfl)), ?_⟩
   replace S : St A N w w17 [oE v14 r11.2] [] := S.arr [1] []
   obtain rfl := Option.some.inj H
   exact ⟨v14, rfl, S⟩
  replace H := if_f hc18 H
  refine wc_skip ?_
  refine wc_seq ?_
  obtain ⟨r19, er19, H⟩ := bind_ex H
  refine wc_semi 8 [7]
   (fun i v u => match i with
   | 7 => ∃ v20 : Value, v = v20 ∧ ∃ F, (oE v20 r19).holds u F ∧ ∀ i, F i → w17.heap.size ≤ i
   | _ => True) hmix (by kernel_rfl) (by kernel_rfl) ?_ ?_
  ·intro i v u u' hi hx hv
   match i, hv with
   | 7, ⟨b, e1, F, hb, hl⟩ => exact ⟨b, e1, F, OA.loc _ hb hx (fun _ _ x => x), hl⟩
   | 0, _ => exact trivial
   | 1, _ => exact trivial
   | 2, _ => exact trivial
   | 3, _ => exact trivial
   | 4, _ => exact trivial
   | 5, _ => exact trivial
   | 6, _ => exact trivial
   | _ + 8, _ => exact trivial
  refine wm_does (fun v K => does_fieldAddr fl_Nd_r rfl (o' := 3) rfl) rfl ?_
  refine wm_does (fun v K => does_load on_int rfl (((S.ext K).blk 0).cell (Nd.get_r _))) rfl ?_
  refine wm_does (fun v K => does_load_agg ag_Checker rfl (((S.ext K).blk 3).all _ (Checker.len _)) (Checker.len _)) rfl ?_
  refine wm_does (fun v K => does_load_agg ag_Term rfl (((S.ext K).blk 2).all _ (Term.len _)) (Term.len _)) rfl ?_
  refine wm_does (fun v K => does_mv_p rfl) rfl ?_
  refine wm_does (fun v K => does_fieldAddr fl_Nd_l rfl (o' := 2) rfl) rfl ?_
  refine wm_does (fun v K => does_load on_int rfl (((S.ext K).blk 0).cell (Nd.get_l _))) rfl ?_
  refine wm_newcall (fun g v K G => (have ⟨M, SS⟩ := (S.ext K).lend ((.z 0 rfl (.z 1 rfl (.z 2 rfl (.z 3 rfl .nil))))); ⟨_, _, does_callg ca_types_checker_check (cons2 rfl (cons2 rfl (cons2 rfl (cons2 rfl (cons2 rfl rfl))))), newc (types_checker_check_gst hrec_types_checker_checked (a0 := a0) (a1 := a1) SS er19) fun _ _ ⟨v20, hv, h⟩ => ⟨h.frame, v20, hv, h.newP.elim fun F hF => ⟨F, hF.1, fun i hi => by have := hF.2 i hi; have := K.size; omega⟩⟩⟩)) rfl ?_
  refine wm_nil fun g w21 K hV => ?_
  obtain ⟨v20, hv227, F7, hb7, hf7⟩ := hV 7 rfl (by decide)
  replace S : St A N w w21 [oE v20 r19, oB b16 T_Nd (Nd.C r11.1), oE v14 r11.2, oB b4 T_Term (Term.C (⟨a1.kind, a1.name, a1.other, a1.form, s_1⟩ : Term)), oB b2 T_Checker (Checker.C (⟨a_0⟩ : Checker))] [oT a_0 a0.t, oDTerm s_1 a1.sub, fScope a_2 a2, oEt] := S.add (b := oE v20 r19) K hb7 hf7
  clear K hV
  refine wd (does_as_i rfl) ?_
  refine wd (does_assign hv227) ?_
  refine wl_nil ?_
  refine wc_ret ?_
  refine ⟨_, (rets2 (retOne_tmp rfl) (retOne_tmp rfl)), ?_⟩
  replace S : St A N w w21 [oE v20 r19] [] := S.arr [0] []
  obtain rfl := Option.some.inj H
  exact ⟨v20, rfl, S⟩
 replace H := if_f hc10 H
 refine wc_seq (wc_region ?_)
 refine wd (does_eq rfl rfl) ?_
 refine wd (does_as_b rfl) ?_
 refine wl_nil ?_
 refine wc_if rfl (fun hc23 => ?_) (fun hc23 => ?_)
 ·replace H := if_t hc23 H
  refine wc_seq (wc_region ?_)
  refine wd (does_load_agg ag_Checker rfl ((S.blk 1).all _ (Checker.len _)) (Checker.len _)) ?_
  refine wd (does_load_agg ag_Term rfl ((S.blk 0).all _ (Term.len _)) (Term.len _)) ?_
  refine wd (does_mv_p rfl) ?_
  obtain ⟨r24, er24, H⟩ := bind_ex H
  obtain ⟨B26, MB26, SB26, back⟩ := S.calln 0 ((.z 0 rfl (.z 1 rfl (.z 2 rfl (.z 3 rfl .nil)))))
  refine wl_call (does_call ca_types_checker_head) (by decide) (types_checker_head_gst hrec_types_checker_told (a0 := a0) (a1 := a1) SB26 er24) ?_
  rintro _ w25 ⟨v27, rfl, S2⟩
  replace S : St A N w w25 [oE v27 r24.2, oB b4 T_Term (Term.C (⟨a1.kind, a1.name, a1.other, a1.form, s_1⟩ : Term)), oB b2 T_Checker (Checker.C (⟨a_0⟩ : Checker))] [oT a_0 a0.t, oDTerm s_1 a1.sub, fScope a_2 a2, oEt] := back _ _ _ _ S2 rfl
  clear back S2 SB26
  refine wd (does_mv_t rfl) ?_
  refine wd (does_extract rfl rfl) ?_
  refine wd (does_extract rfl rfl) ?_
  refine wl_alloc ze_Nd (by decide) fun b29 w28 hw28 => ?_
  replace S : St A N w w28 [oB b29 T_Nd (Nd.C Nd.z), oE v27 r24.2, oB b4 T_Term (Term.C (⟨a1.kind, a1.name, a1.other, a1.form, s_1⟩ : Term)), oB b2 T_Checker (Checker.C (⟨a_0⟩ : Checker))] [oT a_0 a0.t, oDTerm s_1 a1.sub, fScope a_2 a2, oEt] := S.new hw28
  refine wl_store_agg ag_Nd rfl rfl (S.blk 0) (Nd.len _) (by rw [Nd.len]; decide) (Nd.one _) (store_all (Nd.len _)) fun w30 B hw30 zw30 => ?_
  replace S : St A N w w30 [oB b29 T_Nd (Nd.C r24.1), oE v27 r24.2, oB b4 T_Term (Term.C (⟨a1.kind, a1.name, a1.other, a1.form, s_1⟩ : Term)), oB b2 T_Checker (Checker.C (⟨a_0⟩ : Checker))] [oT a_0 a0.t, oDTerm s_1 a1.sub, fScope a_2 a2, oEt] := S.store 0 B hw30
  clear B
  refine wd (does_assign rfl) ?_
  refine wl_nil ?_
  refine wc_seq (wc_region ?_)
  refine wd (does_fieldAddr fl_Nd_l rfl (o' := 2) rfl) ?_
  refine wd (does_load on_int rfl ((S.blk 0).cell (Nd.get_l _))) ?_
  refine wd (does_move rfl) ?_
  refine wd (does_as_i rfl) ?_
  refine wd (does_assign rfl) ?_
  refine wl_nil ?_
  refine wc_ret ?_
  refine ⟨_, (rets2 (retOne_tmp rfl) (retOne_tmp rfl)), ?_⟩
  replace S : St A N w w30 [oE v27 r24.2] [] := S.arr [1] []
  obtain rfl := Option.some.inj H
  exact ⟨v27, rfl, S⟩
 replace H := if_f hc23 H
 refine wc_seq (wc_region ?_)
 refine wd (does_eq rfl rfl) ?_
 refine wd (does_as_b rfl) ?_
 refine wl_nil ?_
 refine wc_if rfl (fun hc31 => ?_) (fun hc31 => ?_)
 ·replace H := if_t hc31 H
  refine wc_seq (wc_region ?_)
  refine wd (does_load_agg ag_Checker rfl ((S.blk 1).all _ (Checker.len _)) (Checker.len _)) ?_
  refine wd (does_load_agg ag_Term rfl ((S.blk 0).all _ (Term.len _)) (Term.len _)) ?_
  refine wd (does_mv_p rfl) ?_
  obtain ⟨r32, er32, H⟩ := bind_ex H
  obtain ⟨B34, MB34, SB34, back⟩ := S.calln 0 ((.z 0 rfl (.z 1 rfl (.z 2 rfl (.z 3 rfl .nil)))))
  refine wl_call (does_call ca_types_checker_head) (by decide) (types_checker_head_gst hrec_types_checker_told (a0 := a0) (a1 := a1) SB34 er32) ?_
  rintro _ w33 ⟨v35, rfl, S2⟩
  replace S : St A N w w33 [oE v35 r32.2, oB b4 T_Term (Term.C (⟨a1.kind, a1.name, a1.other, a1.form, s_1⟩ : Term)), oB b2 T_Checker (Checker.C (⟨a_0⟩ : Checker))] [oT a_0 a0.t, oDTerm s_1 a1.sub, fScope a_2 a2, oEt] := back _ _ _ _ S2 rfl
  clear back S2 SB34
  refine wd (does_mv_t rfl) ?_
  refine wd (does_extract rfl rfl) ?_
  refine wd (does_extract rfl rfl) ?_
  refine wl_alloc ze_Nd (by decide) fun b37 w36 hw36 => ?_
  replace S : St A N w w36 [oB b37 T_Nd (Nd.C Nd.z), oE v35 r32.2, oB b4 T_Term (Term.C (⟨a1.kind, a1.name, a1.other, a1.form, s_1⟩ : Term)), oB b2 T_Checker (Checker.C (⟨a_0⟩ : Checker))] [oT a_0 a0.t, oDTerm s_1 a1.sub, fScope a_2 a2, oEt] := S.new hw36
  refine wl_store_agg ag_Nd rfl rfl (S.blk 0) (Nd.len _) (by rw [Nd.len]; decide) (Nd.one _) (store_all (Nd.len _)) fun w38 B hw38 zw38 => ?_
  replace S : St A N w w38 [oB b37 T_Nd (Nd.C r32.1), oE v35 r32.2, oB b4 T_Term (Term.C (⟨a1.kind, a1.name, a1.other, a1.form, s_1⟩ : Term)), oB b2 T_Checker (Checker.C (⟨a_0⟩ : Checker))] [oT a_0 a0.t, oDTerm s_1 a1.sub, fScope a_2 a2, oEt] := S.store 0 B hw38
  clear B
  refine wd (does_assign rfl) ?_
  refine wl_nil ?_
  refine wc_seq (wc_region ?_)
  refine wd (does_fieldAddr fl_Nd_r rfl (o' := 3) rfl) ?_
  refine wd (does_load on_int rfl ((S.blk 0).cell (Nd.get_r _))) ?_
  refine wd (does_move rfl) ?_
  refine wd (does_as_i rfl) ?_
  refine wd (does_assign rfl) ?_
  refine wl_nil ?_
  refine wc_ret ?_
  refine ⟨_, (rets2 (retOne_tmp rfl) (retOne_tmp rfl)), ?_⟩
  replace S : St A N w w38 [oE v35 r32.2] [] := S.arr [1] []
  obtain rfl := Option.some.inj H
  exact ⟨v35, rfl, S⟩
 replace H := if_f hc31 H
 refine wc_seq (wc_region ?_)
 refine wd (does_eq rfl rfl) ?_
 refine wd (does_as_b rfl) ?_
 refine wl_nil ?_
 refine wc_if rfl (fun hc39 => ?_) (fun hc39 => ?_)
 ·replace H := if_t hc39 H
  refine wc_seq (wc_seq (wc_region ?_))
  refine wd (does_fieldAddr fl_Checker_t rfl (o' := 0) rfl) ?_
  refine wd (does_load on_dictum_formula_has rfl ((S.blk 1).cell (Checker.get_t _))) ?_
  refine wd (does_fieldAddr fl_Term_form rfl (o' := 3) rfl) ?_
  refine wd (does_load on_int rfl ((S.blk 0).cell (Term.get_form _))) ?_
  obtain ⟨r40, er40, H⟩ := bind_ex H
  obtain ⟨B42, MB42, SB42, back⟩ := S.calln 0 ((.z 0 rfl .nil))
  refine wl_call (does_call ca_formula_Table_Node) (by decide) (formula_Table_Node_st SB42 er40) ?_
  rintro _ w41 ⟨rfl, S2⟩
  replace S : St A N w w41 [oB b4 T_Term (Term.C (⟨a1.kind, a1.name, a1.other, a1.form, s_1⟩ : Term)), oB b2 T_Checker (Checker.C (⟨a_0⟩ : Checker))] [oT a_0 a0.t, oDTerm s_1 a1.sub, fScope a_2 a2, oEt] := back _ _ _ _ S2 rfl
  clear back S2 SB42
  refine wd (does_mv_t rfl) ?_
  refine wd (does_extract rfl rfl) ?_
  refine wd (does_extract rfl rfl) ?_
  refine wl_alloc ze_Nd (by decide) fun b44 w43 hw43 => ?_
  replace S : St A N w w43 [oB b44 T_Nd (Nd.C Nd.z), oB b4 T_Term (Term.C (⟨a1.kind, a1.name, a1.other, a1.form, s_1⟩ : Term)), oB b2 T_Checker (Checker.C (⟨a_0⟩ : Checker))] [oT a_0 a0.t, oDTerm s_1 a1.sub, fScope a_2 a2, oEt] := S.new hw43
  refine wl_store_agg ag_Nd rfl rfl (S.blk 0) (Nd.len _) (by rw [Nd.len]; decide) (Nd.one _) (store_all (Nd.len _)) fun w45 B hw45 zw45 => ?_
  replace S : St A N w w45 [oB b44 T_Nd (Nd.C r40.1), oB b4 T_Term (Term.C (⟨a1.kind, a1.name, a1.other, a1.form, s_1⟩ : Term)), oB b2 T_Checker (Checker.C (⟨a_0⟩ : Checker))] [oT a_0 a0.t, oDTerm s_1 a1.sub, fScope a_2 a2, oEt] := S.store 0 B hw45
  clear B
  refine wd (does_as_b rfl) ?_
  refine wl_nil ?_
  refine wc_seq (wc_region ?_)
  refine wd (does_mv_b rfl) ?_
  refine wd (does_not rfl) ?_
  refine wl_nil ?_
  refine wc_if rfl (fun hc46 => ?_) (fun hc46 => ?_)
  ·replace H := if_t hc46 H
   refine wc_seq (wc_region ?_)
   refine wd (Does.to (v' := .agg (Refusal.C (⟨31, SlV.nil⟩ : Refusal)).toArray) (does_buildv (vs := [(0, .int .i64 31)]) bu_Refusal (consP rfl rfl) (Bld.one rfl rfl (by rw [Refusal.len]; decide) (Refusal.set_code _ _) Bld.nil)) rfl) ?_
   refine wl_box_agg rfl (by decide) fun b48 w47 hw47 => ?_
   replace S : St A N w w47 [oB b48 T_Refusal (Refusal.C (⟨31, SlV.nil⟩ : Refusal)), oB b44 T_Nd (Nd.C r40.1), oB b4 T_Term (Term.C (⟨a1.kind, a1.name, a1.other, a1.form, s_1⟩ : Term)), oB b2 T_Checker (Checker.C (⟨a_0⟩ : Checker))] [oT a_0 a0.t, oDTerm s_1 a1.sub, fScope a_2 a2, oEt] := S.new hw47
   refine wd (does_makeInterface rfl) ?_
   replace S := S.nil T_int 1 IC
   replace S := S.front 1
   replace S : St A N w w47 [oE (.iface T_P_Refusal (.pointer (some ⟨b48, 0, none⟩))) (some (31, ([] : List Int))), oB b44 T_Nd (Nd.C r40.1), oB b4 T_Term (Term.C (⟨a1.kind, a1.name, a1.other, a1.form, s_1⟩ : Term)), oB b2 T_Checker (Checker.C (⟨a_0⟩ : Checker))] [oT a_0 a0.t, oDTerm s_1 a1.sub, fScope a_2 a2, oEt] := S.mkE
   refine wd (does_as_i rfl) ?_
   refine wd (does_assign rfl) ?_
   refine wl_nil ?_
   refine wc_ret ?_
   refine ⟨_, (rets2 (retOne_tmp rfl) (retOne_tmp rfl)), ?_⟩
   replace S : St A N w w47 [oE (.iface T_P_Refusal (.pointer (some ⟨b48, 0, none⟩))) (some (31, ([] : List Int)))] [] := S.arr [0] []
   obtain rfl := Option.some.inj H
   exact ⟨(.iface T_P_Refusal (.pointer (some ⟨b48, 0, none⟩))), rfl, S⟩
  replace H := if_f hc46 H
  refine wc_skip ?_
  refine wc_seq ?_
  obtain ⟨r49, er49, H⟩ := bind_ex H
  refine wc_semi 8 [7]
   (fun i v u => match i with
   | 7 => ∃ v50 : Value, v = v50 ∧ ∃ F, (oE v50 r49).holds u F ∧ ∀ i, F i → w45.heap.size ≤ i
   | _ => True) hmix (by kernel_rfl) (by kernel_rfl) ?_ ?_
  ·intro i v u u' hi hx hv
   match i, hv with
   | 7, ⟨b, e1, F, hb, hl⟩ => exact ⟨b, e1, F, OA.loc _ hb hx (fun _ _ x => x), hl⟩
   | 0, _ => exact trivial
   | 1, _ => exact trivial
   | 2, _ => exact trivial
   | 3, _ => exact trivial
   | 4, _ => exact trivial
   | 5, _ => exact trivial
   | 6, _ => exact trivial
   | _ + 8, _ => exact trivial
  refine wm_does (fun v K => does_fieldAddr fl_Term_form rfl (o' := 3) rfl) rfl ?_
  refine wm_does (fun v K => does_load on_int rfl (((S.ext K).blk 1).cell (Term.get_form _))) rfl ?_
  refine wm_does (fun v K => does_load_agg ag_Checker rfl (((S.ext K).blk 2).all _ (Checker.len _)) (Checker.len _)) rfl ?_
  refine wm_does (fun v K => does_load_agg ag_Term rfl (((S.ext K).blk 1).all _ (Term.len _)) (Term.len _)) rfl ?_
  refine wm_does (fun v K => does_mv_p rfl) rfl ?_
  refine wm_does (fun v K => does_fieldAddr fl_Term_form rfl (o' := 3) rfl) rfl ?_
  refine wm_does (fun v K => does_load on_int rfl (((S.ext K).blk 1).cell (Term.get_form _))) rfl ?_
  refine wm_newcall (fun g v K G => (have ⟨M, SS⟩ := (S.ext K).lend ((.z 0 rfl (.z 1 rfl (.z 2 rfl (.z 3 rfl .nil))))); ⟨_, _, does_callg ca_types_checker_check (cons2 rfl (cons2 rfl (cons2 rfl (cons2 rfl (cons2 rfl rfl))))), newc (types_checker_check_gst hrec_types_checker_checked (a0 := a0) (a1 := a1) SS er49) fun _ _ ⟨v50, hv, h⟩ => ⟨h.frame, v50, hv, h.newP.elim fun F hF => ⟨F, hF.1, fun i hi => by have := hF.2 i hi; have := K.size; omega⟩⟩⟩)) rfl ?_
  refine wm_nil fun g w51 K hV => ?_
  obtain ⟨v50, hv527, F7, hb7, hf7⟩ := hV 7 rfl (by decide)
  replace S : St A N w w51 [oE v50 r49, oB b44 T_Nd (Nd.C r40.1), oB b4 T_Term (Term.C (⟨a1.kind, a1.name, a1.other, a1.form, s_1⟩ : Term)), oB b2 T_Checker (Checker.C (⟨a_0⟩ : Checker))] [oT a_0 a0.t, oDTerm s_1 a1.sub, fScope a_2 a2, oEt] := S.add (b := oE v50 r49) K hb7 hf7
  clear K hV
  refine wd (does_as_i rfl) ?_
  refine wd (does_assign hv527) ?_
  refine wl_nil ?_
  refine wc_ret ?_
  refine ⟨_, (rets2 (retOne_tmp rfl) (retOne_tmp rfl)), ?_⟩
  replace S : St A N w w51 [oE v50 r49] [] := S.arr [0] []
  obtain rfl := Option.some.inj H
  exact ⟨v50, rfl, S⟩
 replace H := if_f hc39 H
 refine wc_seq (wc_region ?_)
 refine wd (does_eq rfl rfl) ?_
 refine wd (does_as_b rfl) ?_
 refine wl_nil ?_
 refine wc_if rfl (fun hc53 => ?_) (fun hc53 => ?_)
 ·replace H := if_t hc53 H
  refine wc_seq (wc_region ?_)
  refine wd (does_load_agg ag_Checker rfl ((S.blk 1).all _ (Checker.len _)) (Checker.len _)) ?_
  refine wd (does_load_agg ag_Term rfl ((S.blk 0).all _ (Term.len _)) (Term.len _)) ?_
  refine wd (does_mv_p rfl) ?_
  obtain ⟨r54, er54, H⟩ := bind_ex H
  obtain ⟨B56, MB56, SB56, back⟩ := S.calln 0 ((.z 0 rfl (.z 1 rfl (.z 2 rfl (.z 3 rfl .nil)))))
  refine wl_call (does_call ca_types_checker_part) (by decide) (types_checker_part_gst hrec_types_checker_told (a0 := a0) (a1 := a1) SB56 er54) ?_
  rintro _ w55 ⟨v57, rfl, S2⟩
  replace S : St A N w w55 [oE v57 r54.2, oB b4 T_Term (Term.C (⟨a1.kind, a1.name, a1.other, a1.form, s_1⟩ : Term)), oB b2 T_Checker (Checker.C (⟨a_0⟩ : Checker))] [oT a_0 a0.t, oDTerm s_1 a1.sub, fScope a_2 a2, oEt] := back _ _ _ _ S2 rfl
  clear back S2 SB56
  refine wd (does_mv_t rfl) ?_
  refine wd (does_extract rfl rfl) ?_
  refine wd (does_extract rfl rfl) ?_
  refine wd (does_as_i rfl) ?_
  refine wd (does_assign rfl) ?_
  refine wl_nil ?_
  refine wc_seq (wc_seq (wc_region ?_))
  refine wd (does_move rfl) ?_
  refine wd (does_neE if_error rfl rfl (S.onO 0)) ?_
  refine wl_nil ?_
  refine wc_if rfl (fun hc58 => ?_) (fun hc58 => ?_)
  ·replace H := if_t hc58 H
   refine wc_seq (wc_region ?_)
   refine wd (does_move rfl) ?_
   refine wd (does_as_i rfl) ?_
   refine wd (does_assign rfl) ?_
   refine wl_nil ?_
   refine wc_ret ?_
   refine ⟨_, (rets2 (retOne_tmp rfl) (retOne_tmp rfl)), ?_⟩
   replace S : St A N w w55 [oE v57 r54.2] [] := S.arr [0] []
   obtain rfl := Option.some.inj H
   exact ⟨v57, rfl, S⟩
  replace H := if_f hc58 H
  refine wc_skip ?_
  refine wc_seq ?_
  refine wc_ws hmix fun w62 K => ?_
  replace S := S.ext K
  clear K
  refine ws_semi 0 7 [6] (by kernel_rfl) (by decide) (by kernel_rfl)
   (V := fun i v u => match i with
   | 6 => ∃ b : Nat, v = Value.pointer (some ⟨b, 0, none⟩) ∧ Blk u b T_Scope (Scope.C ⟨a1.name, r54.1, a_2⟩) ∧ w62.heap.size ≤ b
   | _ => True) ?_ ?_
  ·intro i v u u' hi hx hv
   match i, hv with
   | 6, ⟨b, e1, hb, hl⟩ => exact ⟨b, e1, hb.ext hx, hl⟩
   | 0, _ => exact trivial
   | 1, _ => exact trivial
   | 2, _ => exact trivial
   | 3, _ => exact trivial
   | 4, _ => exact trivial
   | 5, _ => exact trivial
   | _ + 7, _ => exact trivial
  refine wm_does (fun v K => does_load_agg ag_Checker rfl (((S.ext K).blk 2).all _ (Checker.len _)) (Checker.len _)) rfl ?_
  refine wm_does (fun v K => does_load_agg ag_Term rfl (((S.ext K).blk 1).all _ (Term.len _)) (Term.len _)) rfl ?_
  refine wm_does (fun v K => does_mv_p rfl) rfl ?_
  refine wm_does (fun v K => does_fieldAddr fl_Term_name rfl (o' := 1) rfl) rfl ?_
  refine wm_does (fun v K => does_load on_string rfl (((S.ext K).blk 1).cell (Term.get_name _))) rfl ?_
  refine wm_does (fun v K => does_mv_i rfl) rfl ?_
  refine wm_newcall (fun g v K G => ⟨_, _, does_callg ca_types_scope_with (cons2 rfl (cons2 rfl (cons2 rfl rfl))), newc (types_scope_with_ok _ _ _ _) fun _ _ ⟨b, hv, hx, hb, hl⟩ => ⟨hx, b, hv, hb, by have := K.size; omega⟩⟩) rfl ?_
  refine wm_nil fun g w64 K hV => ?_
  obtain ⟨b63, hv656, hb6, hf6⟩ := hV 6 rfl (by decide)
  replace S : St A N w w64 [oB b63 T_Scope (Scope.C ⟨a1.name, r54.1, a_2⟩), oE v57 r54.2, oB b4 T_Term (Term.C (⟨a1.kind, a1.name, a1.other, a1.form, s_1⟩ : Term)), oB b2 T_Checker (Checker.C (⟨a_0⟩ : Checker))] [oT a_0 a0.t, oDTerm s_1 a1.sub, fScope a_2 a2, oEt] := S.newAt K hb6 hf6
  replace S : St A N w w64 [oE v57 r54.2, oB b4 T_Term (Term.C (⟨a1.kind, a1.name, a1.other, a1.form, s_1⟩ : Term)), oB b2 T_Checker (Checker.C (⟨a_0⟩ : Checker))] [fScope (some ⟨b63, 0, none⟩) ((a1.name, r54.1) :: a2), oT a_0 a0.t, oDTerm s_1 a1.sub, fScope a_2 a2, oEt] := S.pushScope 0 2
  clear K hV
  refine ws_chain 7 8 (by kernel_rfl) (by decide) ?_
  obtain ⟨r66, er66, H⟩ := bind_ex H
  obtain ⟨B68, MB68, SB68, back⟩ := S.calln 0 ((.z 1 rfl (.z 2 rfl (.z 0 rfl (.z 4 rfl .nil)))))
  refine wl_call (does_callg ca_types_checker_part (cons2 rfl (cons2 rfl (cons2 rfl (cons2 hv656 rfl))))) (by decide) (types_checker_part_gst hrec_types_checker_told (a0 := a0) (a1 := a1) SB68 er66) ?_
  rintro _ w67 ⟨v69, rfl, S2⟩
  replace S : St A N w w67 [oE v69 r66.2, oE v57 r54.2, oB b4 T_Term (Term.C (⟨a1.kind, a1.name, a1.other, a1.form, s_1⟩ : Term)), oB b2 T_Checker (Checker.C (⟨a_0⟩ : Checker))] [fScope (some ⟨b63, 0, none⟩) ((a1.name, r54.1) :: a2), oT a_0 a0.t, oDTerm s_1 a1.sub, fScope a_2 a2, oEt] := back _ _ _ _ S2 rfl
  clear back S2 SB68
  refine wl_nil ⟨rfl, ?_⟩
  refine ws_semi 8 10 [] (by kernel_rfl) (by decide) (by kernel_rfl)
   (V := fun i v u => match i with
   | _ => True) ?_ ?_
  ·intro i v u u' hi hx hv
   match i, hv with
   | _, _ => exact trivial
  refine wm_does (fun v K => does_extract rfl rfl) rfl ?_
  refine wm_does (fun v K => does_extract rfl rfl) rfl ?_
  refine wm_nil fun g w70 K hV => ?_
  replace S := S.ext K
  clear K hV
  refine ws_tail 10 (by kernel_rfl) (by decide) ?_
  refine wd (does_as_i rfl) ?_
  refine wd (does_assign rfl) ?_
  refine wl_nil ?_
  refine wc_ret ?_
  refine ⟨_, (rets2 (retOne_tmp rfl) (retOne_tmp rfl)), ?_⟩
  replace S : St A N w w70 [oE v69 r66.2] [] := S.arr [0] []
  obtain rfl := Option.some.inj H
  exact ⟨v69, rfl, S⟩
 replace H := if_f hc53 H
 refine wc_seq (wc_region ?_)
 refine wd (does_eq rfl rfl) ?_
 refine wd (does_as_b rfl) ?_
 refine wl_nil ?_
 refine wc_if rfl (fun hc72 => ?_) (fun hc72 => ?_)
 ·replace H := if_t hc72 H
  refine wc_seq (wc_region ?_)
  refine wd (does_load_agg ag_Checker rfl ((S.blk 1).all _ (Checker.len _)) (Checker.len _)) ?_
  refine wd (does_load_agg ag_Term rfl ((S.blk 0).all _ (Term.len _)) (Term.len _)) ?_
  refine wd (does_mv_p rfl) ?_
  obtain ⟨r73, er73, H⟩ := bind_ex H
  obtain ⟨B75, MB75, SB75, back⟩ := S.calln 0 ((.z 0 rfl (.z 1 rfl (.z 2 rfl (.z 3 rfl .nil)))))
  refine wl_call (does_call ca_types_checker_head) (by decide) (types_checker_head_gst hrec_types_checker_told (a0 := a0) (a1 := a1) SB75 er73) ?_
  rintro _ w74 ⟨v76, rfl, S2⟩
  replace S : St A N w w74 [oE v76 r73.2, oB b4 T_Term (Term.C (⟨a1.kind, a1.name, a1.other, a1.form, s_1⟩ : Term)), oB b2 T_Checker (Checker.C (⟨a_0⟩ : Checker))] [oT a_0 a0.t, oDTerm s_1 a1.sub, fScope a_2 a2, oEt] := back _ _ _ _ S2 rfl
  clear back S2 SB75
  refine wd (does_mv_t rfl) ?_
  refine wd (does_extract rfl rfl) ?_
  refine wd (does_extract rfl rfl) ?_
  refine wl_alloc ze_Nd (by decide) fun b78 w77 hw77 => ?_
  replace S : St A N w w77 [oB b78 T_Nd (Nd.C Nd.z), oE v76 r73.2, oB b4 T_Term (Term.C (⟨a1.kind, a1.name, a1.other, a1.form, s_1⟩ : Term)), oB b2 T_Checker (Checker.C (⟨a_0⟩ : Checker))] [oT a_0 a0.t, oDTerm s_1 a1.sub, fScope a_2 a2, oEt] := S.new hw77
  refine wl_store_agg ag_Nd rfl rfl (S.blk 0) (Nd.len _) (by rw [Nd.len]; decide) (Nd.one _) (store_all (Nd.len _)) fun w79 B hw79 zw79 => ?_
  replace S : St A N w w79 [oB b78 T_Nd (Nd.C r73.1), oE v76 r73.2, oB b4 T_Term (Term.C (⟨a1.kind, a1.name, a1.other, a1.form, s_1⟩ : Term)), oB b2 T_Checker (Checker.C (⟨a_0⟩ : Checker))] [oT a_0 a0.t, oDTerm s_1 a1.sub, fScope a_2 a2, oEt] := S.store 0 B hw79
  clear B
  refine wd (does_assign rfl) ?_
  refine wl_nil ?_
  refine wc_seq (wc_seq (wc_region ?_))
  refine wd (does_move rfl) ?_
  refine wd (does_neE if_error rfl rfl (S.onO 1)) ?_
  refine wl_nil ?_
  refine wc_if rfl (fun hc80 => ?_) (fun hc80 => ?_)
  ·replace H := if_t hc80 H
   refine wc_seq (wc_region ?_)
   refine wd (does_move rfl) ?_
   refine wd (does_as_i rfl) ?_
   refine wd (does_assign rfl) ?_
   refine wl_nil ?_
   refine wc_ret ?_
   refine ⟨_, (rets2 (retOne_tmp rfl) (retOne_tmp rfl)), ?_⟩
   replace S : St A N w w79 [oE v76 r73.2] [] := S.arr [1] []
   obtain rfl := Option.some.inj H
   exact ⟨v76, rfl, S⟩
  replace H := if_f hc80 H
  refine wc_skip ?_
  refine wc_seq ?_
  refine wc_ws hmix fun w84 K => ?_
  replace S := S.ext K
  clear K
  refine ws_semi 0 8 [7] (by kernel_rfl) (by decide) (by kernel_rfl)
   (V := fun i v u => match i with
   | 7 => ∃ b : Nat, v = Value.pointer (some ⟨b, 0, none⟩) ∧ Blk u b T_Scope (Scope.C ⟨a1.name, r73.1.l, a_2⟩) ∧ w84.heap.size ≤ b
   | _ => True) ?_ ?_
  ·intro i v u u' hi hx hv
   match i, hv with
   | 7, ⟨b, e1, hb, hl⟩ => exact ⟨b, e1, hb.ext hx, hl⟩
   | 0, _ => exact trivial
   | 1, _ => exact trivial
   | 2, _ => exact trivial
   | 3, _ => exact trivial
   | 4, _ => exact trivial
   | 5, _ => exact trivial
   | 6, _ => exact trivial
   | _ + 8, _ => exact trivial
  refine wm_does (fun v K => does_load_agg ag_Checker rfl (((S.ext K).blk 3).all _ (Checker.len _)) (Checker.len _)) rfl ?_
  refine wm_does (fun v K => does_load_agg ag_Term rfl (((S.ext K).blk 2).all _ (Term.len _)) (Term.len _)) rfl ?_
  refine wm_does (fun v K => does_mv_p rfl) rfl ?_
  refine wm_does (fun v K => does_fieldAddr fl_Term_name rfl (o' := 1) rfl) rfl ?_
  refine wm_does (fun v K => does_load on_string rfl (((S.ext K).blk 2).cell (Term.get_name _))) rfl ?_
  refine wm_does (fun v K => does_fieldAddr fl_Nd_l rfl (o' := 2) rfl) rfl ?_
  refine wm_does (fun v K => does_load on_int rfl (((S.ext K).blk 0).cell (Nd.get_l _))) rfl ?_
  refine wm_newcall (fun g v K G => ⟨_, _, does_callg ca_types_scope_with (cons2 rfl (cons2 rfl (cons2 rfl rfl))), newc (types_scope_with_ok _ _ _ _) fun _ _ ⟨b, hv, hx, hb, hl⟩ => ⟨hx, b, hv, hb, by have := K.size; omega⟩⟩) rfl ?_
  refine wm_nil fun g w86 K hV => ?_
  obtain ⟨b85, hv877, hb7, hf7⟩ := hV 7 rfl (by decide)
  replace S : St A N w w86 [oB b85 T_Scope (Scope.C ⟨a1.name, r73.1.l, a_2⟩), oB b78 T_Nd (Nd.C r73.1), oE v76 r73.2, oB b4 T_Term (Term.C (⟨a1.kind, a1.name, a1.other, a1.form, s_1⟩ : Term)), oB b2 T_Checker (Checker.C (⟨a_0⟩ : Checker))] [oT a_0 a0.t, oDTerm s_1 a1.sub, fScope a_2 a2, oEt] := S.newAt K hb7 hf7
  replace S : St A N w w86 [oB b78 T_Nd (Nd.C r73.1), oE v76 r73.2, oB b4 T_Term (Term.C (⟨a1.kind, a1.name, a1.other, a1.form, s_1⟩ : Term)), oB b2 T_Checker (Checker.C (⟨a_0⟩ : Checker))] [fScope (some ⟨b85, 0, none⟩) ((a1.name, r73.1.l) :: a2), oT a_0 a0.t, oDTerm s_1 a1.sub, fScope a_2 a2, oEt] := S.pushScope 0 2
  clear K hV
  refine ws_chain 8 10 (by kernel_rfl) (by decide) ?_
  obtain ⟨r88, er88, H⟩ := bind_ex H
  obtain ⟨B90, MB90, SB90, back⟩ := S.calln 0 ((.z 1 rfl (.z 2 rfl (.z 0 rfl (.z 4 rfl .nil)))))
  refine wl_call (does_callg ca_types_checker_part (cons2 rfl (cons2 rfl (cons2 rfl (cons2 hv877 rfl))))) (by decide) (types_checker_part_gst hrec_types_checker_told (a0 := a0) (a1 := a1) SB90 er88) ?_
  rintro _ w89 ⟨v91, rfl, S2⟩
  replace S : St A N w w89 [oE v91 r88.2, oB b78 T_Nd (Nd.C r73.1), oE v76 r73.2, oB b4 T_Term (Term.C (⟨a1.kind, a1.name, a1.other, a1.form, s_1⟩ : Term)), oB b2 T_Checker (Checker.C (⟨a_0⟩ : Checker))] [fScope (some ⟨b85, 0, none⟩) ((a1.name, r73.1.l) :: a2), oT a_0 a0.t, oDTerm s_1 a1.sub, fScope a_2 a2, oEt] := back _ _ _ _ S2 rfl
  clear back S2 SB90
  refine wd (does_mv_t rfl) ?_
  refine wl_nil ⟨rfl, ?_⟩
  refine ws_semi 10 13 [] (by kernel_rfl) (by decide) (by kernel_rfl)
   (V := fun i v u => match i with
   | _ => True) ?_ ?_
  ·intro i v u u' hi hx hv
   match i, hv with
   | _, _ => exact trivial
  refine wm_does (fun v K => does_extract rfl rfl) rfl ?_
  refine wm_does (fun v K => does_extract rfl rfl) rfl ?_
  refine wm_does (fun v K => does_as_i rfl) rfl ?_
  refine wm_nil fun g w92 K hV => ?_
  replace S := S.ext K
  clear K hV
  refine ws_tail 13 (by kernel_rfl) (by decide) ?_
  refine wd (does_assign rfl) ?_
  refine wl_nil ?_
  refine wc_seq (wc_seq (wc_region ?_))
  refine wd (does_move rfl) ?_
  refine wd (does_neE if_error rfl rfl (S.onO 0)) ?_
  refine wl_nil ?_
  refine wc_if rfl (fun hc94 => ?_) (fun hc94 => ?_)
  ·replace H := if_t hc94 H
   refine wc_seq (wc_region ?_)
   refine wd (does_move rfl) ?_
   refine wd (does_as_i rfl) ?_
   refine wd (does_assign rfl) ?_
   refine wl_nil ?_
   refine wc_ret ?_
   refine ⟨_, (rets2 (retOne_tmp rfl) (retOne_tmp rfl)), ?_⟩
   replace S : St A N w w92 [oE v91 r88.2] [] := S.arr [0] []
   obtain rfl := Option.some.inj H
   exact ⟨v91, rfl, S⟩
  replace H := if_f hc94 H
  refine wc_skip ?_
  refine wc_seq ?_
  refine wc_ws hmix fun w98 K => ?_
  replace S := S.ext K
  clear K
  refine ws_semi 0 8 [7] (by kernel_rfl) (by decide) (by kernel_rfl)
   (V := fun i v u => match i with
   | 7 => ∃ b : Nat, v = Value.pointer (some ⟨b, 0, none⟩) ∧ Blk u b T_Scope (Scope.C ⟨a1.other, r73.1.r, a_2⟩) ∧ w98.heap.size ≤ b
   | _ => True) ?_ ?_
  ·intro i v u u' hi hx hv
   match i, hv with
   | 7, ⟨b, e1, hb, hl⟩ => exact ⟨b, e1, hb.ext hx, hl⟩
   | 0, _ => exact trivial
   | 1, _ => exact trivial
   | 2, _ => exact trivial
   | 3, _ => exact trivial
   | 4, _ => exact trivial
   | 5, _ => exact trivial
   | 6, _ => exact trivial
   | _ + 8, _ => exact trivial
  refine wm_does (fun v K => does_load_agg ag_Checker rfl (((S.ext K).blk 4).all _ (Checker.len _)) (Checker.len _)) rfl ?_
  refine wm_does (fun v K => does_load_agg ag_Term rfl (((S.ext K).blk 3).all _ (Term.len _)) (Term.len _)) rfl ?_
  refine wm_does (fun v K => does_mv_p rfl) rfl ?_
  refine wm_does (fun v K => does_fieldAddr fl_Term_other rfl (o' := 2) rfl) rfl ?_
  refine wm_does (fun v K => does_load on_string rfl (((S.ext K).blk 3).cell (Term.get_other _))) rfl ?_
  refine wm_does (fun v K => does_fieldAddr fl_Nd_r rfl (o' := 3) rfl) rfl ?_
  refine wm_does (fun v K => does_load on_int rfl (((S.ext K).blk 1).cell (Nd.get_r _))) rfl ?_
  refine wm_newcall (fun g v K G => ⟨_, _, does_callg ca_types_scope_with (cons2 rfl (cons2 rfl (cons2 rfl rfl))), newc (types_scope_with_ok _ _ _ _) fun _ _ ⟨b, hv, hx, hb, hl⟩ => ⟨hx, b, hv, hb, by have := K.size; omega⟩⟩) rfl ?_
  refine wm_nil fun g w100 K hV => ?_
  obtain ⟨b99, hv1017, hb7, hf7⟩ := hV 7 rfl (by decide)
  replace S : St A N w w100 [oB b99 T_Scope (Scope.C ⟨a1.other, r73.1.r, a_2⟩), oE v91 r88.2, oB b78 T_Nd (Nd.C r73.1), oE v76 r73.2, oB b4 T_Term (Term.C (⟨a1.kind, a1.name, a1.other, a1.form, s_1⟩ : Term)), oB b2 T_Checker (Checker.C (⟨a_0⟩ : Checker))] [fScope (some ⟨b85, 0, none⟩) ((a1.name, r73.1.l) :: a2), oT a_0 a0.t, oDTerm s_1 a1.sub, fScope a_2 a2, oEt] := S.newAt K hb7 hf7
  replace S : St A N w w100 [oE v91 r88.2, oB b78 T_Nd (Nd.C r73.1), oE v76 r73.2, oB b4 T_Term (Term.C (⟨a1.kind, a1.name, a1.other, a1.form, s_1⟩ : Term)), oB b2 T_Checker (Checker.C (⟨a_0⟩ : Checker))] [fScope (some ⟨b99, 0, none⟩) ((a1.other, r73.1.r) :: a2), fScope (some ⟨b85, 0, none⟩) ((a1.name, r73.1.l) :: a2), oT a_0 a0.t, oDTerm s_1 a1.sub, fScope a_2 a2, oEt] := S.pushScope 0 3
  clear K hV
  refine ws_chain 8 10 (by kernel_rfl) (by decide) ?_
  obtain ⟨r102, er102, H⟩ := bind_ex H
  obtain ⟨B104, MB104, SB104, back⟩ := S.calln 0 ((.z 2 rfl (.z 3 rfl (.z 0 rfl (.z 5 rfl .nil)))))
  refine wl_call (does_callg ca_types_checker_part (cons2 rfl (cons2 rfl (cons2 rfl (cons2 hv1017 rfl))))) (by decide) (types_checker_part_gst hrec_types_checker_told (a0 := a0) (a1 := a1) SB104 er102) ?_
  rintro _ w103 ⟨v105, rfl, S2⟩
  replace S : St A N w w103 [oE v105 r102.2, oE v91 r88.2, oB b78 T_Nd (Nd.C r73.1), oE v76 r73.2, oB b4 T_Term (Term.C (⟨a1.kind, a1.name, a1.other, a1.form, s_1⟩ : Term)), oB b2 T_Checker (Checker.C (⟨a_0⟩ : Checker))] [fScope (some ⟨b99, 0, none⟩) ((a1.other, r73.1.r) :: a2), fScope (some ⟨b85, 0, none⟩) ((a1.name, r73.1.l) :: a2), oT a_0 a0.t, oDTerm s_1 a1.sub, fScope a_2 a2, oEt] := back _ _ _ _ S2 rfl
  clear back S2 SB104
  refine wd (does_mv_t rfl) ?_
  refine wl_nil ⟨rfl, ?_⟩
  refine ws_semi 10 13 [] (by kernel_rfl) (by decide) (by kernel_rfl)
   (V := fun i v u => match i with
   | _ => True) ?_ ?_
  ·intro i v u u' hi hx hv
   match i, hv with
   | _, _ => exact trivial
  refine wm_does (fun v K => does_extract rfl rfl) rfl ?_
  refine wm_does (fun v K => does_extract rfl rfl) rfl ?_
  refine wm_does (fun v K => does_as_i rfl) rfl ?_
  refine wm_nil fun g w106 K hV => ?_
  replace S := S.ext K
  clear K hV
  refine ws_tail 13 (by kernel_rfl) (by decide) ?_
  refine wd (does_assign rfl) ?_
  refine wl_nil ?_
  refine wc_seq (wc_seq (wc_region ?_))
  refine wd (does_move rfl) ?_
  refine wd (does_eqE if_error rfl rfl (S.onO 0)) ?_
  refine wd (does_mv_b rfl) ?_
  refine wl_guard (j := 2) (pol := true) rfl rfl rfl (by decide) (fun hg => does_mv_i rfl) (by decide) ?_
  refine wl_guard (j := 2) (pol := true) rfl rfl rfl (by decide) (fun hg => does_mv_i rfl) (by decide) ?_
  refine wl_guard (j := 2) (pol := true) rfl rfl rfl (by decide) (fun hg => does_ne (gv_yes hg) (gv_yes hg)) (by decide) ?_
  refine wd (does_and rfl (fun hp => (gv_yes (and_1 hp)))) ?_
  refine wl_nil ?_
  refine wc_if rfl (fun hc108 => ?_) (fun hc108 => ?_)
  ·replace H := if_t hc108 H
   refine wc_region ?_
   refine wd (Does.to (v' := .agg (Refusal.C (⟨130, SlV.nil⟩ : Refusal)).toArray) (does_buildv (vs := [(0, .int .i64 130)]) bu_Refusal (consP rfl rfl) (Bld.one rfl rfl (by rw [Refusal.len]; decide) (Refusal.set_code _ _) Bld.nil)) rfl) ?_
   refine wl_box_agg rfl (by decide) fun b110 w109 hw109 => ?_
   replace S : St A N w w109 [oB b110 T_Refusal (Refusal.C (⟨130, SlV.nil⟩ : Refusal)), oE v105 r102.2, oE v91 r88.2, oB b78 T_Nd (Nd.C r73.1), oE v76 r73.2, oB b4 T_Term (Term.C (⟨a1.kind, a1.name, a1.other, a1.form, s_1⟩ : Term)), oB b2 T_Checker (Checker.C (⟨a_0⟩ : Checker))] [fScope (some ⟨b99, 0, none⟩) ((a1.other, r73.1.r) :: a2), fScope (some ⟨b85, 0, none⟩) ((a1.name, r73.1.l) :: a2), oT a_0 a0.t, oDTerm s_1 a1.sub, fScope a_2 a2, oEt] := S.new hw109
   refine wd (does_makeInterface rfl) ?_
   replace S := S.nil T_int 1 IC
   replace S := S.front 1
   replace S : St A N w w109 [oE (.iface T_P_Refusal (.pointer (some ⟨b110, 0, none⟩))) (some (130, ([] : List Int))), oE v105 r102.2, oE v91 r88.2, oB b78 T_Nd (Nd.C r73.1), oE v76 r73.2, oB b4 T_Term (Term.C (⟨a1.kind, a1.name, a1.other, a1.form, s_1⟩ : Term)), oB b2 T_Checker (Checker.C (⟨a_0⟩ : Checker))] [fScope (some ⟨b99, 0, none⟩) ((a1.other, r73.1.r) :: a2), fScope (some ⟨b85, 0, none⟩) ((a1.name, r73.1.l) :: a2), oT a_0 a0.t, oDTerm s_1 a1.sub, fScope a_2 a2, oEt] := S.mkE
   refine wd (does_assign rfl) ?_
   refine wl_nil ?_
   refine wc_seq (wc_region ?_)
   refine wd (does_mv_i rfl) ?_
   refine wd (does_move rfl) ?_
   refine wd (does_as_i rfl) ?_
   refine wd (does_assign rfl) ?_
   refine wl_nil ?_
   refine wc_ret ?_
   refine ⟨_, (rets2 (retOne_tmp rfl) (retOne_tmp rfl)), ?_⟩
   replace S : St A N w w109 [oE (.iface T_P_Refusal (.pointer (some ⟨b110, 0, none⟩))) (some (130, ([] : List Int)))] [] := S.arr [0] []
   obtain rfl := Option.some.inj H
   exact ⟨(.iface T_P_Refusal (.pointer (some ⟨b110, 0, none⟩))), rfl, S⟩
  ·replace H := if_f hc108 H
   refine wc_skip ?_
   refine wc_seq (wc_region ?_)
   refine wd (does_mv_i rfl) ?_
   refine wd (does_move rfl) ?_
   refine wd (does_as_i rfl) ?_
   refine wd (does_assign rfl) ?_
   refine wl_nil ?_
   refine wc_ret ?_
   refine ⟨_, (rets2 (retOne_tmp rfl) (retOne_tmp rfl)), ?_⟩
   replace S : St A N w w106 [oE v105 r102.2] [] := S.arr [0] []
   obtain rfl := Option.some.inj H
   exact ⟨v105, rfl, S⟩
 replace H := if_f hc72 H
 refine wc_skip ?_
 refine wc_seq (wc_region ?_)
 refine wd (Does.to (v' := .agg (Refusal.C (⟨132, SlV.nil⟩ : Refusal)).toArray) (does_buildv (vs := [(0, .int .i64 132)]) bu_Refusal (consP rfl rfl) (Bld.one rfl rfl (by rw [Refusal.len]; decide) (Refusal.set_code _ _) Bld.nil)) rfl) ?_
 refine wl_box_agg rfl (by decide) fun b112 w111 hw111 => ?_
 replace S : St A N w w111 [oB b112 T_Refusal (Refusal.C (⟨132, SlV.nil⟩ : Refusal)), oB b4 T_Term (Term.C (⟨a1.kind, a1.name, a1.other, a1.form, s_1⟩ : Term)), oB b2 T_Checker (Checker.C (⟨a_0⟩ : Checker))] [oT a_0 a0.t, oDTerm s_1 a1.sub, fScope a_2 a2, oEt] := S.new hw111
 refine wd (does_makeInterface rfl) ?_
 replace S := S.nil T_int 1 IC
 replace S := S.front 1
 replace S : St A N w w111 [oE (.iface T_P_Refusal (.pointer (some ⟨b112, 0, none⟩))) (some (132, ([] : List Int))), oB b4 T_Term (Term.C (⟨a1.kind, a1.name, a1.other, a1.form, s_1⟩ : Term)), oB b2 T_Checker (Checker.C (⟨a_0⟩ : Checker))] [oT a_0 a0.t, oDTerm s_1 a1.sub, fScope a_2 a2, oEt] := S.mkE
 refine wd (does_as_i rfl) ?_
 refine wd (does_assign rfl) ?_
 refine wl_nil ?_
 refine wc_ret ?_
 refine ⟨_, (rets2 (retOne_tmp rfl) (retOne_tmp rfl)), ?_⟩
 replace S : St A N w w111 [oE (.iface T_P_Refusal (.pointer (some ⟨b112, 0, none⟩))) (some (132, ([] : List Int)))] [] := S.arr [0] []
 obtain rfl := Option.some.inj H
 exact ⟨(.iface T_P_Refusal (.pointer (some ⟨b112, 0, none⟩))), rfl, S⟩
theorem types_checker_checked_gst {rec_types_checker_told : PChecker → PTerm → (List (ByteArray × Int)) → Option (Int × (Option (Int × List Int)))} (hrec_types_checker_told : ∀ {A : Nat → Prop} {N : Oth} {w : World} {a0 : PChecker} {a_0 : Option Addr} {a1 : PTerm} {s_1 : SlV} {a2 : List (ByteArray × Int)} {a_2 : Option Addr} (S : St A N w w [] [oT a_0 a0.t, oDTerm s_1 a1.sub, fScope a_2 a2, oEt]) {r : Int × (Option (Int × List Int))} (H : rec_types_checker_told a0 a1 a2 = some r), Calls PP F_types_checker_told #[.agg (Checker.C (⟨a_0⟩ : Checker)).toArray, .agg (Term.C (⟨a1.kind, a1.name, a1.other, a1.form, s_1⟩ : Term)).toArray, .pointer a_2] w fun e w' => ∃ v, e = .returned v ∧ (∃ vo0 : Value, v = .tuple #[.int .i64 r.1, vo0] ∧ St A N w w' [oE vo0 r.2] [])) {rec_types_checker_checked : PChecker → PTerm → (List (ByteArray × Int)) → Int → Option (Option (Int × List Int))} (hrec_types_checker_checked : ∀ {A : Nat → Prop} {N : Oth} {w : World} {a0 : PChecker} {a_0 : Option Addr} {a1 : PTerm} {s_1 : SlV} {a2 : List (ByteArray × Int)} {a_2 : Option Addr} {a3 : Int} (S : St A N w w [] [oT a_0 a0.t, oDTerm s_1 a1.sub, fScope a_2 a2, oEt]) {r : (Option (Int × List Int))} (H : rec_types_checker_checked a0 a1 a2 a3 = some r), Calls PP F_types_checker_checked #[.agg (Checker.C (⟨a_0⟩ : Checker)).toArray, .agg (Term.C (⟨a1.kind, a1.name, a1.other, a1.form, s_1⟩ : Term)).toArray, .pointer a_2, .int .i64 a3] w fun e w' => ∃ v, e = .returned v ∧ (∃ vo0 : Value, v = vo0 ∧ St A N w w' [oE vo0 r] [])) {A : Nat → Prop} {N : Oth} {w : World} {a0 : PChecker} {a_0 : Option Addr} {a1 : PTerm} {s_1 : SlV} {a2 : List (ByteArray × Int)} {a_2 : Option Addr} {a3 : Int} (S : St A N w w [] [oT a_0 a0.t, oDTerm s_1 a1.sub, fScope a_2 a2, oEt]) {r : (Option (Int × List Int))} (H : types_checker_checked.g rec_types_checker_told rec_types_checker_checked a0 a1 a2 a3 = some r) :
  Calls PP F_types_checker_checked #[.agg (Checker.C (⟨a_0⟩ : Checker)).toArray, .agg (Term.C (⟨a1.kind, a1.name, a1.other, a1.form, s_1⟩ : Term)).toArray, .pointer a_2, .int .i64 a3] w fun e w' => ∃ v, e = .returned v ∧ (∃ vo0 : Value, v = vo0 ∧ St A N w w' [oE vo0 r] []) := by
 unfold types_checker_checked.g at H
 refine calls_of_wc (n := 186) fn_types_checker_checked rfl rfl (by simp) ?_
 refine wc_seq (wc_region ?_)
 refine wl_box_agg rfl (by decide) fun b2 w1 hw1 => ?_
 replace S : St A N w w1 [oB b2 T_Checker (Checker.C (⟨a_0⟩ : Checker))] [oT a_0 a0.t, oDTerm s_1 a1.sub, fScope a_2 a2, oEt] := S.new hw1
 refine wl_box_agg rfl (by decide) fun b4 w3 hw3 => ?_
 replace S : St A N w w3 [oB b4 T_Term (Term.C (⟨a1.kind, a1.name, a1.other, a1.form, s_1⟩ : Term)), oB b2 T_Checker (Checker.C (⟨a_0⟩ : Checker))] [oT a_0 a0.t, oDTerm s_1 a1.sub, fScope a_2 a2, oEt] := S.new hw3
 refine wd (does_assign rfl) ?_
 refine wl_nil ?_
 refine wc_seq (wc_seq (wc_region ?_))
 refine wd (does_fieldAddr fl_Term_kind rfl (o' := 0) rfl) ?_
 refine wd (does_load on_api_TermKind rfl ((S.blk 0).cell (Term.get_kind _))) ?_
 refine wl_nil ?_
 refine wc_block ?_
 refine wc_seq (wc_region ?_)
 refine wd (does_eq rfl rfl) ?_
 refine wd (does_as_b rfl) ?_
 refine wl_nil ?_
 refine wc_if rfl (fun hc5 => ?_) (fun hc5 => ?_)
 ·replace H := if_t hc5 H
  refine wc_seq (wc_region ?_)
  refine wd (does_load_agg ag_Checker rfl ((S.blk 1).all _ (Checker.len _)) (Checker.len _)) ?_
  refine wd (does_mv_i rfl) ?_
  obtain ⟨r6, er6, H⟩ := bind_ex H
  obtain ⟨B8, MB8, SB8, back⟩ := S.calln 0 ((.z 0 rfl .nil))
  refine wl_call (does_call ca_types_checker_node) (by decide) (types_checker_node_st (a0 := a0) SB8 er6) ?_
  rintro _ w7 ⟨v9, rfl, S2⟩
  replace S : St A N w w7 [oE v9 r6.2, oB b4 T_Term (Term.C (⟨a1.kind, a1.name, a1.other, a1.form, s_1⟩ : Term)), oB b2 T_Checker (Checker.C (⟨a_0⟩ : Checker))] [oT a_0 a0.t, oDTerm s_1 a1.sub, fScope a_2 a2, oEt] := back _ _ _ _ S2 rfl
  clear back S2 SB8
  refine wd (does_mv_t rfl) ?_
  refine wd (does_extract rfl rfl) ?_
  refine wd (does_extract rfl rfl) ?_
  refine wl_alloc ze_Nd (by decide) fun b11 w10 hw10 => ?_
  replace S : St A N w w10 [oB b11 T_Nd (Nd.C Nd.z), oE v9 r6.2, oB b4 T_Term (Term.C (⟨a1.kind, a1.name, a1.other, a1.form, s_1⟩ : Term)), oB b2 T_Checker (Checker.C (⟨a_0⟩ : Checker))] [oT a_0 a0.t, oDTerm s_1 a1.sub, fScope a_2 a2, oEt] := S.new hw10
  refine wl_store_agg ag_Nd rfl rfl (S.blk 0) (Nd.len _) (by rw [Nd.len]; decide) (Nd.one _) (store_all (Nd.len _)) fun w12 B hw12 zw12 => ?_
  replace S : St A N w w12 [oB b11 T_Nd (Nd.C r6.1), oE v9 r6.2, oB b4 T_Term (Term.C (⟨a1.kind, a1.name, a1.other, a1.form, s_1⟩ : Term)), oB b2 T_Checker (Checker.C (⟨a_0⟩ : Checker))] [oT a_0 a0.t, oDTerm s_1 a1.sub, fScope a_2 a2, oEt] := S.store 0 B hw12
  clear B
  refine wd (does_assign rfl) ?_
  refine wl_nil ?_
  refine wc_seq (wc_seq (wc_region ?_))
  refine wd (does_move rfl) ?_
  refine wd (does_neE if_error rfl rfl (S.onO 1)) ?_
  refine wl_nil ?_
  refine wc_if rfl (fun hc13 => ?_) (fun hc13 => ?_)
  ·replace H := if_t hc13 H
   refine wc_seq (wc_region ?_)
   refine wd (does_move rfl) ?_
   refine wd (does_assign rfl) ?_
   refine wl_nil ?_
   refine wc_ret ?_
   refine ⟨_, (rets1 (retOne_tmp rfl)), ?_⟩
   replace S : St A N w w12 [oE v9 r6.2] [] := S.arr [1] []
   obtain rfl := Option.some.inj H
   exact ⟨v9, rfl, S⟩
  replace H := if_f hc13 H
  refine wc_skip ?_
  refine wc_seq ?_
  refine wc_semi 10 [7]
   (fun i v u => match i with
   | 7 => ∃ b : Nat, v = Value.pointer (some ⟨b, 0, none⟩) ∧ Blk u b T_Scope (Scope.C ⟨a1.name, r6.1.l, a_2⟩) ∧ w12.heap.size ≤ b
   | _ => True) hmix (by kernel_rfl) (by kernel_rfl) ?_ ?_
  ·intro i v u u' hi hx hv
   match i, hv with
   | 7, ⟨b, e1, hb, hl⟩ => exact ⟨b, e1, hb.ext hx, hl⟩
   | 0, _ => exact trivial
   | 1, _ => exact trivial
   | 2, _ => exact trivial
   | 3, _ => exact trivial
   | 4, _ => exact trivial
   | 5, _ => exact trivial
   | 6, _ => exact trivial
   | _ + 8, _ => exact trivial
  refine wm_does (fun v K => does_load_agg ag_Checker rfl (((S.ext K).blk 3).all _ (Checker.len _)) (Checker.len _)) rfl ?_
  refine wm_does (fun v K => does_load_agg ag_Term rfl (((S.ext K).blk 2).all _ (Term.len _)) (Term.len _)) rfl ?_
  refine wm_does (fun v K => does_mv_p rfl) rfl ?_
  refine wm_does (fun v K => does_fieldAddr fl_Term_name rfl (o' := 1) rfl) rfl ?_
  refine wm_does (fun v K => does_load on_string rfl (((S.ext K).blk 2).cell (Term.get_name _))) rfl ?_
  refine wm_does (fun v K => does_fieldAddr fl_Nd_l rfl (o' := 2) rfl) rfl ?_
  refine wm_does (fun v K => does_load on_int rfl (((S.ext K).blk 0).cell (Nd.get_l _))) rfl ?_
  refine wm_newcall (fun g v K G => ⟨_, _, does_callg ca_types_scope_with (cons2 rfl (cons2 rfl (cons2 rfl rfl))), newc (types_scope_with_ok _ _ _ _) fun _ _ ⟨b, hv, hx, hb, hl⟩ => ⟨hx, b, hv, hb, by have := K.size; omega⟩⟩) rfl ?_
  refine wm_does (fun v K => does_fieldAddr fl_Nd_r rfl (o' := 3) rfl) rfl ?_
  refine wm_does (fun v K => does_load on_int rfl (((S.ext K).blk 0).cell (Nd.get_r _))) rfl ?_
  refine wm_nil fun g w15 K hV => ?_
  obtain ⟨b14, hv167, hb7, hf7⟩ := hV 7 rfl (by decide)
  replace S : St A N w w15 [oB b14 T_Scope (Scope.C ⟨a1.name, r6.1.l, a_2⟩), oB b11 T_Nd (Nd.C r6.1), oE v9 r6.2, oB b4 T_Term (Term.C (⟨a1.kind, a1.name, a1.other, a1.form, s_1⟩ : Term)), oB b2 T_Checker (Checker.C (⟨a_0⟩ : Checker))] [oT a_0 a0.t, oDTerm s_1 a1.sub, fScope a_2 a2, oEt] := S.newAt K hb7 hf7
  replace S : St A N w w15 [oB b11 T_Nd (Nd.C r6.1), oE v9 r6.2, oB b4 T_Term (Term.C (⟨a1.kind, a1.name, a1.other, a1.form, s_1⟩ : Term)), oB b2 T_Checker (Checker.C (⟨a_0⟩ : Checker))] [fScope (some ⟨b14, 0, none⟩) ((a1.name, r6.1.l) :: a2), oT a_0 a0.t, oDTerm s_1 a1.sub, fScope a_2 a2, oEt] := S.pushScope 0 2
  clear K hV
  obtain ⟨r17, er17, H⟩ := bind_ex H
  obtain ⟨B19, MB19, SB19, back⟩ := S.calln 0 ((.z 1 rfl (.z 2 rfl (.z 0 rfl (.z 4 rfl .nil)))))
  refine wl_call (does_callg ca_types_checker_check (cons2 rfl (cons2 rfl (cons2 rfl (cons2 hv167 (cons2 rfl rfl)))))) (by decide) (types_checker_check_gst hrec_types_checker_checked (a0 := a0) (a1 := a1) SB19 er17) ?_
  rintro v20 w18 ⟨_, rfl, S2⟩
  replace S : St A N w w18 [oE v20 r17, oB b11 T_Nd (Nd.C r6.1), oE v9 r6.2, oB b4 T_Term (Term.C (⟨a1.kind, a1.name, a1.other, a1.form, s_1⟩ : Term)), oB b2 T_Checker (Checker.C (⟨a_0⟩ : Checker))] [fScope (some ⟨b14, 0, none⟩) ((a1.name, r6.1.l) :: a2), oT a_0 a0.t, oDTerm s_1 a1.sub, fScope a_2 a2, oEt] := back _ _ _ _ S2 rfl
  clear back S2 SB19
  refine wd (does_assign rfl) ?_
  refine wl_nil ?_
  refine wc_ret ?_
  refine ⟨_, (rets1 (retOne_tmp rfl)), ?_⟩
  replace S : St A N w w18 [oE v20 r17] [] := S.arr [0] []
  obtain rfl := Option.some.inj H
  exact ⟨v20, rfl, S⟩
 replace H := if_f hc5 H
 refine wc_seq (wc_region ?_)
 refine wd (does_eq rfl rfl) ?_
 refine wd (does_as_b rfl) ?_
 refine wl_nil ?_
 refine wc_if rfl (fun hc21 => ?_) (fun hc21 => ?_)
 ·replace H := if_t hc21 H
  refine wc_seq (wc_region ?_)
  refine wd (does_load_agg ag_Checker rfl ((S.blk 1).all _ (Checker.len _)) (Checker.len _)) ?_
  refine wd (does_mv_i rfl) ?_
  obtain ⟨r22, er22, H⟩ := bind_ex H
  obtain ⟨B24, MB24, SB24, back⟩ := S.calln 0 ((.z 0 rfl .nil))
  refine wl_call (does_call ca_types_checker_node) (by decide) (types_checker_node_st (a0 := a0) SB24 er22) ?_
  rintro _ w23 ⟨v25, rfl, S2⟩
  replace S : St A N w w23 [oE v25 r22.2, oB b4 T_Term (Term.C (⟨a1.kind, a1.name, a1.other, a1.form, s_1⟩ : Term)), oB b2 T_Checker (Checker.C (⟨a_0⟩ : Checker))] [oT a_0 a0.t, oDTerm s_1 a1.sub, fScope a_2 a2, oEt] := back _ _ _ _ S2 rfl
  clear back S2 SB24
  refine wd (does_mv_t rfl) ?_
  refine wd (does_extract rfl rfl) ?_
  refine wd (does_extract rfl rfl) ?_
  refine wl_alloc ze_Nd (by decide) fun b27 w26 hw26 => ?_
  replace S : St A N w w26 [oB b27 T_Nd (Nd.C Nd.z), oE v25 r22.2, oB b4 T_Term (Term.C (⟨a1.kind, a1.name, a1.other, a1.form, s_1⟩ : Term)), oB b2 T_Checker (Checker.C (⟨a_0⟩ : Checker))] [oT a_0 a0.t, oDTerm s_1 a1.sub, fScope a_2 a2, oEt] := S.new hw26
  refine wl_store_agg ag_Nd rfl rfl (S.blk 0) (Nd.len _) (by rw [Nd.len]; decide) (Nd.one _) (store_all (Nd.len _)) fun w28 B hw28 zw28 => ?_
  replace S : St A N w w28 [oB b27 T_Nd (Nd.C r22.1), oE v25 r22.2, oB b4 T_Term (Term.C (⟨a1.kind, a1.name, a1.other, a1.form, s_1⟩ : Term)), oB b2 T_Checker (Checker.C (⟨a_0⟩ : Checker))] [oT a_0 a0.t, oDTerm s_1 a1.sub, fScope a_2 a2, oEt] := S.store 0 B hw28
  clear B
  refine wd (does_assign rfl) ?_
  refine wl_nil ?_
  refine wc_seq (wc_seq (wc_region ?_))
  refine wd (does_move rfl) ?_
  refine wd (does_neE if_error rfl rfl (S.onO 1)) ?_
  refine wl_nil ?_
  refine wc_if rfl (fun hc29 => ?_) (fun hc29 => ?_)
  ·replace H := if_t hc29 H
   refine wc_seq (wc_region ?_)
   refine wd (does_move rfl) ?_
   refine wd (does_assign rfl) ?_
   refine wl_nil ?_
   refine wc_ret ?_
   refine ⟨_, (rets1 (retOne_tmp rfl)), ?_⟩
   replace S : St A N w w28 [oE v25 r22.2] [] := S.arr [1] []
   obtain rfl := Option.some.inj H
   exact ⟨v25, rfl, S⟩
  replace H := if_f hc29 H
  refine wc_skip ?_
  refine wc_seq (wc_seq (wc_region ?_))
  refine wd (does_load_agg ag_Checker rfl ((S.blk 3).all _ (Checker.len _)) (Checker.len _)) ?_
  refine wd (does_load_agg ag_Term rfl ((S.blk 2).all _ (Term.len _)) (Term.len _)) ?_
  refine wd (does_mv_p rfl) ?_
  refine wd (does_fieldAddr fl_Nd_l rfl (o' := 2) rfl) ?_
  refine wd (does_load on_int rfl ((S.blk 0).cell (Nd.get_l _))) ?_
  obtain ⟨r30, er30, H⟩ := bind_ex H
  obtain ⟨B32, MB32, SB32, back⟩ := S.calln 0 ((.z 0 rfl (.z 1 rfl (.z 2 rfl (.z 3 rfl .nil)))))
  refine wl_call (does_call ca_types_checker_check) (by decide) (types_checker_check_gst hrec_types_checker_checked (a0 := a0) (a1 := a1) SB32 er30) ?_
  rintro v33 w31 ⟨_, rfl, S2⟩
  replace S : St A N w w31 [oE v33 r30, oB b27 T_Nd (Nd.C r22.1), oE v25 r22.2, oB b4 T_Term (Term.C (⟨a1.kind, a1.name, a1.other, a1.form, s_1⟩ : Term)), oB b2 T_Checker (Checker.C (⟨a_0⟩ : Checker))] [oT a_0 a0.t, oDTerm s_1 a1.sub, fScope a_2 a2, oEt] := back _ _ _ _ S2 rfl
  clear back S2 SB32
  refine wd (does_assign rfl) ?_
  refine wl_nil ?_
  refine wc_seq (wc_region ?_)
  refine wd (does_move rfl) ?_
  refine wd (does_neE if_error rfl rfl (S.onO 0)) ?_
  refine wl_nil ?_
  refine wc_if rfl (fun hc34 => ?_) (fun hc34 => ?_)
  ·replace H := if_t hc34 H
   refine wc_seq (wc_region ?_)
   refine wd (does_move rfl) ?_
   refine wd (does_assign rfl) ?_
   refine wl_nil ?_
   refine wc_ret ?_
   refine ⟨_, (rets1 (retOne_tmp rfl)), ?_⟩
   replace S : St A N w w31 [oE v33 r30] [] := S.arr [0] []
   obtain rfl := Option.some.inj H
   exact ⟨v33, rfl, S⟩
  replace H := if_f hc34 H
  refine wc_skip ?_
  refine wc_seq (wc_region ?_)
  refine wd (does_load_agg ag_Checker rfl ((S.blk 4).all _ (Checker.len _)) (Checker.len _)) ?_
  refine wd (does_load_agg ag_Term rfl ((S.blk 3).all _ (Term.len _)) (Term.len _)) ?_
  refine wd (does_mv_p rfl) ?_
  refine wd (does_fieldAddr fl_Nd_r rfl (o' := 3) rfl) ?_
  refine wd (does_load on_int rfl ((S.blk 1).cell (Nd.get_r _))) ?_
  obtain ⟨r35, er35, H⟩ := bind_ex H
  obtain ⟨B37, MB37, SB37, back⟩ := S.calln 0 ((.z 0 rfl (.z 1 rfl (.z 2 rfl (.z 3 rfl .nil)))))
  refine wl_call (does_call ca_types_checker_check) (by decide) (types_checker_check_gst hrec_types_checker_checked (a0 := a0) (a1 := a1) SB37 er35) ?_
  rintro v38 w36 ⟨_, rfl, S2⟩
  replace S : St A N w w36 [oE v38 r35, oE v33 r30, oB b27 T_Nd (Nd.C r22.1), oE v25 r22.2, oB b4 T_Term (Term.C (⟨a1.kind, a1.name, a1.other, a1.form, s_1⟩ : Term)), oB b2 T_Checker (Checker.C (⟨a_0⟩ : Checker))] [oT a_0 a0.t, oDTerm s_1 a1.sub, fScope a_2 a2, oEt] := back _ _ _ _ S2 rfl
  clear back S2 SB37
  refine wd (does_assign rfl) ?_
  refine wl_nil ?_
  refine wc_ret ?_
  refine ⟨_, (rets1 (retOne_tmp rfl)), ?_⟩
  replace S : St A N w w36 [oE v38 r35] [] := S.arr [0] []
  obtain rfl := Option.some.inj H
  exact ⟨v38, rfl, S⟩
 replace H := if_f hc21 H
 refine wc_seq (wc_seq (wc_region ?_))
 refine wd (does_eq rfl rfl) ?_
 refine wd (does_as_b rfl) ?_
 refine wl_nil ?_
 obtain ⟨o39, e39, Ho39⟩ := bind_ex H
 replace H := e39; clear e39
 refine wc_cutq [75, 77] (fun fr W => fr 75 = .bool o39 ∧ St A N w W [oB b4 T_Term (Term.C (⟨a1.kind, a1.name, a1.other, a1.form, s_1⟩ : Term)), oB b2 T_Checker (Checker.C (⟨a_0⟩ : Checker))] [oT a_0 a0.t, oDTerm s_1 a1.sub, fScope a_2 a2, oEt]) ?_ ?_
 ·refine wc_if rfl (fun hc40 => ?_) (fun hc40 => ?_)
  ·replace H := if_t hc40 H
   refine wc_skip ?_
   obtain rfl := Option.some.inj H
   exact ⟨rfl, (Dif.refl _ _), rfl, S⟩
  ·replace H := if_f hc40 H
   refine wc_region ?_
   refine wd (does_eq rfl rfl) ?_
   refine wd (does_as_b rfl) ?_
   refine wl_nil ?_
   obtain rfl := Option.some.inj H
   exact ⟨rfl, (((Dif.refl _ _).upd rfl _).upd rfl _), rfl, S⟩
 rintro g41 u42 ⟨p39_75, S⟩
 have H := Ho39
 refine wc_if p39_75 (fun hc43 => ?_) (fun hc43 => ?_)
 ·replace H := if_t hc43 H
  refine wc_seq (wc_region ?_)
  refine wd (does_load_agg ag_Checker rfl ((S.blk 1).all _ (Checker.len _)) (Checker.len _)) ?_
  refine wd (does_mv_i rfl) ?_
  obtain ⟨r44, er44, H⟩ := bind_ex H
  obtain ⟨B46, MB46, SB46, back⟩ := S.calln 0 ((.z 0 rfl .nil))
  refine wl_call (does_call ca_types_checker_node) (by decide) (types_checker_node_st (a0 := a0) SB46 er44) ?_
  rintro _ w45 ⟨v47, rfl, S2⟩
  replace S : St A N w w45 [oE v47 r44.2, oB b4 T_Term (Term.C (⟨a1.kind, a1.name, a1.other, a1.form, s_1⟩ : Term)), oB b2 T_Checker (Checker.C (⟨a_0⟩ : Checker))] [oT a_0 a0.t, oDTerm s_1 a1.sub, fScope a_2 a2, oEt] := back _ _ _ _ S2 rfl
  clear back S2 SB46
  refine wd (does_mv_t rfl) ?_
  refine wd (does_extract rfl rfl) ?_
  refine wd (does_extract rfl rfl) ?_
  refine wl_alloc ze_Nd (by decide) fun b49 w48 hw48 => ?_
  replace S : St A N w w48 [oB b49 T_Nd (Nd.C Nd.z), oE v47 r44.2, oB b4 T_Term (Term.C (⟨a1.kind, a1.name, a1.other, a1.form, s_1⟩ : Term)), oB b2 T_Checker (Checker.C (⟨a_0⟩ : Checker))] [oT a_0 a0.t, oDTerm s_1 a1.sub, fScope a_2 a2, oEt] := S.new hw48
  refine wl_store_agg ag_Nd rfl rfl (S.blk 0) (Nd.len _) (by rw [Nd.len]; decide) (Nd.one _) (store_all (Nd.len _)) fun w50 B hw50 zw50 => ?_
  replace S : St A N w w50 [oB b49 T_Nd (Nd.C r44.1), oE v47 r44.2, oB b4 T_Term (Term.C (⟨a1.kind, a1.name, a1.other, a1.form, s_1⟩ : Term)), oB b2 T_Checker (Checker.C (⟨a_0⟩ : Checker))] [oT a_0 a0.t, oDTerm s_1 a1.sub, fScope a_2 a2, oEt] := S.store 0 B hw50
  clear B
  refine wd (does_assign rfl) ?_
  refine wl_nil ?_
  refine wc_seq (wc_seq (wc_region ?_))
  refine wd (does_move rfl) ?_
  refine wd (does_neE if_error rfl rfl (S.onO 1)) ?_
  refine wl_nil ?_
  refine wc_if rfl (fun hc51 => ?_) (fun hc51 => ?_)
  ·replace H := if_t hc51 H
   refine wc_seq (wc_region ?_)
   refine wd (does_move rfl) ?_
   refine wd (does_assign rfl) ?_
   refine wl_nil ?_
   refine wc_ret ?_
   refine ⟨_, (rets1 (retOne_tmp rfl)), ?_⟩
   replace S : St A N w w50 [oE v47 r44.2] [] := S.arr [1] []
   obtain rfl := Option.some.inj H
   exact ⟨v47, rfl, S⟩
  replace H := if_f hc51 H
  refine wc_skip ?_
  refine wc_seq (wc_seq (wc_region ?_))
  refine wd (does_fieldAddr fl_Term_kind rfl (o' := 0) rfl) ?_
  refine wd (does_load on_api_TermKind rfl ((S.blk 2).cell (Term.get_kind _))) ?_
  refine wd (does_eq rfl rfl) ?_
  refine wl_nil ?_
  refine wc_if rfl (fun hc52 => ?_) (fun hc52 => ?_)
  ·replace H := if_t hc52 H
   refine wc_seq (wc_region ?_)
   refine wd (does_load_agg ag_Checker rfl ((S.blk 3).all _ (Checker.len _)) (Checker.len _)) ?_
   refine wd (does_load_agg ag_Term rfl ((S.blk 2).all _ (Term.len _)) (Term.len _)) ?_
   refine wd (does_mv_p rfl) ?_
   refine wd (does_fieldAddr fl_Nd_l rfl (o' := 2) rfl) ?_
   refine wd (does_load on_int rfl ((S.blk 0).cell (Nd.get_l _))) ?_
   obtain ⟨r53, er53, H⟩ := bind_ex H
   obtain ⟨B55, MB55, SB55, back⟩ := S.calln 0 ((.z 0 rfl (.z 1 rfl (.z 2 rfl (.z 3 rfl .nil)))))
   refine wl_call (does_call ca_types_checker_check) (by decide) (types_checker_check_gst hrec_types_checker_checked (a0 := a0) (a1 := a1) SB55 er53) ?_
   rintro v56 w54 ⟨_, rfl, S2⟩
   replace S : St A N w w54 [oE v56 r53, oB b49 T_Nd (Nd.C r44.1), oE v47 r44.2, oB b4 T_Term (Term.C (⟨a1.kind, a1.name, a1.other, a1.form, s_1⟩ : Term)), oB b2 T_Checker (Checker.C (⟨a_0⟩ : Checker))] [oT a_0 a0.t, oDTerm s_1 a1.sub, fScope a_2 a2, oEt] := back _ _ _ _ S2 rfl
   clear back S2 SB55
   refine wd (does_assign rfl) ?_
   refine wl_nil ?_
   refine wc_ret ?_
   refine ⟨_, (rets1 (retOne_tmp rfl)), ?_⟩
   replace S : St A N w w54 [oE v56 r53] [] := S.arr [0] []
   obtain rfl := Option.some.inj H
   exact ⟨v56, rfl, S⟩
  replace H := if_f hc52 H
  refine wc_skip ?_
  refine wc_seq (wc_region ?_)
  refine wd (does_load_agg ag_Checker rfl ((S.blk 3).all _ (Checker.len _)) (Checker.len _)) ?_
  refine wd (does_load_agg ag_Term rfl ((S.blk 2).all _ (Term.len _)) (Term.len _)) ?_
  refine wd (does_mv_p rfl) ?_
  refine wd (does_fieldAddr fl_Nd_r rfl (o' := 3) rfl) ?_
  refine wd (does_load on_int rfl ((S.blk 0).cell (Nd.get_r _))) ?_
  obtain ⟨r57, er57, H⟩ := bind_ex H
  obtain ⟨B59, MB59, SB59, back⟩ := S.calln 0 ((.z 0 rfl (.z 1 rfl (.z 2 rfl (.z 3 rfl .nil)))))
  refine wl_call (does_call ca_types_checker_check) (by decide) (types_checker_check_gst hrec_types_checker_checked (a0 := a0) (a1 := a1) SB59 er57) ?_
  rintro v60 w58 ⟨_, rfl, S2⟩
  replace S : St A N w w58 [oE v60 r57, oB b49 T_Nd (Nd.C r44.1), oE v47 r44.2, oB b4 T_Term (Term.C (⟨a1.kind, a1.name, a1.other, a1.form, s_1⟩ : Term)), oB b2 T_Checker (Checker.C (⟨a_0⟩ : Checker))] [oT a_0 a0.t, oDTerm s_1 a1.sub, fScope a_2 a2, oEt] := back _ _ _ _ S2 rfl
  clear back S2 SB59
  refine wd (does_assign rfl) ?_
  refine wl_nil ?_
  refine wc_ret ?_
  refine ⟨_, (rets1 (retOne_tmp rfl)), ?_⟩
  replace S : St A N w w58 [oE v60 r57] [] := S.arr [0] []
  obtain rfl := Option.some.inj H
  exact ⟨v60, rfl, S⟩
 replace H := if_f hc43 H
 refine wc_seq (wc_region ?_)
 refine wd (does_eq rfl rfl) ?_
 refine wd (does_as_b rfl) ?_
 refine wl_nil ?_
 refine wc_if rfl (fun hc61 => ?_) (fun hc61 => ?_)
 ·replace H := if_t hc61 H
  refine wc_seq (wc_region ?_)
  refine wd (does_load_agg ag_Checker rfl ((S.blk 1).all _ (Checker.len _)) (Checker.len _)) ?_
  refine wd (does_load_agg ag_Term rfl ((S.blk 0).all _ (Term.len _)) (Term.len _)) ?_
  refine wd (does_mv_p rfl) ?_
  obtain ⟨r62, er62, H⟩ := bind_ex H
  obtain ⟨B64, MB64, SB64, back⟩ := S.calln 0 ((.z 0 rfl (.z 1 rfl (.z 2 rfl (.z 3 rfl .nil)))))
  refine wl_call (does_call ca_types_checker_head) (by decide) (types_checker_head_gst hrec_types_checker_told (a0 := a0) (a1 := a1) SB64 er62) ?_
  rintro _ w63 ⟨v65, rfl, S2⟩
  replace S : St A N w w63 [oE v65 r62.2, oB b4 T_Term (Term.C (⟨a1.kind, a1.name, a1.other, a1.form, s_1⟩ : Term)), oB b2 T_Checker (Checker.C (⟨a_0⟩ : Checker))] [oT a_0 a0.t, oDTerm s_1 a1.sub, fScope a_2 a2, oEt] := back _ _ _ _ S2 rfl
  clear back S2 SB64
  refine wd (does_mv_t rfl) ?_
  refine wd (does_extract rfl rfl) ?_
  refine wd (does_extract rfl rfl) ?_
  refine wl_alloc ze_Nd (by decide) fun b67 w66 hw66 => ?_
  replace S : St A N w w66 [oB b67 T_Nd (Nd.C Nd.z), oE v65 r62.2, oB b4 T_Term (Term.C (⟨a1.kind, a1.name, a1.other, a1.form, s_1⟩ : Term)), oB b2 T_Checker (Checker.C (⟨a_0⟩ : Checker))] [oT a_0 a0.t, oDTerm s_1 a1.sub, fScope a_2 a2, oEt] := S.new hw66
  refine wl_store_agg ag_Nd rfl rfl (S.blk 0) (Nd.len _) (by rw [Nd.len]; decide) (Nd.one _) (store_all (Nd.len _)) fun w68 B hw68 zw68 => ?_
  replace S : St A N w w68 [oB b67 T_Nd (Nd.C r62.1), oE v65 r62.2, oB b4 T_Term (Term.C (⟨a1.kind, a1.name, a1.other, a1.form, s_1⟩ : Term)), oB b2 T_Checker (Checker.C (⟨a_0⟩ : Checker))] [oT a_0 a0.t, oDTerm s_1 a1.sub, fScope a_2 a2, oEt] := S.store 0 B hw68
  clear B
  refine wd (does_assign rfl) ?_
  refine wl_nil ?_
  refine wc_seq (wc_seq (wc_region ?_))
  refine wd (does_move rfl) ?_
  refine wd (does_neE if_error rfl rfl (S.onO 1)) ?_
  refine wl_nil ?_
  refine wc_if rfl (fun hc69 => ?_) (fun hc69 => ?_)
  ·replace H := if_t hc69 H
   refine wc_seq (wc_region ?_)
   refine wd (does_move rfl) ?_
   refine wd (does_assign rfl) ?_
   refine wl_nil ?_
   refine wc_ret ?_
   refine ⟨_, (rets1 (retOne_tmp rfl)), ?_⟩
   replace S : St A N w w68 [oE v65 r62.2] [] := S.arr [1] []
   obtain rfl := Option.some.inj H
   exact ⟨v65, rfl, S⟩
  replace H := if_f hc69 H
  refine wc_skip ?_
  refine wc_seq ?_
  refine wc_seq ?_
  refine wc_semi 9 [7]
   (fun i v u => match i with
   | 7 => ∃ b : Nat, v = Value.pointer (some ⟨b, 0, none⟩) ∧ Blk u b T_Scope (Scope.C ⟨a1.name, r62.1.l, a_2⟩) ∧ w68.heap.size ≤ b
   | _ => True) hmix (by kernel_rfl) (by kernel_rfl) ?_ ?_
  ·intro i v u u' hi hx hv
   match i, hv with
   | 7, ⟨b, e1, hb, hl⟩ => exact ⟨b, e1, hb.ext hx, hl⟩
   | 0, _ => exact trivial
   | 1, _ => exact trivial
   | 2, _ => exact trivial
   | 3, _ => exact trivial
   | 4, _ => exact trivial
   | 5, _ => exact trivial
   | 6, _ => exact trivial
   | _ + 8, _ => exact trivial
  refine wm_does (fun v K => does_load_agg ag_Checker rfl (((S.ext K).blk 3).all _ (Checker.len _)) (Checker.len _)) rfl ?_
  refine wm_does (fun v K => does_load_agg ag_Term rfl (((S.ext K).blk 2).all _ (Term.len _)) (Term.len _)) rfl ?_
  refine wm_does (fun v K => does_mv_p rfl) rfl ?_
  refine wm_does (fun v K => does_fieldAddr fl_Term_name rfl (o' := 1) rfl) rfl ?_
  refine wm_does (fun v K => does_load on_string rfl (((S.ext K).blk 2).cell (Term.get_name _))) rfl ?_
  refine wm_does (fun v K => does_fieldAddr fl_Nd_l rfl (o' := 2) rfl) rfl ?_
  refine wm_does (fun v K => does_load on_int rfl (((S.ext K).blk 0).cell (Nd.get_l _))) rfl ?_
  refine wm_newcall (fun g v K G => ⟨_, _, does_callg ca_types_scope_with (cons2 rfl (cons2 rfl (cons2 rfl rfl))), newc (types_scope_with_ok _ _ _ _) fun _ _ ⟨b, hv, hx, hb, hl⟩ => ⟨hx, b, hv, hb, by have := K.size; omega⟩⟩) rfl ?_
  refine wm_does (fun v K => does_mv_i rfl) rfl ?_
  refine wm_nil fun g w71 K hV => ?_
  obtain ⟨b70, hv727, hb7, hf7⟩ := hV 7 rfl (by decide)
  replace S : St A N w w71 [oB b70 T_Scope (Scope.C ⟨a1.name, r62.1.l, a_2⟩), oB b67 T_Nd (Nd.C r62.1), oE v65 r62.2, oB b4 T_Term (Term.C (⟨a1.kind, a1.name, a1.other, a1.form, s_1⟩ : Term)), oB b2 T_Checker (Checker.C (⟨a_0⟩ : Checker))] [oT a_0 a0.t, oDTerm s_1 a1.sub, fScope a_2 a2, oEt] := S.newAt K hb7 hf7
  replace S : St A N w w71 [oB b67 T_Nd (Nd.C r62.1), oE v65 r62.2, oB b4 T_Term (Term.C (⟨a1.kind, a1.name, a1.other, a1.form, s_1⟩ : Term)), oB b2 T_Checker (Checker.C (⟨a_0⟩ : Checker))] [fScope (some ⟨b70, 0, none⟩) ((a1.name, r62.1.l) :: a2), oT a_0 a0.t, oDTerm s_1 a1.sub, fScope a_2 a2, oEt] := S.pushScope 0 2
  clear K hV
  obtain ⟨r73, er73, H⟩ := bind_ex H
  obtain ⟨B75, MB75, SB75, back⟩ := S.calln 0 ((.z 1 rfl (.z 2 rfl (.z 0 rfl (.z 4 rfl .nil)))))
  refine wl_call (does_callg ca_types_checker_check (cons2 rfl (cons2 rfl (cons2 rfl (cons2 hv727 (cons2 rfl rfl)))))) (by decide) (types_checker_check_gst hrec_types_checker_checked (a0 := a0) (a1 := a1) SB75 er73) ?_
  rintro v76 w74 ⟨_, rfl, S2⟩
  replace S : St A N w w74 [oE v76 r73, oB b67 T_Nd (Nd.C r62.1), oE v65 r62.2, oB b4 T_Term (Term.C (⟨a1.kind, a1.name, a1.other, a1.form, s_1⟩ : Term)), oB b2 T_Checker (Checker.C (⟨a_0⟩ : Checker))] [fScope (some ⟨b70, 0, none⟩) ((a1.name, r62.1.l) :: a2), oT a_0 a0.t, oDTerm s_1 a1.sub, fScope a_2 a2, oEt] := back _ _ _ _ S2 rfl
  clear back S2 SB75
  refine wd (does_assign rfl) ?_
  refine wl_nil ?_
  refine wc_seq (wc_region ?_)
  refine wd (does_move rfl) ?_
  refine wd (does_neE if_error rfl rfl (S.onO 0)) ?_
  refine wl_nil ?_
  refine wc_if rfl (fun hc77 => ?_) (fun hc77 => ?_)
  ·replace H := if_t hc77 H
   refine wc_seq (wc_region ?_)
   refine wd (does_move rfl) ?_
   refine wd (does_assign rfl) ?_
   refine wl_nil ?_
   refine wc_ret ?_
   refine ⟨_, (rets1 (retOne_tmp rfl)), ?_⟩
   replace S : St A N w w74 [oE v76 r73] [] := S.arr [0] []
   obtain rfl := Option.some.inj H
   exact ⟨v76, rfl, S⟩
  replace H := if_f hc77 H
  refine wc_skip ?_
  refine wc_seq ?_
  refine wc_semi 9 [7]
   (fun i v u => match i with
   | 7 => ∃ b : Nat, v = Value.pointer (some ⟨b, 0, none⟩) ∧ Blk u b T_Scope (Scope.C ⟨a1.other, r62.1.r, a_2⟩) ∧ w74.heap.size ≤ b
   | _ => True) hmix (by kernel_rfl) (by kernel_rfl) ?_ ?_
  ·intro i v u u' hi hx hv
   match i, hv with
   | 7, ⟨b, e1, hb, hl⟩ => exact ⟨b, e1, hb.ext hx, hl⟩
   | 0, _ => exact trivial
   | 1, _ => exact trivial
   | 2, _ => exact trivial
   | 3, _ => exact trivial
   | 4, _ => exact trivial
   | 5, _ => exact trivial
   | 6, _ => exact trivial
   | _ + 8, _ => exact trivial
  refine wm_does (fun v K => does_load_agg ag_Checker rfl (((S.ext K).blk 4).all _ (Checker.len _)) (Checker.len _)) rfl ?_
  refine wm_does (fun v K => does_load_agg ag_Term rfl (((S.ext K).blk 3).all _ (Term.len _)) (Term.len _)) rfl ?_
  refine wm_does (fun v K => does_mv_p rfl) rfl ?_
  refine wm_does (fun v K => does_fieldAddr fl_Term_other rfl (o' := 2) rfl) rfl ?_
  refine wm_does (fun v K => does_load on_string rfl (((S.ext K).blk 3).cell (Term.get_other _))) rfl ?_
  refine wm_does (fun v K => does_fieldAddr fl_Nd_r rfl (o' := 3) rfl) rfl ?_
  refine wm_does (fun v K => does_load on_int rfl (((S.ext K).blk 1).cell (Nd.get_r _))) rfl ?_
  refine wm_newcall (fun g v K G => ⟨_, _, does_callg ca_types_scope_with (cons2 rfl (cons2 rfl (cons2 rfl rfl))), newc (types_scope_with_ok _ _ _ _) fun _ _ ⟨b, hv, hx, hb, hl⟩ => ⟨hx, b, hv, hb, by have := K.size; omega⟩⟩) rfl ?_
  refine wm_does (fun v K => does_mv_i rfl) rfl ?_
  refine wm_nil fun g w79 K hV => ?_
  obtain ⟨b78, hv807, hb7, hf7⟩ := hV 7 rfl (by decide)
  replace S : St A N w w79 [oB b78 T_Scope (Scope.C ⟨a1.other, r62.1.r, a_2⟩), oE v76 r73, oB b67 T_Nd (Nd.C r62.1), oE v65 r62.2, oB b4 T_Term (Term.C (⟨a1.kind, a1.name, a1.other, a1.form, s_1⟩ : Term)), oB b2 T_Checker (Checker.C (⟨a_0⟩ : Checker))] [fScope (some ⟨b70, 0, none⟩) ((a1.name, r62.1.l) :: a2), oT a_0 a0.t, oDTerm s_1 a1.sub, fScope a_2 a2, oEt] := S.newAt K hb7 hf7
  replace S : St A N w w79 [oE v76 r73, oB b67 T_Nd (Nd.C r62.1), oE v65 r62.2, oB b4 T_Term (Term.C (⟨a1.kind, a1.name, a1.other, a1.form, s_1⟩ : Term)), oB b2 T_Checker (Checker.C (⟨a_0⟩ : Checker))] [fScope (some ⟨b78, 0, none⟩) ((a1.other, r62.1.r) :: a2), fScope (some ⟨b70, 0, none⟩) ((a1.name, r62.1.l) :: a2), oT a_0 a0.t, oDTerm s_1 a1.sub, fScope a_2 a2, oEt] := S.pushScope 0 3
  clear K hV
  obtain ⟨r81, er81, H⟩ := bind_ex H
  obtain ⟨B83, MB83, SB83, back⟩ := S.calln 0 ((.z 2 rfl (.z 3 rfl (.z 0 rfl (.z 5 rfl .nil)))))
  refine wl_call (does_callg ca_types_checker_check (cons2 rfl (cons2 rfl (cons2 rfl (cons2 hv807 (cons2 rfl rfl)))))) (by decide) (types_checker_check_gst hrec_types_checker_checked (a0 := a0) (a1 := a1) SB83 er81) ?_
  rintro v84 w82 ⟨_, rfl, S2⟩
  replace S : St A N w w82 [oE v84 r81, oE v76 r73, oB b67 T_Nd (Nd.C r62.1), oE v65 r62.2, oB b4 T_Term (Term.C (⟨a1.kind, a1.name, a1.other, a1.form, s_1⟩ : Term)), oB b2 T_Checker (Checker.C (⟨a_0⟩ : Checker))] [fScope (some ⟨b78, 0, none⟩) ((a1.other, r62.1.r) :: a2), fScope (some ⟨b70, 0, none⟩) ((a1.name, r62.1.l) :: a2), oT a_0 a0.t, oDTerm s_1 a1.sub, fScope a_2 a2, oEt] := back _ _ _ _ S2 rfl
  clear back S2 SB83
  refine wd (does_assign rfl) ?_
  refine wl_nil ?_
  refine wc_ret ?_
  refine ⟨_, (rets1 (retOne_tmp rfl)), ?_⟩
  replace S : St A N w w82 [oE v84 r81] [] := S.arr [0] []
  obtain rfl := Option.some.inj H
  exact ⟨v84, rfl, S⟩
 replace H := if_f hc61 H
 refine wc_seq (wc_region ?_)
 refine wd (does_eq rfl rfl) ?_
 refine wd (does_as_b rfl) ?_
 refine wl_nil ?_
 refine wc_if rfl (fun hc85 => ?_) (fun hc85 => ?_)
 ·replace H := if_t hc85 H
  refine wc_seq (wc_region ?_)
  refine wd (does_load_agg ag_Checker rfl ((S.blk 1).all _ (Checker.len _)) (Checker.len _)) ?_
  refine wd (does_load_agg ag_Term rfl ((S.blk 0).all _ (Term.len _)) (Term.len _)) ?_
  refine wd (does_mv_p rfl) ?_
  obtain ⟨r86, er86, H⟩ := bind_ex H
  obtain ⟨B88, MB88, SB88, back⟩ := S.calln 0 ((.z 0 rfl (.z 1 rfl (.z 2 rfl (.z 3 rfl .nil)))))
  refine wl_call (does_call ca_types_checker_head) (by decide) (types_checker_head_gst hrec_types_checker_told (a0 := a0) (a1 := a1) SB88 er86) ?_
  rintro _ w87 ⟨v89, rfl, S2⟩
  replace S : St A N w w87 [oE v89 r86.2, oB b4 T_Term (Term.C (⟨a1.kind, a1.name, a1.other, a1.form, s_1⟩ : Term)), oB b2 T_Checker (Checker.C (⟨a_0⟩ : Checker))] [oT a_0 a0.t, oDTerm s_1 a1.sub, fScope a_2 a2, oEt] := back _ _ _ _ S2 rfl
  clear back S2 SB88
  refine wd (does_mv_t rfl) ?_
  refine wd (does_extract rfl rfl) ?_
  refine wd (does_extract rfl rfl) ?_
  refine wl_alloc ze_Nd (by decide) fun b91 w90 hw90 => ?_
  replace S : St A N w w90 [oB b91 T_Nd (Nd.C Nd.z), oE v89 r86.2, oB b4 T_Term (Term.C (⟨a1.kind, a1.name, a1.other, a1.form, s_1⟩ : Term)), oB b2 T_Checker (Checker.C (⟨a_0⟩ : Checker))] [oT a_0 a0.t, oDTerm s_1 a1.sub, fScope a_2 a2, oEt] := S.new hw90
  refine wl_store_agg ag_Nd rfl rfl (S.blk 0) (Nd.len _) (by rw [Nd.len]; decide) (Nd.one _) (store_all (Nd.len _)) fun w92 B hw92 zw92 => ?_
  replace S : St A N w w92 [oB b91 T_Nd (Nd.C r86.1), oE v89 r86.2, oB b4 T_Term (Term.C (⟨a1.kind, a1.name, a1.other, a1.form, s_1⟩ : Term)), oB b2 T_Checker (Checker.C (⟨a_0⟩ : Checker))] [oT a_0 a0.t, oDTerm s_1 a1.sub, fScope a_2 a2, oEt] := S.store 0 B hw92
  clear B
  refine wd (does_assign rfl) ?_
  refine wl_nil ?_
  refine wc_seq (wc_region ?_)
  refine wd (does_move rfl) ?_
  refine wd (does_assign rfl) ?_
  refine wl_nil ?_
  refine wc_ret ?_
  refine ⟨_, (rets1 (retOne_tmp rfl)), ?_⟩
  replace S : St A N w w92 [oE v89 r86.2] [] := S.arr [1] []
  obtain rfl := Option.some.inj H
  exact ⟨v89, rfl, S⟩
 replace H := if_f hc85 H
 refine wc_seq (wc_region ?_)
 refine wd (does_eq rfl rfl) ?_
 refine wd (does_as_b rfl) ?_
 refine wl_nil ?_
 refine wc_if rfl (fun hc93 => ?_) (fun hc93 => ?_)
 ·replace H := if_t hc93 H
  refine wc_seq (wc_region ?_)
  refine wd (does_load_agg ag_Checker rfl ((S.blk 1).all _ (Checker.len _)) (Checker.len _)) ?_
  refine wd (does_load_agg ag_Term rfl ((S.blk 0).all _ (Term.len _)) (Term.len _)) ?_
  refine wd (does_mv_p rfl) ?_
  obtain ⟨r94, er94, H⟩ := bind_ex H
  obtain ⟨B96, MB96, SB96, back⟩ := S.calln 0 ((.z 0 rfl (.z 1 rfl (.z 2 rfl (.z 3 rfl .nil)))))
  refine wl_call (does_call ca_types_checker_part) (by decide) (types_checker_part_gst hrec_types_checker_told (a0 := a0) (a1 := a1) SB96 er94) ?_
  rintro _ w95 ⟨v97, rfl, S2⟩
  replace S : St A N w w95 [oE v97 r94.2, oB b4 T_Term (Term.C (⟨a1.kind, a1.name, a1.other, a1.form, s_1⟩ : Term)), oB b2 T_Checker (Checker.C (⟨a_0⟩ : Checker))] [oT a_0 a0.t, oDTerm s_1 a1.sub, fScope a_2 a2, oEt] := back _ _ _ _ S2 rfl
  clear back S2 SB96
  refine wd (does_mv_t rfl) ?_
  refine wd (does_extract rfl rfl) ?_
  refine wd (does_extract rfl rfl) ?_
  refine wd (does_as_i rfl) ?_
  refine wd (does_assign rfl) ?_
  refine wl_nil ?_
  refine wc_seq (wc_seq (wc_region ?_))
  refine wd (does_move rfl) ?_
  refine wd (does_neE if_error rfl rfl (S.onO 0)) ?_
  refine wl_nil ?_
  refine wc_if rfl (fun hc98 => ?_) (fun hc98 => ?_)
  ·replace H := if_t hc98 H
   refine wc_seq (wc_region ?_)
   refine wd (does_move rfl) ?_
   refine wd (does_assign rfl) ?_
   refine wl_nil ?_
   refine wc_ret ?_
   refine ⟨_, (rets1 (retOne_tmp rfl)), ?_⟩
   replace S : St A N w w95 [oE v97 r94.2] [] := S.arr [0] []
   obtain rfl := Option.some.inj H
   exact ⟨v97, rfl, S⟩
  replace H := if_f hc98 H
  refine wc_skip ?_
  refine wc_seq ?_
  refine wc_semi 8 [6]
   (fun i v u => match i with
   | 6 => ∃ b : Nat, v = Value.pointer (some ⟨b, 0, none⟩) ∧ Blk u b T_Scope (Scope.C ⟨a1.name, r94.1, a_2⟩) ∧ w95.heap.size ≤ b
   | _ => True) hmix (by kernel_rfl) (by kernel_rfl) ?_ ?_
  ·intro i v u u' hi hx hv
   match i, hv with
   | 6, ⟨b, e1, hb, hl⟩ => exact ⟨b, e1, hb.ext hx, hl⟩
   | 0, _ => exact trivial
   | 1, _ => exact trivial
   | 2, _ => exact trivial
   | 3, _ => exact trivial
   | 4, _ => exact trivial
   | 5, _ => exact trivial
   | _ + 7, _ => exact trivial
  refine wm_does (fun v K => does_load_agg ag_Checker rfl (((S.ext K).blk 2).all _ (Checker.len _)) (Checker.len _)) rfl ?_
  refine wm_does (fun v K => does_load_agg ag_Term rfl (((S.ext K).blk 1).all _ (Term.len _)) (Term.len _)) rfl ?_
  refine wm_does (fun v K => does_mv_p rfl) rfl ?_
  refine wm_does (fun v K => does_fieldAddr fl_Term_name rfl (o' := 1) rfl) rfl ?_
  refine wm_does (fun v K => does_load on_string rfl (((S.ext K).blk 1).cell (Term.get_name _))) rfl ?_
  refine wm_does (fun v K => does_mv_i rfl) rfl ?_
  refine wm_newcall (fun g v K G => ⟨_, _, does_callg ca_types_scope_with (cons2 rfl (cons2 rfl (cons2 rfl rfl))), newc (types_scope_with_ok _ _ _ _) fun _ _ ⟨b, hv, hx, hb, hl⟩ => ⟨hx, b, hv, hb, by have := K.size; omega⟩⟩) rfl ?_
  refine wm_does (fun v K => does_mv_i rfl) rfl ?_
  refine wm_nil fun g w100 K hV => ?_
  obtain ⟨b99, hv1016, hb6, hf6⟩ := hV 6 rfl (by decide)
  replace S : St A N w w100 [oB b99 T_Scope (Scope.C ⟨a1.name, r94.1, a_2⟩), oE v97 r94.2, oB b4 T_Term (Term.C (⟨a1.kind, a1.name, a1.other, a1.form, s_1⟩ : Term)), oB b2 T_Checker (Checker.C (⟨a_0⟩ : Checker))] [oT a_0 a0.t, oDTerm s_1 a1.sub, fScope a_2 a2, oEt] := S.newAt K hb6 hf6
  replace S : St A N w w100 [oE v97 r94.2, oB b4 T_Term (Term.C (⟨a1.kind, a1.name, a1.other, a1.form, s_1⟩ : Term)), oB b2 T_Checker (Checker.C (⟨a_0⟩ : Checker))] [fScope (some ⟨b99, 0, none⟩) ((a1.name, r94.1) :: a2), oT a_0 a0.t, oDTerm s_1 a1.sub, fScope a_2 a2, oEt] := S.pushScope 0 2
  clear K hV
  obtain ⟨r102, er102, H⟩ := bind_ex H
  obtain ⟨B104, MB104, SB104, back⟩ := S.calln 0 ((.z 1 rfl (.z 2 rfl (.z 0 rfl (.z 4 rfl .nil)))))
  refine wl_call (does_callg ca_types_checker_check (cons2 rfl (cons2 rfl (cons2 rfl (cons2 hv1016 (cons2 rfl rfl)))))) (by decide) (types_checker_check_gst hrec_types_checker_checked (a0 := a0) (a1 := a1) SB104 er102) ?_
  rintro v105 w103 ⟨_, rfl, S2⟩
  replace S : St A N w w103 [oE v105 r102, oE v97 r94.2, oB b4 T_Term (Term.C (⟨a1.kind, a1.name, a1.other, a1.form, s_1⟩ : Term)), oB b2 T_Checker (Checker.C (⟨a_0⟩ : Checker))] [fScope (some ⟨b99, 0, none⟩) ((a1.name, r94.1) :: a2), oT a_0 a0.t, oDTerm s_1 a1.sub, fScope a_2 a2, oEt] := back _ _ _ _ S2 rfl
  clear back S2 SB104
  refine wd (does_assign rfl) ?_
  refine wl_nil ?_
  refine wc_ret ?_
  refine ⟨_, (rets1 (retOne_tmp rfl)), ?_⟩
  replace S : St A N w w103 [oE v105 r102] [] := S.arr [0] []
  obtain rfl := Option.some.inj H
  exact ⟨v105, rfl, S⟩
 replace H := if_f hc93 H
 refine wc_skip ?_
 refine wc_seq (wc_region ?_)
 refine wd (does_load_agg ag_Checker rfl ((S.blk 1).all _ (Checker.len _)) (Checker.len _)) ?_
 refine wd (does_load_agg ag_Term rfl ((S.blk 0).all _ (Term.len _)) (Term.len _)) ?_
 refine wd (does_mv_p rfl) ?_
 obtain ⟨r106, er106, H⟩ := bind_ex H
 obtain ⟨B108, MB108, SB108, back⟩ := S.calln 0 ((.z 0 rfl (.z 1 rfl (.z 2 rfl (.z 3 rfl .nil)))))
 refine wl_call (does_call ca_types_checker_told) (by decide) (hrec_types_checker_told (a0 := a0) (a1 := a1) SB108 er106) ?_
 rintro _ w107 ⟨v109, rfl, S2⟩
 replace S : St A N w w107 [oE v109 r106.2, oB b4 T_Term (Term.C (⟨a1.kind, a1.name, a1.other, a1.form, s_1⟩ : Term)), oB b2 T_Checker (Checker.C (⟨a_0⟩ : Checker))] [oT a_0 a0.t, oDTerm s_1 a1.sub, fScope a_2 a2, oEt] := back _ _ _ _ S2 rfl
 clear back S2 SB108
 refine wd (does_mv_t rfl) ?_
 refine wd (does_extract rfl rfl) ?_
 refine wd (does_extract rfl rfl) ?_
 refine wd (does_as_i rfl) ?_
 refine wd (does_assign rfl) ?_
 refine wl_nil ?_
 refine wc_seq (wc_seq (wc_region ?_))
 refine wd (does_move rfl) ?_
 refine wd (does_eqE if_error rfl rfl (S.onO 0)) ?_
 refine wd (does_mv_b rfl) ?_
 refine wl_guard (j := 2) (pol := true) rfl rfl rfl (by decide) (fun hg => does_mv_i rfl) (by decide) ?_
 refine wl_guard (j := 2) (pol := true) rfl rfl rfl (by decide) (fun hg => does_mv_i rfl) (by decide) ?_
 refine wl_guard (j := 2) (pol := true) rfl rfl rfl (by decide) (fun hg => does_ne (gv_yes hg) (gv_yes hg)) (by decide) ?_
 refine wd (does_and rfl (fun hp => (gv_yes (and_1 hp)))) ?_
 refine wl_nil ?_
 refine wc_if rfl (fun hc110 => ?_) (fun hc110 => ?_)
 ·replace H := if_t hc110 H
  refine wc_region ?_
  refine wd (Does.to (v' := .agg (Refusal.C (⟨130, SlV.nil⟩ : Refusal)).toArray) (does_buildv (vs := [(0, .int .i64 130)]) bu_Refusal (consP rfl rfl) (Bld.one rfl rfl (by rw [Refusal.len]; decide) (Refusal.set_code _ _) Bld.nil)) rfl) ?_
  refine wl_box_agg rfl (by decide) fun b112 w111 hw111 => ?_
  replace S : St A N w w111 [oB b112 T_Refusal (Refusal.C (⟨130, SlV.nil⟩ : Refusal)), oE v109 r106.2, oB b4 T_Term (Term.C (⟨a1.kind, a1.name, a1.other, a1.form, s_1⟩ : Term)), oB b2 T_Checker (Checker.C (⟨a_0⟩ : Checker))] [oT a_0 a0.t, oDTerm s_1 a1.sub, fScope a_2 a2, oEt] := S.new hw111
  refine wd (does_makeInterface rfl) ?_
  replace S := S.nil T_int 1 IC
  replace S := S.front 1
  replace S : St A N w w111 [oE (.iface T_P_Refusal (.pointer (some ⟨b112, 0, none⟩))) (some (130, ([] : List Int))), oE v109 r106.2, oB b4 T_Term (Term.C (⟨a1.kind, a1.name, a1.other, a1.form, s_1⟩ : Term)), oB b2 T_Checker (Checker.C (⟨a_0⟩ : Checker))] [oT a_0 a0.t, oDTerm s_1 a1.sub, fScope a_2 a2, oEt] := S.mkE
  refine wd (does_assign rfl) ?_
  refine wl_nil ?_
  refine wc_seq (wc_region ?_)
  refine wd (does_move rfl) ?_
  refine wd (does_assign rfl) ?_
  refine wl_nil ?_
  refine wc_ret ?_
  refine ⟨_, (rets1 (retOne_tmp rfl)), ?_⟩
  replace S : St A N w w111 [oE (.iface T_P_Refusal (.pointer (some ⟨b112, 0, none⟩))) (some (130, ([] : List Int)))] [] := S.arr [0] []
  obtain rfl := Option.some.inj H
  exact ⟨(.iface T_P_Refusal (.pointer (some ⟨b112, 0, none⟩))), rfl, S⟩
 ·replace H := if_f hc110 H
  refine wc_skip ?_
  refine wc_seq (wc_region ?_)
  refine wd (does_move rfl) ?_
  refine wd (does_assign rfl) ?_
  refine wl_nil ?_
  refine wc_ret ?_
  refine ⟨_, (rets1 (retOne_tmp rfl)), ?_⟩
  replace S : St A N w w107 [oE v109 r106.2] [] := S.arr [0] []
  obtain rfl := Option.some.inj H
  exact ⟨v109, rfl, S⟩
theorem types_tc_both : ∀ (k : Nat), (∀ {A : Nat → Prop} {N : Oth} {w : World} {a0 : PChecker} {a_0 : Option Addr} {a1 : PTerm} {s_1 : SlV} {a2 : List (ByteArray × Int)} {a_2 : Option Addr} (S : St A N w w [] [oT a_0 a0.t, oDTerm s_1 a1.sub, fScope a_2 a2, oEt]) {r : Int × (Option (Int × List Int))} (H : types_checker_told.f k a0 a1 a2 = some r), Calls PP F_types_checker_told #[.agg (Checker.C (⟨a_0⟩ : Checker)).toArray, .agg (Term.C (⟨a1.kind, a1.name, a1.other, a1.form, s_1⟩ : Term)).toArray, .pointer a_2] w fun e w' => ∃ v, e = .returned v ∧ (∃ vo0 : Value, v = .tuple #[.int .i64 r.1, vo0] ∧ St A N w w' [oE vo0 r.2] [])) ∧ (∀ {A : Nat → Prop} {N : Oth} {w : World} {a0 : PChecker} {a_0 : Option Addr} {a1 : PTerm} {s_1 : SlV} {a2 : List (ByteArray × Int)} {a_2 : Option Addr} {a3 : Int} (S : St A N w w [] [oT a_0 a0.t, oDTerm s_1 a1.sub, fScope a_2 a2, oEt]) {r : (Option (Int × List Int))} (H : types_checker_checked.f k a0 a1 a2 a3 = some r), Calls PP F_types_checker_checked #[.agg (Checker.C (⟨a_0⟩ : Checker)).toArray, .agg (Term.C (⟨a1.kind, a1.name, a1.other, a1.form, s_1⟩ : Term)).toArray, .pointer a_2, .int .i64 a3] w fun e w' => ∃ v, e = .returned v ∧ (∃ vo0 : Value, v = vo0 ∧ St A N w w' [oE vo0 r] [])) := by
 intro k
 induction k with
 | zero =>
  refine ⟨?_, ?_⟩
  ·intro A N w a0 a_0 a1 s_1 a2 a_2 S r H; cases H
  ·intro A N w a0 a_0 a1 s_1 a2 a_2 a3 S r H; cases H
 | succ k ih =>
  refine ⟨?_, ?_⟩
  ·intro A N w a0 a_0 a1 s_1 a2 a_2 S r H; exact types_checker_told_gst ih.1 ih.2 S H
  ·intro A N w a0 a_0 a1 s_1 a2 a_2 a3 S r H; exact types_checker_checked_gst ih.1 ih.2 S H
theorem types_checker_told_st {A : Nat → Prop} {N : Oth} {w : World} {a0 : PChecker} {a_0 : Option Addr} {a1 : PTerm} {s_1 : SlV} {a2 : List (ByteArray × Int)} {a_2 : Option Addr} (S : St A N w w [] [oT a_0 a0.t, oDTerm s_1 a1.sub, fScope a_2 a2, oEt]) {k : Nat} {r : Int × (Option (Int × List Int))} (H : types_checker_told.f k a0 a1 a2 = some r) :
  Calls PP F_types_checker_told #[.agg (Checker.C (⟨a_0⟩ : Checker)).toArray, .agg (Term.C (⟨a1.kind, a1.name, a1.other, a1.form, s_1⟩ : Term)).toArray, .pointer a_2] w fun e w' => ∃ v, e = .returned v ∧ (∃ vo0 : Value, v = .tuple #[.int .i64 r.1, vo0] ∧ St A N w w' [oE vo0 r.2] []) := by exact (types_tc_both k).1 S H
theorem types_checker_checked_st {A : Nat → Prop} {N : Oth} {w : World} {a0 : PChecker} {a_0 : Option Addr} {a1 : PTerm} {s_1 : SlV} {a2 : List (ByteArray × Int)} {a_2 : Option Addr} {a3 : Int} (S : St A N w w [] [oT a_0 a0.t, oDTerm s_1 a1.sub, fScope a_2 a2, oEt]) {k : Nat} {r : (Option (Int × List Int))} (H : types_checker_checked.f k a0 a1 a2 a3 = some r) :
  Calls PP F_types_checker_checked #[.agg (Checker.C (⟨a_0⟩ : Checker)).toArray, .agg (Term.C (⟨a1.kind, a1.name, a1.other, a1.form, s_1⟩ : Term)).toArray, .pointer a_2, .int .i64 a3] w fun e w' => ∃ v, e = .returned v ∧ (∃ vo0 : Value, v = vo0 ∧ St A N w w' [oE vo0 r] []) := by exact (types_tc_both k).2 S H
theorem types_ahead_st {A : Nat → Prop} {N : Oth} {w : World} {a0 : Tb} {a_0 : Option Addr} {a1 : List Hyp} {s_1 : SlV} {a2 : PTerm} {s_2 : SlV} {a3 : List Int} {s_3 : SlV} (S : St A N w w [oS T_int 1 IC s_3 a3] [oT a_0 a0, fS 2 Hyp.C s_1 a1, oDTerm s_2 a2.sub]) {k : Nat} {r : (List (ByteArray × Int)) × Int} (H : types_ahead.f k a0 a1 a2 a3 = some r) :
  Calls PP F_types_ahead #[.pointer a_0, s_1.v, .agg (Term.C (⟨a2.kind, a2.name, a2.other, a2.form, s_2⟩ : Term)).toArray, s_3.v] w fun e w' => ∃ v, e = .returned v ∧ (∃ ao0 : Option Addr, v = .tuple #[.pointer ao0, .int .i64 r.2] ∧ St A N w w' [] [fScope ao0 r.1]) := by
 unfold types_ahead.f at H
 refine calls_of_wc (n := 63) fn_types_ahead rfl rfl (by simp) ?_
 refine wc_seq (wc_region ?_)
 refine wl_box_agg rfl (by decide) fun b2 w1 hw1 => ?_
 replace S : St A N w w1 [oB b2 T_Term (Term.C (⟨a2.kind, a2.name, a2.other, a2.form, s_2⟩ : Term)), oS T_int 1 IC s_3 a3] [oT a_0 a0, fS 2 Hyp.C s_1 a1, oDTerm s_2 a2.sub] := S.new hw1
 refine wd (does_as_p rfl) ?_
 replace S : St A N w w1 [oB b2 T_Term (Term.C (⟨a2.kind, a2.name, a2.other, a2.form, s_2⟩ : Term)), oS T_int 1 IC s_3 a3] [fScope none ([] : List (ByteArray × Int)), oT a_0 a0, fS 2 Hyp.C s_1 a1, oDTerm s_2 a2.sub] := S.nil_fScopeZ
 refine wd (does_as_i rfl) ?_
 refine wl_nil ?_
 refine wc_seq (wc_seq (wc_region ?_))
 refine wd (does_mv_p rfl) ?_
 obtain ⟨r3, er3, H⟩ := bind_ex H
 obtain ⟨B5, MB5, SB5, back⟩ := S.calln 0 ((.z 1 rfl .nil))
 refine wl_call (does_call ca_formula_Table_Not) (by decide) (formula_Table_Not_neg_st SB5 rfl er3) ?_
 rintro _ w4 ⟨rfl, S2⟩
 replace S : St A N w w4 [oB b2 T_Term (Term.C (⟨a2.kind, a2.name, a2.other, a2.form, s_2⟩ : Term)), oS T_int 1 IC s_3 a3] [fScope none ([] : List (ByteArray × Int)), oT a_0 a0, fS 2 Hyp.C s_1 a1, oDTerm s_2 a2.sub] := back _ _ _ _ S2 rfl
 clear back S2 SB5
 refine wd (does_mv_t rfl) ?_
 refine wd (does_extract rfl rfl) ?_
 refine wd (does_extract rfl rfl) ?_
 refine wd (does_as_i rfl) ?_
 refine wd (does_as_i rfl) ?_
 refine wl_nil ?_
 refine wc_seq (wc_region ?_)
 refine wd (does_mv_i rfl) ?_
 refine wd (does_eq rfl rfl) ?_
 refine wl_nil ?_
 refine wc_if rfl (fun hc6 => ?_) (fun hc6 => ?_)
 ·replace H := if_t hc6 H
  refine wc_seq (wc_region ?_)
  refine wd (does_mv_i rfl) ?_
  refine wd (does_as_p rfl) ?_
  replace S : St A N w w4 [oB b2 T_Term (Term.C (⟨a2.kind, a2.name, a2.other, a2.form, s_2⟩ : Term)), oS T_int 1 IC s_3 a3] [fScope none ([] : List (ByteArray × Int)), fScope none ([] : List (ByteArray × Int)), oT a_0 a0, fS 2 Hyp.C s_1 a1, oDTerm s_2 a2.sub] := S.nil_fScopeZ
  refine wd (does_as_i rfl) ?_
  refine wl_nil ?_
  refine wc_ret ?_
  refine ⟨_, (rets2 (retOne_tmp rfl) (retOne_tmp rfl)), ?_⟩
  replace S : St A N w w4 [] [fScope none ([] : List (ByteArray × Int))] := S.arr [] [0]
  obtain rfl := Option.some.inj H
  exact ⟨none, rfl, S⟩
 replace H := if_f hc6 H
 refine wc_skip ?_
 refine wc_seq (wc_region ?_)
 refine wd (does_as_p rfl) ?_
 replace S : St A N w w4 [oB b2 T_Term (Term.C (⟨a2.kind, a2.name, a2.other, a2.form, s_2⟩ : Term)), oS T_int 1 IC s_3 a3] [fScope none ([] : List (ByteArray × Int)), fScope none ([] : List (ByteArray × Int)), oT a_0 a0, fS 2 Hyp.C s_1 a1, oDTerm s_2 a2.sub] := S.nil_fScopeZ
 refine wl_nil ?_
 refine wc_seq (wc_seq (wc_region ?_))
 refine wd (does_mv_l rfl) ?_
 refine wd (does_lenR sl_L_api_Hyp rfl (S.rd 3)) ?_
 refine wd (does_mv_i rfl) ?_
 refine wl_nil ?_
 obtain ⟨o7, e7, Ho7⟩ := bind_ex H
 clear H
 refine wc_cutq [3, 12, 14, 29, 30, 31, 32, 33, 34, 35, 36, 37, 38, 39, 40, 41, 42, 43, 44] (fun fr W => ∃ s8 : SlV, ∃ a9 : Option Addr, fr 3 = s8.v ∧ fr 12 = .pointer a9 ∧ St A N w W [oB b2 T_Term (Term.C (⟨a2.kind, a2.name, a2.other, a2.form, s_2⟩ : Term)), oS T_int 1 IC s8 o7.1] [fScope a9 o7.2, fScope none ([] : List (ByteArray × Int)), oT a_0 a0, fS 2 Hyp.C s_1 a1, oDTerm s_2 a2.sub]) ?_ ?_
 ·refine wc_block ?_
  refine wc_loopm (α := Nat × Int × (List Int × (List (ByteArray × Int)))) [3, 12, 14, 29, 30, 31, 32, 33, 34, 35, 36, 37, 38, 39, 40, 41, 42, 43, 44] (fun x fr W => (x.1 : Int) = (a1.length : Int) - x.2.1 ∧ 0 ≤ x.2.1 ∧ forS (fun i s => types_ahead.b0 a1 i s.1 s.2) x.1 x.2.1 x.2.2 = some o7 ∧ ∃ s10 : SlV, ∃ a11 : Option Addr, fr 29 = .int .i64 x.2.1 ∧ fr 3 = s10.v ∧ fr 12 = .pointer a11 ∧ St A N w W [oB b2 T_Term (Term.C (⟨a2.kind, a2.name, a2.other, a2.form, s_2⟩ : Term)), oS T_int 1 IC s10 (x.2.2.1)] [fScope a11 (x.2.2.2), fScope none ([] : List (ByteArray × Int)), oT a_0 a0, fS 2 Hyp.C s_1 a1, oDTerm s_2 a2.sub]) (fun x => x.1) (((a1.length : Int) - 0).toNat, 0, (a3, ([] : List (ByteArray × Int)))) ⟨(by dsimp only; have hle := Int.natCast_nonneg (a1.length); omega), (Int.le_refl _), (by dsimp only; exact e7), s_3, none, rfl, rfl, rfl, S⟩ ?_
  rintro ⟨m7, i7, ⟨x7_0, x7_1⟩⟩ g7 u7 ⟨hm7, hl7, e7, s12, a13, q7_i, q7_3, q7_12, S⟩
  try dsimp only at hm7
  try dsimp only at hl7
  try dsimp only at e7
  try dsimp only at S
  try dsimp only at q7_i
  try dsimp only at q7_3
  try dsimp only at q7_12
  refine wc_seq (wc_region ?_)
  refine wd (does_lt q7_i rfl) ?_
  refine wl_nil ?_
  refine wc_seq ?_
  refine wc_if rfl (fun hc14 => ?_) (fun hc14 => ?_)
  rotate_left
  ·refine wc_exit ?_
   have hge : (a1.length : Int) ≤ i7 := Int.not_lt.1 (of_decide_eq_false hc14)
   obtain rfl : m7 = 0 := by omega
   replace e7 := forS_0 e7
   obtain rfl := e7
   exact ⟨rfl, ((Dif.self _ _ _).upd rfl _), s12, a13, q7_3, q7_12, S⟩
  refine wc_skip ?_
  have hlt7 : i7 < (a1.length : Int) := of_decide_eq_true hc14
  obtain ⟨m7, rfl⟩ : ∃ m, m7 = m + 1 := ⟨m7 - 1, by omega⟩
  obtain ⟨q7, H, e7⟩ := forS_s e7
  unfold types_ahead.b0 at H
  try dsimp only at H
  have hb7 := (S.len 3)
  refine wc_seq ?_
  refine wc_block ?_
  refine wc_seq (wc_region ?_)
  refine wd (does_indexR sl_L_api_Hyp rfl q7_i (S.rd 3) (And.intro (show 0 ≤ i7 by omega) (show i7 < (a1.length : Int) from hlt7)).1 (And.intro (show 0 ≤ i7 by omega) (show i7 < (a1.length : Int) from hlt7)).2) ?_
  refine wd (does_load_agg ag_Hyp rfl ((S.rd 3).at (at_some Hyp.z (And.intro (show 0 ≤ i7 by omega) (show i7 < (a1.length : Int) from hlt7)))) (Hyp.len _)) ?_
  refine wl_alloc ze_Hyp (by decide) fun b17 w16 hw16 => ?_
  replace S : St A N w w16 [oB b17 T_Hyp (Hyp.C Hyp.z), oB b2 T_Term (Term.C (⟨a2.kind, a2.name, a2.other, a2.form, s_2⟩ : Term)), oS T_int 1 IC s12 x7_0] [fScope a13 x7_1, fScope none ([] : List (ByteArray × Int)), oT a_0 a0, fS 2 Hyp.C s_1 a1, oDTerm s_2 a2.sub] := S.new hw16
  refine wl_store_agg ag_Hyp rfl rfl (S.blk 0) (Hyp.len _) (by rw [Hyp.len]; decide) (Hyp.one _) (store_all (Hyp.len _)) fun w18 B hw18 zw18 => ?_
  replace S : St A N w w18 [oB b17 T_Hyp (Hyp.C (at_ Hyp.z a1 i7)), oB b2 T_Term (Term.C (⟨a2.kind, a2.name, a2.other, a2.form, s_2⟩ : Term)), oS T_int 1 IC s12 x7_0] [fScope a13 x7_1, fScope none ([] : List (ByteArray × Int)), oT a_0 a0, fS 2 Hyp.C s_1 a1, oDTerm s_2 a2.sub] := S.store 0 B hw18
  clear B
  refine wl_nil ?_
  refine wc_seq (wc_region ?_)
  refine wd (does_mv_l q7_3) ?_
  refine wd (does_fieldAddr fl_Hyp_form rfl (o' := 1) rfl) ?_
  refine wd (does_load on_int rfl ((S.blk 0).cell (Hyp.get_form _))) ?_
  refine wl_lits (C := IC) (l := [(at_ Hyp.z a1 i7).form]) (vs := [.int .i64 ((at_ Hyp.z a1 i7).form)]) sl_L_int el_int.zero rfl rfl (fun _ _ => rfl) (by decide) rfl (by decide) fun b20 w19 s21 hBw19 hw19 => ?_
  replace S : St A N w w19 [oS T_int 1 IC s21 ([(at_ Hyp.z a1 i7).form]), oB b17 T_Hyp (Hyp.C (at_ Hyp.z a1 i7)), oB b2 T_Term (Term.C (⟨a2.kind, a2.name, a2.other, a2.form, s_2⟩ : Term)), oS T_int 1 IC s12 x7_0] [fScope a13 x7_1, fScope none ([] : List (ByteArray × Int)), oT a_0 a0, fS 2 Hyp.C s_1 a1, oDTerm s_2 a2.sub] := S.lit hBw19 hw19 (by simp)
  obtain ⟨ha24, H⟩ := chk_ex H
  have ha24 := of_decide_eq_true ha24
  refine wl_appends (C := IC) sl_L_int el_int rfl rfl (S.sl 3) (S.rdO 0) (by simp) (fun a _ v hv => by rw [List.mem_singleton.1 hv]; rfl) ha24 (by omega) (by decide) fun s23 w22 O hw22 gw22 => ?_
  replace S : St A N w w22 [oS T_int 1 IC s23 (x7_0 ++ [(at_ Hyp.z a1 i7).form]), oS T_int 1 IC s21 ([(at_ Hyp.z a1 i7).form]), oB b17 T_Hyp (Hyp.C (at_ Hyp.z a1 i7)), oB b2 T_Term (Term.C (⟨a2.kind, a2.name, a2.other, a2.form, s_2⟩ : Term))] [fScope a13 x7_1, fScope none ([] : List (ByteArray × Int)), oT a_0 a0, fS 2 Hyp.C s_1 a1, oDTerm s_2 a2.sub] := S.push 3 O (by first | (simp; done) | (simp; omega)) hw22 gw22
  clear O
  refine wd (does_as_l rfl) ?_
  refine wl_nil ?_
  refine wc_region ?_
  refine wd (does_mv_p q7_12) ?_
  refine wd (does_fieldAddr fl_Hyp_name rfl (o' := 0) rfl) ?_
  refine wd (does_load on_string rfl ((S.blk 2).cell (Hyp.get_name _))) ?_
  refine wd (does_fieldAddr fl_Hyp_form rfl (o' := 1) rfl) ?_
  refine wd (does_load on_int rfl ((S.blk 2).cell (Hyp.get_form _))) ?_
  obtain ⟨r25, er25, H⟩ := bind_ex H
  obtain ⟨B27, MB27, SB27, back⟩ := S.sub [0] [] [oS T_int 1 IC s23 (x7_0 ++ [(at_ Hyp.z a1 i7).form]), oS T_int 1 IC s21 ([(at_ Hyp.z a1 i7).form]), oB b17 T_Hyp (Hyp.C (at_ Hyp.z a1 i7)), oB b2 T_Term (Term.C (⟨a2.kind, a2.name, a2.other, a2.form, s_2⟩ : Term))]
  refine wl_call (does_call ca_types_scope_with) (by decide) (types_scope_with_st SB27 er25) ?_
  rintro _ w26 ⟨a28, rfl, S2⟩
  replace S : St A N w w26 [oS T_int 1 IC s23 (x7_0 ++ [(at_ Hyp.z a1 i7).form]), oS T_int 1 IC s21 ([(at_ Hyp.z a1 i7).form]), oB b17 T_Hyp (Hyp.C (at_ Hyp.z a1 i7)), oB b2 T_Term (Term.C (⟨a2.kind, a2.name, a2.other, a2.form, s_2⟩ : Term))] [fScope a28 r25, fScope a13 x7_1, fScope none ([] : List (ByteArray × Int)), oT a_0 a0, fS 2 Hyp.C s_1 a1, oDTerm s_2 a2.sub] := back _ _ _ _ _ S2 rfl rfl
  clear back S2 SB27
  refine wd (does_as_p rfl) ?_
  refine wl_nil ?_
  refine wc_region ?_
  refine wd (does_addc q7_i rfl (c := i7 + 1) rfl (by omega) (by omega)) ?_
  refine wd (does_mv_i rfl) ?_
  refine wl_nil ?_
  replace S : St A N w w26 [oB b2 T_Term (Term.C (⟨a2.kind, a2.name, a2.other, a2.form, s_2⟩ : Term)), oS T_int 1 IC s23 (x7_0 ++ [(at_ Hyp.z a1 i7).form])] [fScope a28 r25, fScope none ([] : List (ByteArray × Int)), oT a_0 a0, fS 2 Hyp.C s_1 a1, oDTerm s_2 a2.sub] := S.arr [3, 0] [0, 2, 3, 4, 5]
  obtain rfl := Option.some.inj H
  exact ⟨rfl, ((((((((((((((((((((Dif.self _ _ _).upd rfl _).upd rfl _).upd rfl _).upd rfl _).upd rfl _).upd rfl _).upd rfl _).upd rfl _).upd rfl _).upd rfl _).upd rfl _).upd rfl _).upd rfl _).upd rfl _).upd rfl _).upd rfl _).upd rfl _).upd rfl _).upd rfl _), (m7, i7 + 1, (x7_0 ++ [(at_ Hyp.z a1 i7).form], r25)), ⟨(by dsimp only; omega), (by dsimp only; omega), e7, s23, a28, rfl, rfl, rfl, S⟩, by dsimp only; omega⟩
 rintro g29 u30 ⟨s8, a9, p7_3, p7_12, S⟩
 have H := Ho7
 refine wc_seq (wc_seq (wc_region ?_))
 refine wd (does_mv_l p7_3) ?_
 refine wd (does_lenR sl_L_int rfl (S.rdO 1)) ?_
 refine wd (does_mv_i rfl) ?_
 refine wl_nil ?_
 obtain ⟨o31, e31, Ho31⟩ := bind_ex H
 clear H
 refine wc_cutq [8, 9, 16, 17, 18, 47, 48, 49, 50, 51, 52, 53, 54, 55, 56, 57, 58, 59] (fun fr W => ∃ s31 : Unit, o31 = .inl s31 ∧ St A N w W [oB b2 T_Term (Term.C (⟨a2.kind, a2.name, a2.other, a2.form, s_2⟩ : Term)), oS T_int 1 IC s8 o7.1] [fScope a9 o7.2, fScope none ([] : List (ByteArray × Int)), oT a_0 a0, fS 2 Hyp.C s_1 a1, oDTerm s_2 a2.sub]) ?_ ?_
 ·refine wc_block ?_
  refine wc_loopm (α := Nat × Int × Unit) [8, 9, 16, 17, 18, 47, 48, 49, 50, 51, 52, 53, 54, 55, 56, 57, 58, 59] (fun x fr W => (x.1 : Int) = (o7.1.length : Int) - x.2.1 ∧ 0 ≤ x.2.1 ∧ forN (fun i s => types_ahead.b1 a0 o7 i) x.1 x.2.1 x.2.2 = some o31 ∧ fr 47 = .int .i64 x.2.1 ∧ St A N w W [oB b2 T_Term (Term.C (⟨a2.kind, a2.name, a2.other, a2.form, s_2⟩ : Term)), oS T_int 1 IC s8 o7.1] [fScope a9 o7.2, fScope none ([] : List (ByteArray × Int)), oT a_0 a0, fS 2 Hyp.C s_1 a1, oDTerm s_2 a2.sub]) (fun x => x.1) (((o7.1.length : Int) - 0).toNat, 0, ()) ⟨(by dsimp only; have hle := Int.natCast_nonneg (o7.1.length); omega), (Int.le_refl _), (by dsimp only; exact e31), rfl, S⟩ ?_
  rintro ⟨m31, i31, _⟩ g31 u31 ⟨hm31, hl31, e31, q31_i, S⟩
  try dsimp only at hm31
  try dsimp only at hl31
  try dsimp only at e31
  try dsimp only at S
  try dsimp only at q31_i
  refine wc_seq (wc_region ?_)
  refine wd (does_lt q31_i rfl) ?_
  refine wl_nil ?_
  refine wc_seq ?_
  refine wc_if rfl (fun hc32 => ?_) (fun hc32 => ?_)
  rotate_left
  ·refine wc_exit ?_
   have hge : (o7.1.length : Int) ≤ i31 := Int.not_lt.1 (of_decide_eq_false hc32)
   obtain rfl : m31 = 0 := by omega
   replace e31 := forN_0 e31
   exact ⟨rfl, ((Dif.self _ _ _).upd rfl _), (), e31, S⟩
  refine wc_skip ?_
  have hlt31 : i31 < (o7.1.length : Int) := of_decide_eq_true hc32
  obtain ⟨m31, rfl⟩ : ∃ m, m31 = m + 1 := ⟨m31 - 1, by omega⟩
  obtain ⟨q31, H, e31⟩ := forN_s e31
  unfold types_ahead.b1 at H
  try dsimp only at H
  have hb31 := (S.lenO 1)
  refine wc_seq ?_
  refine wc_block ?_
  refine wc_seq (wc_region ?_)
  refine wd (does_indexR sl_L_int rfl q31_i (S.rdO 1) (And.intro (show 0 ≤ i31 by omega) (show i31 < (o7.1.length : Int) from hlt31)).1 (And.intro (show 0 ≤ i31 by omega) (show i31 < (o7.1.length : Int) from hlt31)).2) ?_
  refine wd (does_load on_int rfl ((S.rdO 1).one (at_some (0 : Int) (And.intro (show 0 ≤ i31 by omega) (show i31 < (o7.1.length : Int) from hlt31))) rfl)) ?_
  refine wd (does_as_i rfl) ?_
  refine wl_nil ?_
  refine wc_seq (wc_region ?_)
  refine wd (does_mv_p rfl) ?_
  refine wd (does_mv_i rfl) ?_
  obtain ⟨r34, er34, H⟩ := bind_ex H
  obtain ⟨B36, MB36, SB36, back⟩ := S.calln 0 ((.z 2 rfl .nil))
  refine wl_call (does_call ca_formula_Table_Node) (by decide) (formula_Table_Node_st SB36 er34) ?_
  rintro _ w35 ⟨rfl, S2⟩
  replace S : St A N w w35 [oB b2 T_Term (Term.C (⟨a2.kind, a2.name, a2.other, a2.form, s_2⟩ : Term)), oS T_int 1 IC s8 o7.1] [fScope a9 o7.2, fScope none ([] : List (ByteArray × Int)), oT a_0 a0, fS 2 Hyp.C s_1 a1, oDTerm s_2 a2.sub] := back _ _ _ _ S2 rfl
  clear back S2 SB36
  refine wd (does_mv_t rfl) ?_
  refine wd (does_extract rfl rfl) ?_
  refine wd (does_extract rfl rfl) ?_
  refine wl_alloc ze_Nd (by decide) fun b38 w37 hw37 => ?_
  replace S : St A N w w37 [oB b38 T_Nd (Nd.C Nd.z), oB b2 T_Term (Term.C (⟨a2.kind, a2.name, a2.other, a2.form, s_2⟩ : Term)), oS T_int 1 IC s8 o7.1] [fScope a9 o7.2, fScope none ([] : List (ByteArray × Int)), oT a_0 a0, fS 2 Hyp.C s_1 a1, oDTerm s_2 a2.sub] := S.new hw37
  refine wl_store_agg ag_Nd rfl rfl (S.blk 0) (Nd.len _) (by rw [Nd.len]; decide) (Nd.one _) (store_all (Nd.len _)) fun w39 B hw39 zw39 => ?_
  replace S : St A N w w39 [oB b38 T_Nd (Nd.C r34.1), oB b2 T_Term (Term.C (⟨a2.kind, a2.name, a2.other, a2.form, s_2⟩ : Term)), oS T_int 1 IC s8 o7.1] [fScope a9 o7.2, fScope none ([] : List (ByteArray × Int)), oT a_0 a0, fS 2 Hyp.C s_1 a1, oDTerm s_2 a2.sub] := S.store 0 B hw39
  clear B
  refine wd (does_as_b rfl) ?_
  refine wl_nil ?_
  refine wc_seq (wc_region ?_)
  refine wd (does_mv_b rfl) ?_
  refine wd (does_not rfl) ?_
  refine wl_nil ?_
  refine wc_if rfl (fun hc40 => ?_) (fun hc40 => ?_)
  ·replace H := if_t hc40 H
   refine wc_seq (wc_region ?_)
   refine wd (does_as_p rfl) ?_
   replace S : St A N w w39 [oB b38 T_Nd (Nd.C r34.1), oB b2 T_Term (Term.C (⟨a2.kind, a2.name, a2.other, a2.form, s_2⟩ : Term)), oS T_int 1 IC s8 o7.1] [fScope none ([] : List (ByteArray × Int)), fScope a9 o7.2, fScope none ([] : List (ByteArray × Int)), oT a_0 a0, fS 2 Hyp.C s_1 a1, oDTerm s_2 a2.sub] := S.nil_fScopeZ
   refine wd (does_as_i rfl) ?_
   refine wl_nil ?_
   refine wc_ret ?_
   refine ⟨_, (rets2 (retOne_tmp rfl) (retOne_tmp rfl)), ?_⟩
   replace S : St A N w w39 [] [fScope none ([] : List (ByteArray × Int))] := S.arr [] [0]
   obtain rfl := Option.some.inj H
   obtain rfl := e31
   obtain rfl := aft_r Ho31
   exact ⟨none, rfl, S⟩
  replace H := if_f hc40 H
  refine wc_skip ?_
  refine wc_region ?_
  refine wd (does_addc q31_i rfl (c := i31 + 1) rfl (by omega) (by omega)) ?_
  refine wd (does_mv_i rfl) ?_
  refine wl_nil ?_
  replace S : St A N w w39 [oB b2 T_Term (Term.C (⟨a2.kind, a2.name, a2.other, a2.form, s_2⟩ : Term)), oS T_int 1 IC s8 o7.1] [fScope a9 o7.2, fScope none ([] : List (ByteArray × Int)), oT a_0 a0, fS 2 Hyp.C s_1 a1, oDTerm s_2 a2.sub] := S.arr [1, 2] [0, 1, 2, 3, 4]
  obtain rfl := Option.some.inj H
  exact ⟨rfl, (((((((((((((((((Dif.self _ _ _).upd rfl _).upd rfl _).upd rfl _).upd rfl _).upd rfl _).upd rfl _).upd rfl _).upd rfl _).upd rfl _).upd rfl _).upd rfl _).upd rfl _).upd rfl _).upd rfl _).upd rfl _).upd rfl _), (m31, i31 + 1, ()), ⟨(by dsimp only; omega), (by dsimp only; omega), e31, rfl, S⟩, by dsimp only; omega⟩
 rintro g41 u42 ⟨s31, rfl, S⟩
 have H := Ho31
 dsimp only [aft] at H
 refine wc_seq (wc_region ?_)
 refine wd (does_mv_p p7_12) ?_
 refine wd (does_load_agg ag_Term rfl ((S.blk 0).all _ (Term.len _)) (Term.len _)) ?_
 obtain ⟨r43, er43, H⟩ := bind_ex H
 obtain ⟨B45, MB45, SB45, back⟩ := S.calln 0 ((.z 4 rfl .nil))
 refine wl_call (does_call ca_term_Check) (by decide) (term_Check_st (a0 := a2) SB45 er43) ?_
 rintro _ w44 ⟨rfl, S2⟩
 replace S : St A N w w44 [oB b2 T_Term (Term.C (⟨a2.kind, a2.name, a2.other, a2.form, s_2⟩ : Term)), oS T_int 1 IC s8 o7.1] [fScope a9 o7.2, fScope none ([] : List (ByteArray × Int)), oT a_0 a0, fS 2 Hyp.C s_1 a1, oDTerm s_2 a2.sub] := back _ _ _ _ S2 rfl
 clear back S2 SB45
 refine wd (does_as_p rfl) ?_
 refine wd (does_as_i rfl) ?_
 refine wl_nil ?_
 refine wc_ret ?_
 refine ⟨_, (rets2 (retOne_tmp rfl) (retOne_tmp rfl)), ?_⟩
 replace S : St A N w w44 [] [fScope a9 o7.2] := S.arr [] [0]
 obtain rfl := Option.some.inj H
 exact ⟨a9, rfl, S⟩
theorem types_Where_st {A : Nat → Prop} {N : Oth} {w : World} {a0 : Tb} {a_0 : Option Addr} {a1 : List Hyp} {s_1 : SlV} {a2 : PTerm} {s_2 : SlV} {a3 : Int} (S : St A N w w [] [oT a_0 a0, fS 2 Hyp.C s_1 a1, oDTerm s_2 a2.sub, oEt]) {k : Nat} {r : List Int × Int} (H : types_Where.f k a0 a1 a2 a3 = some r) :
  Calls PP F_types_Where #[.pointer a_0, s_1.v, .agg (Term.C (⟨a2.kind, a2.name, a2.other, a2.form, s_2⟩ : Term)).toArray, .int .i64 a3] w fun e w' => ∃ v, e = .returned v ∧ (∃ so0 : SlV, v = .tuple #[so0.v, .int .i64 r.2] ∧ St A N w w' [oS T_int 1 IC so0 r.1] []) := by
 unfold types_Where.f at H
 refine calls_of_wc (n := 33) fn_types_Where rfl rfl (by simp) ?_
 refine wc_seq (wc_region ?_)
 refine wl_box_agg rfl (by decide) fun b2 w1 hw1 => ?_
 replace S : St A N w w1 [oB b2 T_Term (Term.C (⟨a2.kind, a2.name, a2.other, a2.form, s_2⟩ : Term))] [oT a_0 a0, fS 2 Hyp.C s_1 a1, oDTerm s_2 a2.sub, oEt] := S.new hw1
 refine wd (does_as_nil) ?_
 refine wd (does_as_i rfl) ?_
 refine wl_nil ?_
 refine wc_seq (wc_region ?_)
 refine wd (does_mv_p rfl) ?_
 refine wd (does_mv_l rfl) ?_
 refine wd (does_load_agg ag_Term rfl ((S.blk 0).all _ (Term.len _)) (Term.len _)) ?_
 refine wd (does_mv_i rfl) ?_
 refine wl_lits (C := IC) (l := [a3]) (vs := [.int .i64 a3]) sl_L_int el_int.zero rfl rfl (fun _ _ => rfl) (by decide) rfl (by decide) fun b4 w3 s5 hBw3 hw3 => ?_
 replace S : St A N w w3 [oS T_int 1 IC s5 ([a3]), oB b2 T_Term (Term.C (⟨a2.kind, a2.name, a2.other, a2.form, s_2⟩ : Term))] [oT a_0 a0, fS 2 Hyp.C s_1 a1, oDTerm s_2 a2.sub, oEt] := S.lit hBw3 hw3 (by simp)
 obtain ⟨r6, er6, H⟩ := bind_ex H
 obtain ⟨B8, MB8, SB8, back⟩ := S.sub [0, 1, 2] [oS T_int 1 IC s5 ([a3])] [oB b2 T_Term (Term.C (⟨a2.kind, a2.name, a2.other, a2.form, s_2⟩ : Term))]
 refine wl_call (does_call ca_types_ahead) (by decide) (types_ahead_st (a2 := a2) SB8 er6) ?_
 rintro _ w7 ⟨a9, rfl, S2⟩
 replace S : St A N w w7 [oB b2 T_Term (Term.C (⟨a2.kind, a2.name, a2.other, a2.form, s_2⟩ : Term))] [fScope a9 r6.1, oT a_0 a0, fS 2 Hyp.C s_1 a1, oDTerm s_2 a2.sub, oEt] := back _ _ _ _ _ S2 rfl rfl
 clear back S2 SB8
 refine wd (does_mv_t rfl) ?_
 refine wd (does_extract rfl rfl) ?_
 refine wd (does_extract rfl rfl) ?_
 refine wd (does_as_p rfl) ?_
 refine wd (does_as_i rfl) ?_
 refine wl_nil ?_
 refine wc_seq (wc_seq (wc_region ?_))
 refine wd (does_mv_i rfl) ?_
 refine wd (does_ne rfl rfl) ?_
 refine wl_nil ?_
 refine wc_if rfl (fun hc10 => ?_) (fun hc10 => ?_)
 ·replace H := if_t hc10 H
  refine wc_seq (wc_region ?_)
  refine wd (does_mv_i rfl) ?_
  refine wd (does_as_nil) ?_
  refine wd (does_as_i rfl) ?_
  refine wl_nil ?_
  refine wc_ret ?_
  replace S : St A N w w7 [oS T_int 1 IC SlV.nil ([] : List Int), oB b2 T_Term (Term.C (⟨a2.kind, a2.name, a2.other, a2.form, s_2⟩ : Term))] [fScope a9 r6.1, oT a_0 a0, fS 2 Hyp.C s_1 a1, oDTerm s_2 a2.sub, oEt] := S.nil T_int 1 IC
  refine ⟨_, (rets2 (retOne_tmp rfl) (retOne_tmp rfl)), ?_⟩
  replace S : St A N w w7 [oS T_int 1 IC SlV.nil ([] : List Int)] [] := S.arr [0] []
  obtain rfl := Option.some.inj H
  exact ⟨SlV.nil, rfl, S⟩
 replace H := if_f hc10 H
 refine wc_skip ?_
 refine wc_seq (wc_region ?_)
 refine wd (does_mv_p rfl) ?_
 refine wd (Does.to (v' := .agg (Checker.C (⟨a_0⟩ : Checker)).toArray) (does_buildv (vs := [(0, .pointer a_0)]) bu_Checker (consP rfl rfl) (Bld.one rfl rfl (by rw [Checker.len]; decide) (Checker.set_t _ _) Bld.nil)) rfl) ?_
 refine wd (does_load_agg ag_Term rfl ((S.blk 0).all _ (Term.len _)) (Term.len _)) ?_
 refine wd (does_mv_p rfl) ?_
 refine wd (does_mv_i rfl) ?_
 obtain ⟨r11, er11, H⟩ := bind_ex H
 obtain ⟨B13, MB13, SB13, back⟩ := S.calln 0 ((.z 1 rfl (.z 3 rfl (.z 0 rfl (.z 4 rfl .nil)))))
 refine wl_call (does_call ca_types_checker_checked) (by decide) (types_checker_checked_st (a0 := (⟨a0⟩ : PChecker)) (a1 := a2) SB13 er11) ?_
 rintro v14 w12 ⟨_, rfl, S2⟩
 replace S : St A N w w12 [oE v14 r11, oB b2 T_Term (Term.C (⟨a2.kind, a2.name, a2.other, a2.form, s_2⟩ : Term))] [fScope a9 r6.1, oT a_0 a0, fS 2 Hyp.C s_1 a1, oDTerm s_2 a2.sub, oEt] := back _ _ _ _ S2 rfl
 clear back S2 SB13
 obtain ⟨r15, er15, H⟩ := bind_ex H
 obtain ⟨B17, MB17, SB17, back⟩ := S.calln 1 ((.z 4 rfl .nil))
 refine wl_call (does_call ca_types_code) (by decide) (types_code_st (a0 := r11) SB17 er15) ?_
 rintro _ w16 ⟨s18, rfl, S2⟩
 replace S : St A N w w16 [oS T_int 1 IC s18 r15.1, oB b2 T_Term (Term.C (⟨a2.kind, a2.name, a2.other, a2.form, s_2⟩ : Term))] [fScope a9 r6.1, oT a_0 a0, fS 2 Hyp.C s_1 a1, oDTerm s_2 a2.sub, oEt] := back _ _ _ _ S2 rfl
 clear back S2 SB17
 refine wd (does_extract rfl rfl) ?_
 refine wd (does_extract rfl rfl) ?_
 refine wd (does_as_l rfl) ?_
 refine wd (does_as_i rfl) ?_
 refine wl_nil ?_
 refine wc_ret ?_
 refine ⟨_, (rets2 (retOne_tmp rfl) (retOne_tmp rfl)), ?_⟩
 replace S : St A N w w16 [oS T_int 1 IC s18 r15.1] [] := S.arr [0] []
 obtain rfl := Option.some.inj H
 exact ⟨s18, rfl, S⟩
theorem types_Check_st {A : Nat → Prop} {N : Oth} {w : World} {a0 : Tb} {a_0 : Option Addr} {a1 : List Hyp} {s_1 : SlV} {a2 : PTerm} {s_2 : SlV} {a3 : Int} (S : St A N w w [] [oT a_0 a0, fS 2 Hyp.C s_1 a1, oDTerm s_2 a2.sub, oEt]) {k : Nat} {r : Int} (H : types_Check.f k a0 a1 a2 a3 = some r) :
  Calls PP F_types_Check #[.pointer a_0, s_1.v, .agg (Term.C (⟨a2.kind, a2.name, a2.other, a2.form, s_2⟩ : Term)).toArray, .int .i64 a3] w fun e w' => ∃ v, e = .returned v ∧ (v = .int .i64 r ∧ St A N w w' [] []) := by
 unfold types_Check.f at H
 refine calls_of_wc (n := 20) fn_types_Check rfl rfl (by simp) ?_
 refine wc_seq (wc_region ?_)
 refine wl_box_agg rfl (by decide) fun b2 w1 hw1 => ?_
 replace S : St A N w w1 [oB b2 T_Term (Term.C (⟨a2.kind, a2.name, a2.other, a2.form, s_2⟩ : Term))] [oT a_0 a0, fS 2 Hyp.C s_1 a1, oDTerm s_2 a2.sub, oEt] := S.new hw1
 refine wd (does_as_i rfl) ?_
 refine wl_nil ?_
 refine wc_seq (wc_region ?_)
 refine wd (does_mv_p rfl) ?_
 refine wd (does_mv_l rfl) ?_
 refine wd (does_load_agg ag_Term rfl ((S.blk 0).all _ (Term.len _)) (Term.len _)) ?_
 refine wd (does_mv_i rfl) ?_
 obtain ⟨r3, er3, H⟩ := bind_ex H
 obtain ⟨B5, MB5, SB5, back⟩ := S.calln 0 ((.z 0 rfl (.z 1 rfl (.z 2 rfl (.z 3 rfl .nil)))))
 refine wl_call (does_call ca_types_Where) (by decide) (types_Where_st (a2 := a2) SB5 er3) ?_
 rintro _ w4 ⟨s6, rfl, S2⟩
 replace S : St A N w w4 [oS T_int 1 IC s6 r3.1, oB b2 T_Term (Term.C (⟨a2.kind, a2.name, a2.other, a2.form, s_2⟩ : Term))] [oT a_0 a0, fS 2 Hyp.C s_1 a1, oDTerm s_2 a2.sub, oEt] := back _ _ _ _ S2 rfl
 clear back S2 SB5
 refine wd (does_mv_t rfl) ?_
 refine wd (does_extract rfl rfl) ?_
 refine wd (does_extract rfl rfl) ?_
 refine wd (does_as_l rfl) ?_
 refine wd (does_as_i rfl) ?_
 refine wl_nil ?_
 refine wc_seq (wc_region ?_)
 refine wd (does_mv_i rfl) ?_
 refine wd (does_as_i rfl) ?_
 refine wl_nil ?_
 refine wc_ret ?_
 refine ⟨_, (rets1 (retOne_tmp rfl)), ?_⟩
 replace S : St A N w w4 [] [] := S.arr [] []
 obtain rfl := Option.some.inj H
 exact ⟨rfl, S⟩
theorem types_Infer_st {A : Nat → Prop} {N : Oth} {w : World} {a0 : Tb} {a_0 : Option Addr} {a1 : List Hyp} {s_1 : SlV} {a2 : PTerm} {s_2 : SlV} (S : St A N w w [] [oT a_0 a0, fS 2 Hyp.C s_1 a1, oDTerm s_2 a2.sub, oEt]) {k : Nat} {r : Int × Int} (H : types_Infer.f k a0 a1 a2 = some r) :
  Calls PP F_types_Infer #[.pointer a_0, s_1.v, .agg (Term.C (⟨a2.kind, a2.name, a2.other, a2.form, s_2⟩ : Term)).toArray] w fun e w' => ∃ v, e = .returned v ∧ (v = .tuple #[.int .i64 r.1, .int .i64 r.2] ∧ St A N w w' [] []) := by
 unfold types_Infer.f at H
 refine calls_of_wc (n := 39) fn_types_Infer rfl rfl (by simp) ?_
 refine wc_seq (wc_region ?_)
 refine wl_box_agg rfl (by decide) fun b2 w1 hw1 => ?_
 replace S : St A N w w1 [oB b2 T_Term (Term.C (⟨a2.kind, a2.name, a2.other, a2.form, s_2⟩ : Term))] [oT a_0 a0, fS 2 Hyp.C s_1 a1, oDTerm s_2 a2.sub, oEt] := S.new hw1
 refine wd (does_as_i rfl) ?_
 refine wd (does_as_i rfl) ?_
 refine wl_nil ?_
 refine wc_seq (wc_region ?_)
 refine wd (does_mv_p rfl) ?_
 refine wd (does_mv_l rfl) ?_
 refine wd (does_load_agg ag_Term rfl ((S.blk 0).all _ (Term.len _)) (Term.len _)) ?_
 replace S : St A N w w1 [oS T_int 1 IC SlV.nil ([] : List Int), oB b2 T_Term (Term.C (⟨a2.kind, a2.name, a2.other, a2.form, s_2⟩ : Term))] [oT a_0 a0, fS 2 Hyp.C s_1 a1, oDTerm s_2 a2.sub, oEt] := S.nil T_int 1 IC
 obtain ⟨r3, er3, H⟩ := bind_ex H
 obtain ⟨B5, MB5, SB5, back⟩ := S.sub [0, 1, 2] [oS T_int 1 IC SlV.nil ([] : List Int)] [oB b2 T_Term (Term.C (⟨a2.kind, a2.name, a2.other, a2.form, s_2⟩ : Term))]
 refine wl_call (does_callg ca_types_ahead (cons2 rfl (cons2 rfl (cons2 rfl (cons2 SlV.nil_eq rfl))))) (by decide) (types_ahead_st (a2 := a2) SB5 er3) ?_
 rintro _ w4 ⟨a6, rfl, S2⟩
 replace S : St A N w w4 [oB b2 T_Term (Term.C (⟨a2.kind, a2.name, a2.other, a2.form, s_2⟩ : Term))] [fScope a6 r3.1, oT a_0 a0, fS 2 Hyp.C s_1 a1, oDTerm s_2 a2.sub, oEt] := back _ _ _ _ _ S2 rfl rfl
 clear back S2 SB5
 refine wd (does_mv_t rfl) ?_
 refine wd (does_extract rfl rfl) ?_
 refine wd (does_extract rfl rfl) ?_
 refine wd (does_as_p rfl) ?_
 refine wd (does_as_i rfl) ?_
 refine wl_nil ?_
 refine wc_seq (wc_seq (wc_region ?_))
 refine wd (does_mv_i rfl) ?_
 refine wd (does_ne rfl rfl) ?_
 refine wl_nil ?_
 refine wc_if rfl (fun hc7 => ?_) (fun hc7 => ?_)
 ·replace H := if_t hc7 H
  refine wc_seq (wc_region ?_)
  refine wd (does_mv_i rfl) ?_
  refine wd (does_as_i rfl) ?_
  refine wd (does_as_i rfl) ?_
  refine wl_nil ?_
  refine wc_ret ?_
  refine ⟨_, (rets2 (retOne_tmp rfl) (retOne_tmp rfl)), ?_⟩
  replace S : St A N w w4 [] [] := S.arr [] []
  obtain rfl := Option.some.inj H
  exact ⟨rfl, S⟩
 replace H := if_f hc7 H
 refine wc_skip ?_
 refine wc_seq (wc_region ?_)
 refine wd (does_mv_p rfl) ?_
 refine wd (Does.to (v' := .agg (Checker.C (⟨a_0⟩ : Checker)).toArray) (does_buildv (vs := [(0, .pointer a_0)]) bu_Checker (consP rfl rfl) (Bld.one rfl rfl (by rw [Checker.len]; decide) (Checker.set_t _ _) Bld.nil)) rfl) ?_
 refine wd (does_load_agg ag_Term rfl ((S.blk 0).all _ (Term.len _)) (Term.len _)) ?_
 refine wd (does_mv_p rfl) ?_
 obtain ⟨r8, er8, H⟩ := bind_ex H
 obtain ⟨B10, MB10, SB10, back⟩ := S.calln 0 ((.z 1 rfl (.z 3 rfl (.z 0 rfl (.z 4 rfl .nil)))))
 refine wl_call (does_call ca_types_checker_told) (by decide) (types_checker_told_st (a0 := (⟨a0⟩ : PChecker)) (a1 := a2) SB10 er8) ?_
 rintro _ w9 ⟨v11, rfl, S2⟩
 replace S : St A N w w9 [oE v11 r8.2, oB b2 T_Term (Term.C (⟨a2.kind, a2.name, a2.other, a2.form, s_2⟩ : Term))] [fScope a6 r3.1, oT a_0 a0, fS 2 Hyp.C s_1 a1, oDTerm s_2 a2.sub, oEt] := back _ _ _ _ S2 rfl
 clear back S2 SB10
 refine wd (does_mv_t rfl) ?_
 refine wd (does_extract rfl rfl) ?_
 refine wd (does_extract rfl rfl) ?_
 refine wd (does_as_i rfl) ?_
 refine wd (does_assign rfl) ?_
 refine wl_nil ?_
 refine wc_seq (wc_seq (wc_region ?_))
 refine wd (does_move rfl) ?_
 obtain ⟨r12, er12, H⟩ := bind_ex H
 obtain ⟨B14, MB14, SB14, back⟩ := S.calln 1 ((.z 4 rfl .nil))
 refine wl_call (does_call ca_types_code) (by decide) (types_code_st (a0 := r8.2) SB14 er12) ?_
 rintro _ w13 ⟨s15, rfl, S2⟩
 replace S : St A N w w13 [oS T_int 1 IC s15 r12.1, oB b2 T_Term (Term.C (⟨a2.kind, a2.name, a2.other, a2.form, s_2⟩ : Term))] [fScope a6 r3.1, oT a_0 a0, fS 2 Hyp.C s_1 a1, oDTerm s_2 a2.sub, oEt] := back _ _ _ _ S2 rfl
 clear back S2 SB14
 refine wd (does_mv_t rfl) ?_
 refine wd (does_extract rfl rfl) ?_
 refine wd (does_extract rfl rfl) ?_
 refine wd (does_as_i rfl) ?_
 refine wl_nil ?_
 refine wc_seq (wc_region ?_)
 refine wd (does_mv_i rfl) ?_
 refine wd (does_ne rfl rfl) ?_
 refine wl_nil ?_
 refine wc_if rfl (fun hc16 => ?_) (fun hc16 => ?_)
 ·replace H := if_t hc16 H
  refine wc_seq (wc_region ?_)
  refine wd (does_mv_i rfl) ?_
  refine wd (does_as_i rfl) ?_
  refine wd (does_as_i rfl) ?_
  refine wl_nil ?_
  refine wc_ret ?_
  refine ⟨_, (rets2 (retOne_tmp rfl) (retOne_tmp rfl)), ?_⟩
  replace S : St A N w w13 [] [] := S.arr [] []
  obtain rfl := Option.some.inj H
  exact ⟨rfl, S⟩
 replace H := if_f hc16 H
 refine wc_skip ?_
 refine wc_seq (wc_region ?_)
 refine wd (does_mv_i rfl) ?_
 refine wd (does_as_i rfl) ?_
 refine wd (does_as_i rfl) ?_
 refine wl_nil ?_
 refine wc_ret ?_
 refine ⟨_, (rets2 (retOne_tmp rfl) (retOne_tmp rfl)), ?_⟩
 replace S : St A N w w13 [] [] := S.arr [] []
 obtain rfl := Option.some.inj H
 exact ⟨rfl, S⟩
end Go.Proofs.YtjebgcoknpcadaaDoor
end
section
namespace Go.Proofs.YtjebgcoknpcadaaDoor
open Gw Go.RowKit
set_option maxHeartbeats 4000000
set_option maxRecDepth 20000
theorem formula_From_st {A : Nat → Prop} {N : Oth} {w : World} {a0 : List Nd} {s_0 : SlV} (S : St A N w w [] [fS 4 Nd.C s_0 a0]) {r : Tb × Int} (H : formula_From.f a0 = some r) :
  Calls PP F_formula_From #[s_0.v] w fun e w' => ∃ v, e = .returned v ∧ (∃ ao0 : Option Addr, v = .tuple #[.pointer ao0, .int .i64 r.2] ∧ St A N w w' [oT ao0 r.1] []) := by
 unfold formula_From.f at H
 refine calls_of_wc (n := 35) fn_formula_From rfl rfl (by simp) ?_
 refine wc_seq (wc_region ?_)
 replace S : St A N w w [oT none none] [fS 4 Nd.C s_0 a0] := S.add (Ext.refl _) (oT.nil _) (fun _ x => x.elim)
 refine wd (does_as_p rfl) ?_
 refine wd (does_as_i rfl) ?_
 refine wl_nil ?_
 refine wc_seq (wc_region ?_)
 obtain ⟨r1, er1, H⟩ := bind_ex H
 obtain ⟨B3, MB3, SB3, back⟩ := S.calln 0 ((.nil))
 refine wl_call (does_call ca_formula_New) (by decide) (formula_New_st SB3 er1) ?_
 rintro _ w2 ⟨a4, rfl, S2⟩
 replace S : St A N w w2 [oT a4 r1, oT none none] [fS 4 Nd.C s_0 a0] := back _ _ _ _ S2 rfl
 clear back S2 SB3
 refine wd (does_as_p rfl) ?_
 refine wl_nil ?_
 refine wc_seq (wc_seq (wc_region ?_))
 refine wd (does_mv_l rfl) ?_
 refine wd (does_lenR sl_L_api_Node rfl (S.rd 0)) ?_
 refine wd (does_mv_i rfl) ?_
 refine wl_nil ?_
 obtain ⟨o5, e5, Ho5⟩ := bind_ex H
 clear H
 refine wc_cutq [2, 3, 5, 6, 7, 8, 12, 13, 14, 15, 16, 17, 18, 19, 20, 21, 22, 23, 24, 25, 26, 27, 28, 29, 30, 31, 32, 33] (fun fr W => ∃ s5 : Tb, o5 = .inl s5 ∧ St A N w W [oT a4 s5, oT none none] [fS 4 Nd.C s_0 a0]) ?_ ?_
 ·refine wc_block ?_
  refine wc_loopm (α := Nat × Int × Tb) [2, 3, 5, 6, 7, 8, 12, 13, 14, 15, 16, 17, 18, 19, 20, 21, 22, 23, 24, 25, 26, 27, 28, 29, 30, 31, 32, 33] (fun x fr W => (x.1 : Int) = (a0.length : Int) - x.2.1 ∧ 0 ≤ x.2.1 ∧ forN (fun i s => formula_From.b0 a0 i s) x.1 x.2.1 x.2.2 = some o5 ∧ fr 12 = .int .i64 x.2.1 ∧ St A N w W [oT a4 (x.2.2), oT none none] [fS 4 Nd.C s_0 a0]) (fun x => x.1) (((a0.length : Int) - 0).toNat, 0, r1) ⟨(by dsimp only; have hle := Int.natCast_nonneg (a0.length); omega), (Int.le_refl _), (by dsimp only; exact e5), rfl, S⟩ ?_
  rintro ⟨m5, i5, x5_0⟩ g5 u5 ⟨hm5, hl5, e5, q5_i, S⟩
  try dsimp only at hm5
  try dsimp only at hl5
  try dsimp only at e5
  try dsimp only at S
  try dsimp only at q5_i
  refine wc_seq (wc_region ?_)
  refine wd (does_lt q5_i rfl) ?_
  refine wl_nil ?_
  refine wc_seq ?_
  refine wc_if rfl (fun hc6 => ?_) (fun hc6 => ?_)
  rotate_left
  ·refine wc_exit ?_
   have hge : (a0.length : Int) ≤ i5 := Int.not_lt.1 (of_decide_eq_false hc6)
   obtain rfl : m5 = 0 := by omega
   replace e5 := forN_0 e5
   exact ⟨rfl, ((Dif.self _ _ _).upd rfl _), x5_0, e5, S⟩
  refine wc_skip ?_
  have hlt5 : i5 < (a0.length : Int) := of_decide_eq_true hc6
  obtain ⟨m5, rfl⟩ : ∃ m, m5 = m + 1 := ⟨m5 - 1, by omega⟩
  obtain ⟨q5, H, e5⟩ := forN_s e5
  unfold formula_From.b0 at H
  try dsimp only at H
  have hb5 := (S.len 0)
  refine wc_seq ?_
  refine wc_block ?_
  refine wc_seq (wc_region ?_)
  refine wd (does_mv_i q5_i) ?_
  refine wd (does_indexR sl_L_api_Node rfl q5_i (S.rd 0) (And.intro (show 0 ≤ i5 by omega) (show i5 < (a0.length : Int) from hlt5)).1 (And.intro (show 0 ≤ i5 by omega) (show i5 < (a0.length : Int) from hlt5)).2) ?_
  refine wd (does_load_agg ag_Nd rfl ((S.rd 0).at (at_some Nd.z (And.intro (show 0 ≤ i5 by omega) (show i5 < (a0.length : Int) from hlt5)))) (Nd.len _)) ?_
  refine wl_alloc ze_Nd (by decide) fun b9 w8 hw8 => ?_
  replace S : St A N w w8 [oB b9 T_Nd (Nd.C Nd.z), oT a4 x5_0, oT none none] [fS 4 Nd.C s_0 a0] := S.new hw8
  refine wd (does_as_i rfl) ?_
  refine wl_store_agg ag_Nd rfl rfl (S.blk 0) (Nd.len _) (by rw [Nd.len]; decide) (Nd.one _) (store_all (Nd.len _)) fun w10 B hw10 zw10 => ?_
  replace S : St A N w w10 [oB b9 T_Nd (Nd.C (at_ Nd.z a0 i5)), oT a4 x5_0, oT none none] [fS 4 Nd.C s_0 a0] := S.store 0 B hw10
  clear B
  refine wl_nil ?_
  refine wc_seq (wc_region ?_)
  refine wd (does_mv_p rfl) ?_
  refine wd (does_load_agg ag_Nd rfl ((S.blk 0).all _ (Nd.len _)) (Nd.len _)) ?_
  obtain ⟨r11, er11, H⟩ := bind_ex H
  replace S : St A N w w10 [oT a4 x5_0, oB b9 T_Nd (Nd.C (at_ Nd.z a0 i5)), oT none none] [fS 4 Nd.C s_0 a0] := S.front 1
  obtain ⟨B13, MB13, SB13, back⟩ := S.calln 1 ((.nil))
  refine wl_call (does_call ca_formula_Table_Put) (by decide) (formula_Table_Put_st SB13 er11) ?_
  rintro _ w12 ⟨rfl, S2⟩
  replace S : St A N w w12 [oT a4 r11.1, oB b9 T_Nd (Nd.C (at_ Nd.z a0 i5)), oT none none] [fS 4 Nd.C s_0 a0] := back _ _ _ _ S2 rfl
  clear back S2 SB13
  refine wd (does_mv_t rfl) ?_
  refine wd (does_extract rfl rfl) ?_
  refine wd (does_extract rfl rfl) ?_
  refine wd (does_as_i rfl) ?_
  refine wd (does_as_i rfl) ?_
  refine wl_nil ?_
  refine wc_seq (wc_seq (wc_region ?_))
  refine wd (does_mv_i rfl) ?_
  refine wd (does_eq rfl rfl) ?_
  refine wd (does_mv_b rfl) ?_
  refine wl_guard (j := 2) (pol := true) rfl rfl rfl (by decide) (fun hg => does_mv_i rfl) (by decide) ?_
  refine wl_guard (j := 2) (pol := true) rfl rfl rfl (by decide) (fun hg => does_mv_i rfl) (by decide) ?_
  refine wl_guard (j := 2) (pol := true) rfl rfl rfl (by decide) (fun hg => does_ne (gv_yes hg) (gv_yes hg)) (by decide) ?_
  refine wd (does_and rfl (fun hp => (gv_yes (and_1 hp)))) ?_
  refine wl_nil ?_
  refine wc_if rfl (fun hc14 => ?_) (fun hc14 => ?_)
  ·replace H := if_t hc14 H
   refine wc_region ?_
   refine wd (does_as_i rfl) ?_
   refine wl_nil ?_
   refine wc_seq (wc_region ?_)
   refine wd (does_mv_i rfl) ?_
   refine wd (does_ne rfl rfl) ?_
   refine wl_nil ?_
   refine wc_if rfl (fun hc15 => ?_) (fun hc15 => ?_)
   ·replace H := if_t hc15 H
    refine wc_seq (wc_region ?_)
    refine wd (does_mv_i rfl) ?_
    replace S : St A N w w12 [oT none none, oT a4 r11.1, oB b9 T_Nd (Nd.C (at_ Nd.z a0 i5)), oT none none] [fS 4 Nd.C s_0 a0] := S.add (Ext.refl _) (oT.nil _) (fun _ x => x.elim)
    refine wd (does_as_p rfl) ?_
    refine wd (does_as_i rfl) ?_
    refine wl_nil ?_
    refine wc_ret ?_
    refine ⟨_, (rets2 (retOne_tmp rfl) (retOne_tmp rfl)), ?_⟩
    replace S : St A N w w12 [oT none none] [] := S.arr [0] []
    obtain rfl := Option.some.inj H
    obtain rfl := e5
    obtain rfl := aft_r Ho5
    exact ⟨none, rfl, S⟩
   replace H := if_f hc15 H
   refine wc_skip ?_
   refine wc_region ?_
   refine wd (does_addc q5_i rfl (c := i5 + 1) rfl (by omega) (by omega)) ?_
   refine wd (does_mv_i rfl) ?_
   refine wl_nil ?_
   replace S : St A N w w12 [oT a4 r11.1, oT none none] [fS 4 Nd.C s_0 a0] := S.arr [0, 2] [0]
   obtain rfl := Option.some.inj H
   exact ⟨rfl, (((((((((((((((((((((((((((Dif.self _ _ _).upd rfl _).upd rfl _).upd rfl _).upd rfl _).upd rfl _).upd rfl _).upd rfl _).upd rfl _).upd rfl _).upd rfl _).upd rfl _).upd rfl _).upd rfl _).upd rfl _).upd rfl _).upd rfl _).upd rfl _).upd rfl _).upd rfl _).upd rfl _).upd rfl _).upd rfl _).upd rfl _).upd rfl _).upd rfl _).upd rfl _), (m5, i5 + 1, r11.1), ⟨(by dsimp only; omega), (by dsimp only; omega), e5, rfl, S⟩, by dsimp only; omega⟩
  ·replace H := if_f hc14 H
   refine wc_skip ?_
   refine wc_seq (wc_region ?_)
   refine wd (does_mv_i rfl) ?_
   refine wd (does_ne rfl rfl) ?_
   refine wl_nil ?_
   refine wc_if rfl (fun hc16 => ?_) (fun hc16 => ?_)
   ·replace H := if_t hc16 H
    refine wc_seq (wc_region ?_)
    refine wd (does_mv_i rfl) ?_
    replace S : St A N w w12 [oT none none, oT a4 r11.1, oB b9 T_Nd (Nd.C (at_ Nd.z a0 i5)), oT none none] [fS 4 Nd.C s_0 a0] := S.add (Ext.refl _) (oT.nil _) (fun _ x => x.elim)
    refine wd (does_as_p rfl) ?_
    refine wd (does_as_i rfl) ?_
    refine wl_nil ?_
    refine wc_ret ?_
    refine ⟨_, (rets2 (retOne_tmp rfl) (retOne_tmp rfl)), ?_⟩
    replace S : St A N w w12 [oT none none] [] := S.arr [0] []
    obtain rfl := Option.some.inj H
    obtain rfl := e5
    obtain rfl := aft_r Ho5
    exact ⟨none, rfl, S⟩
   replace H := if_f hc16 H
   refine wc_skip ?_
   refine wc_region ?_
   refine wd (does_addc q5_i rfl (c := i5 + 1) rfl (by omega) (by omega)) ?_
   refine wd (does_mv_i rfl) ?_
   refine wl_nil ?_
   replace S : St A N w w12 [oT a4 r11.1, oT none none] [fS 4 Nd.C s_0 a0] := S.arr [0, 2] [0]
   obtain rfl := Option.some.inj H
   exact ⟨rfl, ((((((((((((((((((((((((((Dif.self _ _ _).upd rfl _).upd rfl _).upd rfl _).upd rfl _).upd rfl _).upd rfl _).upd rfl _).upd rfl _).upd rfl _).upd rfl _).upd rfl _).upd rfl _).upd rfl _).upd rfl _).upd rfl _).upd rfl _).upd rfl _).upd rfl _).upd rfl _).upd rfl _).upd rfl _).upd rfl _).upd rfl _).upd rfl _).upd rfl _), (m5, i5 + 1, r11.1), ⟨(by dsimp only; omega), (by dsimp only; omega), e5, rfl, S⟩, by dsimp only; omega⟩
 rintro g17 u18 ⟨s5, rfl, S⟩
 have H := Ho5
 dsimp only [aft] at H
 refine wc_seq (wc_region ?_)
 refine wd (does_mv_p rfl) ?_
 refine wd (does_as_p rfl) ?_
 refine wd (does_as_i rfl) ?_
 refine wl_nil ?_
 refine wc_ret ?_
 refine ⟨_, (rets2 (retOne_tmp rfl) (retOne_tmp rfl)), ?_⟩
 replace S : St A N w u18 [oT a4 s5] [] := S.arr [0] []
 obtain rfl := Option.some.inj H
 exact ⟨a4, rfl, S⟩
theorem ref03_Ints_st {A : Nat → Prop} {N : Oth} {w : World} {a0 : List Int} {s_0 : SlV} {a1 : List Int} {s_1 : SlV} (S : St A N w w [] [fS 1 IC s_0 a0, fS 1 IC s_1 a1]) {r : Bool} (H : ref03_Ints.f a0 a1 = some r) :
  Calls PP F_ref03_Ints #[s_0.v, s_1.v] w fun e w' => ∃ v, e = .returned v ∧ (v = .bool r ∧ St A N w w' [] []) := by
 unfold ref03_Ints.f at H
 refine calls_of_wc (n := 26) fn_ref03_Ints rfl rfl (by simp) ?_
 refine wc_seq (wc_region ?_)
 refine wd (does_as_b rfl) ?_
 refine wl_nil ?_
 refine wc_seq (wc_seq (wc_region ?_))
 refine wd (does_mv_l rfl) ?_
 refine wd (does_lenR sl_L_int rfl (S.rd 0)) ?_
 refine wd (does_mv_l rfl) ?_
 refine wd (does_lenR sl_L_int rfl (S.rd 1)) ?_
 refine wd (does_ne rfl rfl) ?_
 refine wl_nil ?_
 refine wc_if rfl (fun hc1 => ?_) (fun hc1 => ?_)
 ·replace H := if_t hc1 H
  refine wc_seq (wc_region ?_)
  refine wd (does_as_b rfl) ?_
  refine wl_nil ?_
  refine wc_ret ?_
  refine ⟨_, (rets1 (retOne_tmp rfl)), ?_⟩
  replace S : St A N w w [] [] := S.arr [] []
  obtain rfl := Option.some.inj H
  exact ⟨rfl, S⟩
 replace H := if_f hc1 H
 refine wc_skip ?_
 refine wc_seq (wc_seq (wc_region ?_))
 refine wd (does_as_i rfl) ?_
 refine wl_nil ?_
 obtain ⟨o2, e2, Ho2⟩ := bind_ex H
 clear H
 refine wc_cutq [4, 5, 11, 12, 13, 14, 15, 16, 17, 18, 19, 20, 21, 22, 23, 24, 25] (fun fr W => ∃ s2 : Unit, o2 = .inl s2 ∧ St A N w W [] [fS 1 IC s_0 a0, fS 1 IC s_1 a1]) ?_ ?_
 ·refine wc_block ?_
  refine wc_loopm (α := Nat × Int × Unit) [4, 5, 11, 12, 13, 14, 15, 16, 17, 18, 19, 20, 21, 22, 23, 24, 25] (fun x fr W => (x.1 : Int) = (a0.length : Int) - x.2.1 ∧ 0 ≤ x.2.1 ∧ forN (fun i s => ref03_Ints.b0 a1 a0 i) x.1 x.2.1 x.2.2 = some o2 ∧ fr 5 = .int .i64 x.2.1 ∧ St A N w W [] [fS 1 IC s_0 a0, fS 1 IC s_1 a1]) (fun x => x.1) (((a0.length : Int) - 0).toNat, 0, ()) ⟨(by dsimp only; have hle := Int.natCast_nonneg (a0.length); omega), (Int.le_refl _), (by dsimp only; exact e2), rfl, S⟩ ?_
  rintro ⟨m2, i2, _⟩ g2 u2 ⟨hm2, hl2, e2, q2_i, S⟩
  try dsimp only at hm2
  try dsimp only at hl2
  try dsimp only at e2
  try dsimp only at S
  try dsimp only at q2_i
  refine wc_seq (wc_seq (wc_region ?_))
  refine wd (does_mv_i q2_i) ?_
  refine wd (does_mv_l rfl) ?_
  refine wd (does_lenR sl_L_int rfl (S.rd 0)) ?_
  refine wd (does_lt rfl rfl) ?_
  refine wl_nil ?_
  refine wc_if rfl (fun hc3 => ?_) (fun hc3 => ?_)
  rotate_left
  ·refine wc_exit ?_
   have hge : (a0.length : Int) ≤ i2 := Int.not_lt.1 (of_decide_eq_false hc3)
   obtain rfl : m2 = 0 := by omega
   replace e2 := forN_0 e2
   exact ⟨rfl, (((((Dif.self _ _ _).upd rfl _).upd rfl _).upd rfl _).upd rfl _), (), e2, S⟩
  refine wc_skip ?_
  have hlt2 : i2 < (a0.length : Int) := of_decide_eq_true hc3
  obtain ⟨m2, rfl⟩ : ∃ m, m2 = m + 1 := ⟨m2 - 1, by omega⟩
  obtain ⟨q2, H, e2⟩ := forN_s e2
  unfold ref03_Ints.b0 at H
  try dsimp only at H
  have hb2 := (S.len 0)
  refine wc_seq ?_
  refine wc_block ?_
  refine wc_seq ?_
  refine wc_quiet 8 (Ext u2) hmix (by kernel_rfl) (by kernel_rfl) (Ext.drawn _) ?_
  refine wq_does (fun v K => does_mv_l rfl) ?_
  refine wq_does (fun v K => does_mv_i q2_i) ?_
  refine wq_does (fun v K => does_indexR sl_L_int rfl rfl ((S.ext K).rd 0) (And.intro (show 0 ≤ i2 by omega) (show i2 < (a0.length : Int) from hlt2)).1 (And.intro (show 0 ≤ i2 by omega) (show i2 < (a0.length : Int) from hlt2)).2) ?_
  refine wq_does (fun v K => does_load on_int rfl (((S.ext K).rd 0).one (at_some (0 : Int) (And.intro (show 0 ≤ i2 by omega) (show i2 < (a0.length : Int) from hlt2))) rfl)) ?_
  refine wq_does (fun v K => does_mv_l rfl) ?_
  refine wq_does (fun v K => does_mv_i q2_i) ?_
  obtain ⟨hi5, H⟩ := chk_ex H
  refine wq_does (fun v K => does_indexR sl_L_int rfl rfl ((S.ext K).rd 1) (inb_ex hi5).1 (inb_ex hi5).2) ?_
  refine wq_does (fun v K => does_load on_int rfl (((S.ext K).rd 1).one (at_some (0 : Int) (inb_ex hi5)) rfl)) ?_
  refine wq_nil fun w6 K => ?_
  replace S := S.ext K
  clear K
  refine wd (does_ne rfl rfl) ?_
  refine wl_nil ?_
  refine wc_if rfl (fun hc7 => ?_) (fun hc7 => ?_)
  ·replace H := if_t hc7 H
   refine wc_seq (wc_region ?_)
   refine wd (does_as_b rfl) ?_
   refine wl_nil ?_
   refine wc_ret ?_
   refine ⟨_, (rets1 (retOne_tmp rfl)), ?_⟩
   replace S : St A N w w6 [] [] := S.arr [] []
   obtain rfl := Option.some.inj H
   obtain rfl := e2
   obtain rfl := aft_r Ho2
   exact ⟨rfl, S⟩
  replace H := if_f hc7 H
  refine wc_skip ?_
  refine wc_region ?_
  refine wd (does_mv_i q2_i) ?_
  refine wd (does_addc rfl rfl (c := i2 + 1) rfl (by omega) (by omega)) ?_
  refine wd (does_as_i rfl) ?_
  refine wl_nil ?_
  obtain rfl := Option.some.inj H
  exact ⟨rfl, (((((((((((((((((Dif.self _ _ _).upd rfl _).upd rfl _).upd rfl _).upd rfl _).upd rfl _).upd rfl _).upd rfl _).upd rfl _).upd rfl _).upd rfl _).upd rfl _).upd rfl _).upd rfl _).upd rfl _).upd rfl _).upd rfl _), (m2, i2 + 1, ()), ⟨(by dsimp only; omega), (by dsimp only; omega), e2, rfl, S⟩, by dsimp only; omega⟩
 rintro g8 u9 ⟨s2, rfl, S⟩
 have H := Ho2
 dsimp only [aft] at H
 refine wc_seq (wc_region ?_)
 refine wd (does_as_b rfl) ?_
 refine wl_nil ?_
 refine wc_ret ?_
 refine ⟨_, (rets1 (retOne_tmp rfl)), ?_⟩
 replace S : St A N w u9 [] [] := S.arr [] []
 obtain rfl := Option.some.inj H
 exact ⟨rfl, S⟩
theorem ref03_T_Has_st {A : Nat → Prop} {N : Oth} {w : World} {a0 : Tb} {a_0 : Option Addr} {a1 : Int} (S : St A N w w [] [oR a_0 a0]) {r : Bool} (H : ref03_T_Has.f a0 a1 = some r) :
  Calls PP F_ref03_T_Has #[.pointer a_0, .int .i64 a1] w fun e w' => ∃ v, e = .returned v ∧ (v = .bool r ∧ St A N w w' [] []) := by
 unfold ref03_T_Has.f at H
 refine calls_of_wc (n := 16) fn_ref03_T_Has rfl rfl (by simp) ?_
 refine wc_seq (wc_region ?_)
 refine wd (does_as_b rfl) ?_
 refine wl_nil ?_
 refine wc_seq (wc_region ?_)
 refine wd (does_mv_i rfl) ?_
 refine wd (does_ge rfl rfl) ?_
 refine wd (does_mv_b rfl) ?_
 refine wl_guard (j := 2) (pol := true) rfl rfl rfl (by decide) (fun hg => does_mv_i rfl) (by decide) ?_
 refine wl_guard (j := 2) (pol := true) rfl rfl rfl (by decide) (fun hg => does_mv_p rfl) (by decide) ?_
 obtain ⟨ht1, H⟩ := chk_ex H
 obtain ⟨p2, s3, hp4, S⟩ := S.seeR 0 ht1
 replace S : St A N w w [] [oB p2 T_RTab (RTab.C ⟨s3⟩), fS 4 Nd.C s3 (a0.getD []), oR a_0 a0] := S
 refine wl_guard (j := 2) (pol := true) rfl rfl rfl (by decide) (fun hg => does_nilCheck (((gv_yes hg) : _ = Value.pointer a_0).trans (congrArg Value.pointer hp4))) (by decide) ?_
 refine wl_guard (j := 2) (pol := true) rfl rfl rfl (by decide) (fun hg => does_fieldAddr fl_RTab_n (gv_yes hg) (o' := 0) rfl) (by decide) ?_
 refine wl_guard (j := 2) (pol := true) rfl rfl rfl (by decide) (fun hg => does_load on_L_api_Node (gv_yes hg) ((S.blkZ 0).cell (RTab.get_n _))) (by decide) ?_
 refine wl_guard (j := 2) (pol := true) rfl rfl rfl (by decide) (fun hg => does_lenR sl_L_api_Node (gv_yes hg) (S.rd 1)) (by decide) ?_
 refine wl_guard (j := 2) (pol := true) rfl rfl rfl (by decide) (fun hg => does_lt (gv_yes hg) (gv_yes hg)) (by decide) ?_
 refine wd (does_and rfl (fun hp => (gv_yes (and_1 hp)))) ?_
 refine wd (does_as_b rfl) ?_
 replace S : St A N w w [] [oR a_0 a0] := S.zs [2]
 refine wl_nil ?_
 refine wc_ret ?_
 refine ⟨_, (rets1 (retOne_tmp rfl)), ?_⟩
 replace S : St A N w w [] [] := S.arr [] []
 obtain rfl := Option.some.inj H
 exact ⟨rfl, S⟩
theorem ref03_T_Find_st {A : Nat → Prop} {N : Oth} {w : World} {a0 : Tb} {a_0 : Option Addr} {a1 : Nd} (S : St A N w w [] [oR a_0 a0]) {r : Int × Bool} (H : ref03_T_Find.f a0 a1 = some r) :
  Calls PP F_ref03_T_Find #[.pointer a_0, .agg (Nd.C a1).toArray] w fun e w' => ∃ v, e = .returned v ∧ (v = .tuple #[.int .i64 r.1, .bool r.2] ∧ St A N w w' [] []) := by
 unfold ref03_T_Find.f at H
 refine calls_of_wc (n := 26) fn_ref03_T_Find rfl rfl (by simp) ?_
 refine wc_seq (wc_region ?_)
 refine wl_box_agg rfl (by decide) fun b2 w1 hw1 => ?_
 replace S : St A N w w1 [oB b2 T_Nd (Nd.C a1)] [oR a_0 a0] := S.new hw1
 refine wd (does_as_i rfl) ?_
 refine wd (does_as_b rfl) ?_
 refine wl_nil ?_
 refine wc_seq (wc_seq (wc_region ?_))
 refine wd (does_as_i rfl) ?_
 refine wl_nil ?_
 obtain ⟨ht3, H⟩ := chk_ex H
 obtain ⟨o4, e4, Ho4⟩ := bind_ex H
 clear H
 refine wc_cutq [4, 5, 6, 7, 8, 9, 10, 11, 12, 13, 14, 15, 16, 17, 18, 19, 20, 21, 22, 23, 24, 25] (fun fr W => ∃ s4 : Unit, o4 = .inl s4 ∧ St A N w W [oB b2 T_Nd (Nd.C a1)] [oR a_0 a0]) ?_ ?_
 ·refine wc_block ?_
  refine wc_loopm (α := Nat × Int × Unit) [4, 5, 6, 7, 8, 9, 10, 11, 12, 13, 14, 15, 16, 17, 18, 19, 20, 21, 22, 23, 24, 25] (fun x fr W => (x.1 : Int) = ((a0.getD []).length : Int) - x.2.1 ∧ 0 ≤ x.2.1 ∧ forN (fun i s => ref03_T_Find.b0 a0 a1 i) x.1 x.2.1 x.2.2 = some o4 ∧ fr 6 = .int .i64 x.2.1 ∧ St A N w W [oB b2 T_Nd (Nd.C a1)] [oR a_0 a0]) (fun x => x.1) ((((a0.getD []).length : Int) - 0).toNat, 0, ()) ⟨(by dsimp only; have hle := Int.natCast_nonneg ((a0.getD []).length); omega), (Int.le_refl _), (by dsimp only; exact e4), rfl, S⟩ ?_
  rintro ⟨m4, i4, _⟩ g4 u4 ⟨hm4, hl4, e4, q4_i, S⟩
  try dsimp only at hm4
  try dsimp only at hl4
  try dsimp only at e4
  try dsimp only at S
  try dsimp only at q4_i
  refine wc_seq (wc_seq (wc_region ?_))
  refine wd (does_mv_i q4_i) ?_
  refine wd (does_mv_p rfl) ?_
  obtain ⟨p5, s6, hp7, S⟩ := S.seeR 0 ht3
  replace S : St A N w u4 [oB b2 T_Nd (Nd.C a1)] [oB p5 T_RTab (RTab.C ⟨s6⟩), fS 4 Nd.C s6 (a0.getD []), oR a_0 a0] := S
  refine wd (does_nilCheck (congrArg Value.pointer hp7)) ?_
  refine wd (does_fieldAddr fl_RTab_n rfl (o' := 0) rfl) ?_
  refine wd (does_load on_L_api_Node rfl ((S.blkZ 0).cell (RTab.get_n _))) ?_
  refine wd (does_lenR sl_L_api_Node rfl (S.rd 1)) ?_
  refine wd (does_lt rfl rfl) ?_
  replace S : St A N w u4 [oB b2 T_Nd (Nd.C a1)] [oR a_0 a0] := S.zs [2]
  refine wl_nil ?_
  refine wc_if rfl (fun hc8 => ?_) (fun hc8 => ?_)
  rotate_left
  ·refine wc_exit ?_
   have hge : ((a0.getD []).length : Int) ≤ i4 := Int.not_lt.1 (of_decide_eq_false hc8)
   obtain rfl : m4 = 0 := by omega
   replace e4 := forN_0 e4
   exact ⟨rfl, ((((((((Dif.self _ _ _).upd rfl _).upd rfl _).upd rfl _).upd rfl _).upd rfl _).upd rfl _).upd rfl _), (), e4, S⟩
  refine wc_skip ?_
  have hlt4 : i4 < ((a0.getD []).length : Int) := of_decide_eq_true hc8
  obtain ⟨m4, rfl⟩ : ∃ m, m4 = m + 1 := ⟨m4 - 1, by omega⟩
  obtain ⟨q4, H, e4⟩ := forN_s e4
  unfold ref03_T_Find.b0 at H
  try dsimp only at H
  have hb4 := (S.lenRZ 0)
  refine wc_seq ?_
  refine wc_block ?_
  refine wc_seq ?_
  refine wc_quiet 8 (Ext u4) hmix (by kernel_rfl) (by kernel_rfl) (Ext.drawn _) ?_
  refine wq_does (fun v K => does_mv_p rfl) ?_
  obtain ⟨p9, s10, hp11, S⟩ := S.seeR 0 ht3
  replace S : St A N w u4 [oB b2 T_Nd (Nd.C a1)] [oB p9 T_RTab (RTab.C ⟨s10⟩), fS 4 Nd.C s10 (a0.getD []), oR a_0 a0] := S
  refine wq_does (fun v K => does_nilCheck (congrArg Value.pointer hp11)) ?_
  refine wq_does (fun v K => does_fieldAddr fl_RTab_n rfl (o' := 0) rfl) ?_
  refine wq_does (fun v K => does_load on_L_api_Node rfl (((S.ext K).blkZ 0).cell (RTab.get_n _))) ?_
  refine wq_does (fun v K => does_mv_i q4_i) ?_
  refine wq_does (fun v K => does_indexR sl_L_api_Node rfl rfl ((S.ext K).rd 1) (And.intro (show 0 ≤ i4 by omega) (show i4 < ((a0.getD []).length : Int) from hlt4)).1 (And.intro (show 0 ≤ i4 by omega) (show i4 < ((a0.getD []).length : Int) from hlt4)).2) ?_
  refine wq_does (fun v K => does_load_agg ag_Nd rfl (((S.ext K).rd 1).at (at_some Nd.z (And.intro (show 0 ≤ i4 by omega) (show i4 < ((a0.getD []).length : Int) from hlt4)))) (Nd.len _)) ?_
  refine wq_does (fun v K => does_load_agg ag_Nd rfl (((S.ext K).blk 0).all _ (Nd.len _)) (Nd.len _)) ?_
  refine wq_nil fun w13 K => ?_
  replace S := S.ext K
  clear K
  refine wd (does_eqv eg_Nd (eq_Nd _ _) (by decide) rfl rfl) ?_
  replace S : St A N w w13 [oB b2 T_Nd (Nd.C a1)] [oR a_0 a0] := S.zs [2]
  refine wl_nil ?_
  refine wc_if rfl (fun hc14 => ?_) (fun hc14 => ?_)
  ·replace H := if_t hc14 H
   refine wc_seq (wc_region ?_)
   refine wd (does_mv_i q4_i) ?_
   refine wd (does_as_i rfl) ?_
   refine wd (does_as_b rfl) ?_
   refine wl_nil ?_
   refine wc_ret ?_
   refine ⟨_, (rets2 (retOne_tmp rfl) (retOne_tmp rfl)), ?_⟩
   replace S : St A N w w13 [] [] := S.arr [] []
   obtain rfl := Option.some.inj H
   obtain rfl := e4
   obtain rfl := aft_r Ho4
   exact ⟨rfl, S⟩
  replace H := if_f hc14 H
  refine wc_skip ?_
  refine wc_region ?_
  refine wd (does_mv_i q4_i) ?_
  refine wd (does_addc rfl rfl (c := i4 + 1) rfl (by omega) (by omega)) ?_
  refine wd (does_as_i rfl) ?_
  refine wl_nil ?_
  obtain rfl := Option.some.inj H
  exact ⟨rfl, ((((((((((((((((((((Dif.self _ _ _).upd rfl _).upd rfl _).upd rfl _).upd rfl _).upd rfl _).upd rfl _).upd rfl _).upd rfl _).upd rfl _).upd rfl _).upd rfl _).upd rfl _).upd rfl _).upd rfl _).upd rfl _).upd rfl _).upd rfl _).upd rfl _).upd rfl _), (m4, i4 + 1, ()), ⟨(by dsimp only; omega), (by dsimp only; omega), e4, rfl, S⟩, by dsimp only; omega⟩
 rintro g15 u16 ⟨s4, rfl, S⟩
 have H := Ho4
 dsimp only [aft] at H
 refine wc_seq (wc_region ?_)
 refine wd (does_as_i rfl) ?_
 refine wd (does_as_b rfl) ?_
 refine wl_nil ?_
 refine wc_ret ?_
 refine ⟨_, (rets2 (retOne_tmp rfl) (retOne_tmp rfl)), ?_⟩
 replace S : St A N w u16 [] [] := S.arr [] []
 obtain rfl := Option.some.inj H
 exact ⟨rfl, S⟩
theorem ref03_T_Put_st {A : Nat → Prop} {N : Oth} {w : World} {a0 : Tb} {a_0 : Option Addr} {a1 : Nd} (S : St A N w w [oR a_0 a0] []) {r : Tb × Int × Int} (H : ref03_T_Put.f a0 a1 = some r) :
  Calls PP F_ref03_T_Put #[.pointer a_0, .agg (Nd.C a1).toArray] w fun e w' => ∃ v, e = .returned v ∧ (v = .tuple #[.int .i64 r.2.1, .int .i64 r.2.2] ∧ St A N w w' [oR a_0 r.1] []) := by
 unfold ref03_T_Put.f at H
 refine calls_of_wc (n := 90) fn_ref03_T_Put rfl rfl (by simp) ?_
 refine wc_seq (wc_region ?_)
 refine wl_box_agg rfl (by decide) fun b2 w1 hw1 => ?_
 replace S : St A N w w1 [oB b2 T_Nd (Nd.C a1), oR a_0 a0] [] := S.new hw1
 refine wd (does_as_i rfl) ?_
 refine wd (does_as_i rfl) ?_
 refine wl_nil ?_
 refine wc_seq (wc_seq (wc_region ?_))
 refine wd (does_fieldAddr fl_Nd_kind rfl (o' := 0) rfl) ?_
 refine wd (does_load on_api_Kind rfl ((S.blk 0).cell (Nd.get_kind _))) ?_
 refine wl_nil ?_
 obtain ⟨o3, e3, Ho3⟩ := bind_ex H
 replace H := e3; clear e3
 refine wc_cutq [4, 5, 10, 11, 12, 13, 14, 15, 16, 17, 18, 19, 20, 21, 22, 23, 24, 25, 26, 27, 28, 29, 30, 31, 32, 33, 34, 35, 36, 37, 38, 39, 40, 41, 42, 43, 44, 45, 46, 47, 48, 49, 50, 51, 52, 53, 54, 55, 56, 57, 58, 59] (fun fr W => ∃ s3 : Tb, o3 = .inl s3 ∧ St A N w W [oB b2 T_Nd (Nd.C a1), oR a_0 s3] []) ?_ ?_
 ·refine wc_block ?_
  refine wc_seq (wc_region ?_)
  refine wd (does_eq rfl rfl) ?_
  refine wd (does_as_b rfl) ?_
  refine wl_nil ?_
  refine wc_if rfl (fun hc4 => ?_) (fun hc4 => ?_)
  ·replace H := if_t hc4 H
   refine wc_seq (wc_seq (wc_region ?_))
   refine wd (does_fieldAddr fl_Nd_l rfl (o' := 2) rfl) ?_
   refine wd (does_load on_int rfl ((S.blk 0).cell (Nd.get_l _))) ?_
   refine wd (does_ne rfl rfl) ?_
   refine wd (does_mv_b rfl) ?_
   refine wl_guard (j := 3) (pol := false) rfl rfl rfl (by decide) (fun hg => does_fieldAddr fl_Nd_r rfl (o' := 3) rfl) (by decide) ?_
   refine wl_guard (j := 3) (pol := false) rfl rfl rfl (by decide) (fun hg => does_load on_int (gv_yes hg) ((S.blk 0).cell (Nd.get_r _))) (by decide) ?_
   refine wl_guard (j := 3) (pol := false) rfl rfl rfl (by decide) (fun hg => does_ne (gv_yes hg) rfl) (by decide) ?_
   refine wd (does_or rfl (fun hp => (gv_yes (and_1 hp)))) ?_
   refine wl_nil ?_
   refine wc_if rfl (fun hc5 => ?_) (fun hc5 => ?_)
   ·replace H := if_t hc5 H
    refine wc_seq (wc_region ?_)
    refine wd (does_as_i rfl) ?_
    refine wd (does_as_i rfl) ?_
    refine wl_nil ?_
    refine wc_ret ?_
    refine ⟨_, (rets2 (retOne_tmp rfl) (retOne_tmp rfl)), ?_⟩
    replace S : St A N w w1 [oR a_0 a0] [] := S.arr [1] []
    obtain rfl := Option.some.inj H
    obtain rfl := aft_r Ho3
    exact ⟨rfl, S⟩
   replace H := if_f hc5 H
   refine wc_skip ?_
   refine wc_seq (wc_region ?_)
   refine wd (does_fieldAddr fl_Nd_name rfl (o' := 1) rfl) ?_
   refine wd (does_load on_string rfl ((S.blk 0).cell (Nd.get_name _))) ?_
   obtain ⟨r6, er6, H⟩ := bind_ex H
   obtain ⟨B8, MB8, SB8, back⟩ := S.calln 0 ((.nil))
   refine wl_call (does_call ca_ref03_Word) (by decide) (ref03_Word_st SB8 er6) ?_
   rintro _ w7 ⟨rfl, S2⟩
   replace S : St A N w w7 [oB b2 T_Nd (Nd.C a1), oR a_0 a0] [] := back _ _ _ _ S2 rfl
   clear back S2 SB8
   refine wd (does_not rfl) ?_
   refine wl_nil ?_
   refine wc_if rfl (fun hc9 => ?_) (fun hc9 => ?_)
   ·replace H := if_t hc9 H
    refine wc_seq (wc_region ?_)
    refine wd (does_as_i rfl) ?_
    refine wd (does_as_i rfl) ?_
    refine wl_nil ?_
    refine wc_ret ?_
    refine ⟨_, (rets2 (retOne_tmp rfl) (retOne_tmp rfl)), ?_⟩
    replace S : St A N w w7 [oR a_0 a0] [] := S.arr [1] []
    obtain rfl := Option.some.inj H
    obtain rfl := aft_r Ho3
    exact ⟨rfl, S⟩
   replace H := if_f hc9 H
   refine wc_skip ?_
   obtain rfl := Option.some.inj H
   exact ⟨rfl, (((((((((((((((Dif.refl _ _).upd rfl _).upd rfl _).upd rfl _).upd rfl _).upd rfl _).upd rfl _).upd rfl _).upd rfl _).upd rfl _).upd rfl _).upd rfl _).upd rfl _).upd rfl _).upd rfl _), a0, rfl, S⟩
  ·replace H := if_f hc4 H
   refine wc_seq (wc_region ?_)
   refine wd (does_eq rfl rfl) ?_
   refine wd (does_as_b rfl) ?_
   refine wl_nil ?_
   refine wc_if rfl (fun hc10 => ?_) (fun hc10 => ?_)
   ·replace H := if_t hc10 H
    refine wc_seq (wc_region ?_)
    refine wd (does_fieldAddr fl_Nd_name rfl (o' := 1) rfl) ?_
    refine wd (does_load on_string rfl ((S.blk 0).cell (Nd.get_name _))) ?_
    refine wd (does_nes rfl rfl) ?_
    refine wd (does_mv_b rfl) ?_
    refine wl_guard (j := 3) (pol := false) rfl rfl rfl (by decide) (fun hg => does_fieldAddr fl_Nd_l rfl (o' := 2) rfl) (by decide) ?_
    refine wl_guard (j := 3) (pol := false) rfl rfl rfl (by decide) (fun hg => does_load on_int (gv_yes hg) ((S.blk 0).cell (Nd.get_l _))) (by decide) ?_
    refine wl_guard (j := 3) (pol := false) rfl rfl rfl (by decide) (fun hg => does_ne (gv_yes hg) rfl) (by decide) ?_
    refine wd (does_or rfl (fun hp => (gv_yes (and_1 hp)))) ?_
    refine wd (does_mv_b rfl) ?_
    refine wl_guard (j := 8) (pol := false) rfl rfl rfl (by decide) (fun hg => does_fieldAddr fl_Nd_r rfl (o' := 3) rfl) (by decide) ?_
    refine wl_guard (j := 8) (pol := false) rfl rfl rfl (by decide) (fun hg => does_load on_int (gv_yes hg) ((S.blk 0).cell (Nd.get_r _))) (by decide) ?_
    refine wl_guard (j := 8) (pol := false) rfl rfl rfl (by decide) (fun hg => does_ne (gv_yes hg) rfl) (by decide) ?_
    refine wd (does_or rfl (fun hp => (gv_yes (and_1 hp)))) ?_
    refine wl_nil ?_
    refine wc_if rfl (fun hc11 => ?_) (fun hc11 => ?_)
    ·replace H := if_t hc11 H
     refine wc_seq (wc_region ?_)
     refine wd (does_as_i rfl) ?_
     refine wd (does_as_i rfl) ?_
     refine wl_nil ?_
     refine wc_ret ?_
     refine ⟨_, (rets2 (retOne_tmp rfl) (retOne_tmp rfl)), ?_⟩
     replace S : St A N w w1 [oR a_0 a0] [] := S.arr [1] []
     obtain rfl := Option.some.inj H
     obtain rfl := aft_r Ho3
     exact ⟨rfl, S⟩
    replace H := if_f hc11 H
    refine wc_skip ?_
    obtain rfl := Option.some.inj H
    exact ⟨rfl, ((((((((((((((((((Dif.refl _ _).upd rfl _).upd rfl _).upd rfl _).upd rfl _).upd rfl _).upd rfl _).upd rfl _).upd rfl _).upd rfl _).upd rfl _).upd rfl _).upd rfl _).upd rfl _).upd rfl _).upd rfl _).upd rfl _).upd rfl _), a0, rfl, S⟩
   ·replace H := if_f hc10 H
    refine wc_seq (wc_seq (wc_region ?_))
    refine wd (does_eq rfl rfl) ?_
    refine wd (does_as_b rfl) ?_
    refine wl_nil ?_
    obtain ⟨o12, e12, Ho12⟩ := bind_ex H
    replace H := e12; clear e12
    refine wc_cutq [39, 41, 42] (fun fr W => fr 39 = .bool o12 ∧ St A N w W [oB b2 T_Nd (Nd.C a1), oR a_0 a0] []) ?_ ?_
    ·refine wc_if rfl (fun hc13 => ?_) (fun hc13 => ?_)
     ·replace H := if_t hc13 H
      refine wc_skip ?_
      obtain rfl := Option.some.inj H
      exact ⟨rfl, (Dif.refl _ _), rfl, S⟩
     ·replace H := if_f hc13 H
      refine wc_seq (wc_region ?_)
      refine wd (does_eq rfl rfl) ?_
      refine wd (does_as_b rfl) ?_
      refine wl_nil ?_
      refine wc_if rfl (fun hc14 => ?_) (fun hc14 => ?_)
      ·replace H := if_t hc14 H
       refine wc_skip ?_
       obtain rfl := Option.some.inj H
       exact ⟨rfl, (((Dif.refl _ _).upd rfl _).upd rfl _), rfl, S⟩
      ·replace H := if_f hc14 H
       refine wc_region ?_
       refine wd (does_eq rfl rfl) ?_
       refine wd (does_as_b rfl) ?_
       refine wl_nil ?_
       obtain rfl := Option.some.inj H
       exact ⟨rfl, (((((Dif.refl _ _).upd rfl _).upd rfl _).upd rfl _).upd rfl _), rfl, S⟩
    rintro g15 u16 ⟨p12_39, S⟩
    have H := Ho12
    refine wc_if p12_39 (fun hc17 => ?_) (fun hc17 => ?_)
    rotate_left
    ·replace H := if_f hc17 H
     refine wc_seq (wc_region ?_)
     refine wd (does_as_i rfl) ?_
     refine wd (does_as_i rfl) ?_
     refine wl_nil ?_
     refine wc_ret ?_
     refine ⟨_, (rets2 (retOne_tmp rfl) (retOne_tmp rfl)), ?_⟩
     replace S : St A N w u16 [oR a_0 a0] [] := S.arr [1] []
     obtain rfl := Option.some.inj H
     obtain rfl := aft_r Ho3
     exact ⟨rfl, S⟩
    replace H := if_t hc17 H
    refine wc_seq (wc_region ?_)
    refine wd (does_fieldAddr fl_Nd_name rfl (o' := 1) rfl) ?_
    refine wd (does_load on_string rfl ((S.blk 0).cell (Nd.get_name _))) ?_
    refine wd (does_nes rfl rfl) ?_
    refine wd (does_mv_b rfl) ?_
    refine wl_guard (j := 3) (pol := false) rfl rfl rfl (by decide) (fun hg => does_mv_p rfl) (by decide) ?_
    refine wl_guard (j := 3) (pol := false) rfl rfl rfl (by decide) (fun hg => does_fieldAddr fl_Nd_l rfl (o' := 2) rfl) (by decide) ?_
    refine wl_guard (j := 3) (pol := false) rfl rfl rfl (by decide) (fun hg => does_load on_int (gv_yes hg) ((S.blk 0).cell (Nd.get_l _))) (by decide) ?_
    obtain ⟨r18, er18, H⟩ := bind_ex H
    refine wl_gcall (j := 3) (pol := false) rfl rfl rfl (by decide) (fun hg => does_callg ca_ref03_T_Has (cons2 (gv_yes hg) (cons2 (gv_yes hg) rfl))) (by decide) (fun hg => (have ⟨M, SS⟩ := S.lend ((.o 1 rfl .nil)); quiet (ref03_T_Has_st SS (if_t (by simpa using hg) er18)) (fun v w' h => ⟨h.1, _, _, h.2⟩))) fun w19 hw19 => ?_
    replace S := S.ext hw19
    refine wl_guard (j := 3) (pol := false) rfl rfl rfl (by decide) (fun hg => does_not (gv_yes hg)) (by decide) ?_
    refine wd (does_or rfl (fun hp => (gv_yes (and_1 hp)))) ?_
    refine wd (does_mv_b rfl) ?_
    refine wl_guard (j := 10) (pol := false) rfl rfl rfl (by decide) (fun hg => does_mv_p rfl) (by decide) ?_
    refine wl_guard (j := 10) (pol := false) rfl rfl rfl (by decide) (fun hg => does_fieldAddr fl_Nd_r rfl (o' := 3) rfl) (by decide) ?_
    refine wl_guard (j := 10) (pol := false) rfl rfl rfl (by decide) (fun hg => does_load on_int (gv_yes hg) ((S.blk 0).cell (Nd.get_r _))) (by decide) ?_
    obtain ⟨r20, er20, H⟩ := bind_ex H
    refine wl_gcall (j := 10) (pol := false) rfl rfl rfl (by decide) (fun hg => does_callg ca_ref03_T_Has (cons2 (gv_yes hg) (cons2 (gv_yes hg) rfl))) (by decide) (fun hg => (have ⟨M, SS⟩ := S.lend ((.o 1 rfl .nil)); quiet (ref03_T_Has_st SS (if_t (by simpa using hg) er20)) (fun v w' h => ⟨h.1, _, _, h.2⟩))) fun w21 hw21 => ?_
    replace S := S.ext hw21
    refine wl_guard (j := 10) (pol := false) rfl rfl rfl (by decide) (fun hg => does_not (gv_yes hg)) (by decide) ?_
    refine wd (does_or rfl (fun hp => (gv_yes (and_1 hp)))) ?_
    refine wl_nil ?_
    refine wc_if rfl (fun hc22 => ?_) (fun hc22 => ?_)
    ·replace H := if_t hc22 H
     refine wc_seq (wc_region ?_)
     refine wd (does_as_i rfl) ?_
     refine wd (does_as_i rfl) ?_
     refine wl_nil ?_
     refine wc_ret ?_
     refine ⟨_, (rets2 (retOne_tmp rfl) (retOne_tmp rfl)), ?_⟩
     replace S : St A N w w21 [oR a_0 a0] [] := S.arr [1] []
     obtain rfl := Option.some.inj H
     obtain rfl := aft_r Ho3
     exact ⟨rfl, S⟩
    replace H := if_f hc22 H
    refine wc_skip ?_
    obtain rfl := Option.some.inj H
    exact ⟨rfl, (((((((((((((((((((((((((Dif.refl _ _).upd rfl _).upd rfl _).upd rfl _).upd rfl _).upd rfl _).upd rfl _).mask rfl _).upd rfl _).upd rfl _).upd rfl _).upd rfl _).upd rfl _).upd rfl _).upd rfl _).upd rfl _).upd rfl _).upd rfl _).upd rfl _).upd rfl _).upd rfl _).upd rfl _).upd rfl _).upd rfl _).upd rfl _), a0, rfl, S⟩
 rintro g23 u24 ⟨s3, rfl, S⟩
 have H := Ho3
 dsimp only [aft] at H
 refine wc_seq (wc_region ?_)
 refine wd (does_mv_p rfl) ?_
 refine wd (does_load_agg ag_Nd rfl ((S.blk 0).all _ (Nd.len _)) (Nd.len _)) ?_
 obtain ⟨r25, er25, H⟩ := bind_ex H
 obtain ⟨B27, MB27, SB27, back⟩ := S.calln 0 ((.o 1 rfl .nil))
 refine wl_call (does_call ca_ref03_T_Find) (by decide) (ref03_T_Find_st SB27 er25) ?_
 rintro _ w26 ⟨rfl, S2⟩
 replace S : St A N w w26 [oB b2 T_Nd (Nd.C a1), oR a_0 s3] [] := back _ _ _ _ S2 rfl
 clear back S2 SB27
 refine wd (does_mv_t rfl) ?_
 refine wd (does_extract rfl rfl) ?_
 refine wd (does_extract rfl rfl) ?_
 refine wd (does_as_i rfl) ?_
 refine wd (does_as_b rfl) ?_
 refine wl_nil ?_
 refine wc_seq (wc_seq (wc_region ?_))
 refine wd (does_mv_b rfl) ?_
 refine wl_nil ?_
 refine wc_if rfl (fun hc28 => ?_) (fun hc28 => ?_)
 ·replace H := if_t hc28 H
  refine wc_seq (wc_region ?_)
  refine wd (does_mv_i rfl) ?_
  refine wd (does_as_i rfl) ?_
  refine wd (does_as_i rfl) ?_
  refine wl_nil ?_
  refine wc_ret ?_
  refine ⟨_, (rets2 (retOne_tmp rfl) (retOne_tmp rfl)), ?_⟩
  replace S : St A N w w26 [oR a_0 s3] [] := S.arr [1] []
  obtain rfl := Option.some.inj H
  exact ⟨rfl, S⟩
 replace H := if_f hc28 H
 refine wc_skip ?_
 refine wc_seq (wc_seq (wc_region ?_))
 refine wd (does_mv_p rfl) ?_
 obtain ⟨ht29, H⟩ := chk_ex H
 obtain ⟨p30, s31, hp32, S⟩ := S.openR 1 ht29
 replace S : St A N w w26 [oB p30 T_RTab (RTab.C ⟨s31⟩), oS T_Nd 4 Nd.C s31 (s3.getD []), oB b2 T_Nd (Nd.C a1)] [] := S
 refine wd (does_nilCheck (congrArg Value.pointer hp32)) ?_
 refine wd (does_fieldAddr fl_RTab_n rfl (o' := 0) rfl) ?_
 refine wd (does_load on_L_api_Node rfl ((S.blk 0).cell (RTab.get_n _))) ?_
 refine wd (does_lenR sl_L_api_Node rfl (S.rdO 1)) ?_
 refine wd (does_ge rfl rfl) ?_
 replace S := S.front 1
 replace S := S.front 1
 replace S : St A N w w26 [oR a_0 (some (s3.getD [])), oB b2 T_Nd (Nd.C a1)] [] := S.shutR hp32
 refine wl_nil ?_
 refine wc_if rfl (fun hc33 => ?_) (fun hc33 => ?_)
 ·replace H := if_t hc33 H
  refine wc_seq (wc_region ?_)
  refine wd (does_as_i rfl) ?_
  refine wd (does_as_i rfl) ?_
  refine wl_nil ?_
  refine wc_ret ?_
  refine ⟨_, (rets2 (retOne_tmp rfl) (retOne_tmp rfl)), ?_⟩
  replace S : St A N w w26 [oR a_0 (some (s3.getD []))] [] := S.arr [0] []
  obtain rfl := Option.some.inj H
  exact ⟨rfl, S⟩
 replace H := if_f hc33 H
 refine wc_skip ?_
 refine wc_seq ?_
 obtain ⟨p34, s35, hp36, S⟩ := S.openR 0 rfl
 replace S : St A N w w26 [oB p34 T_RTab (RTab.C ⟨s35⟩), oS T_Nd 4 Nd.C s35 (s3.getD []), oB b2 T_Nd (Nd.C a1)] [] := S
 obtain ⟨ha37, H⟩ := chk_ex H
 have ha37 := of_decide_eq_true ha37
 have hSO := S.sl 1
 have hSlt := hSO.lt
 have SH : ∀ v, Chg s35.fp w26 v → St A (N.or s35.fp) w v [oB p34 T_RTab (RTab.C ⟨s35⟩), oB b2 T_Nd (Nd.C a1)] [] := fun v hc => S.away 1 (hc := hc)
 refine wc_draw 8 ⟨fun L v => Chg s35.fp w26 v ∧ (L 7 = false → Ext w26 v), fun L a b => Chg s35.fp a b ∧ (L 7 = true → Ext a b), fun i v u => match i with
  | 0 => v = Value.pointer a_0
  | 1 => v = Value.pointer a_0
  | 2 => v = Value.pointer (some ⟨p34, 0, none⟩)
  | 3 => v = Value.pointer (some ⟨p34, 0, none⟩)
  | 4 => v = s35.v
  | 5 => v = Value.agg (Nd.C a1).toArray
  | 6 => ∃ b sl, v = SlV.v sl ∧ sl = ⟨some ⟨b, 0, none⟩, 1, 1⟩ ∧ Blk u b T_Nd (Nd.C a1) ∧ ¬ s35.fp b
  | 7 => ∃ s', v = SlV.v s' ∧ Own u 0 T_Nd 4 s' (((s3.getD []) ++ [a1]).map Nd.C) ∧ ∀ i, s'.fp i → s35.fp i ∨ w26.heap.size ≤ i
  | _ => True⟩ hmix (by kernel_rfl) ?_ ⟨(Ext.drawn _).mono (fun _ _ x => x.elim), fun _ => Ext.drawn _⟩ ⟨?_, ?_, ?_, ?_, ?_, ?_, ?_, ?_, trivial⟩ ?_
 ·intro L i v a b hLi hle hv
  match i, hLi, hv with
  | 0, _, hv => exact hv
  | 1, _, hv => exact hv
  | 2, _, hv => exact hv
  | 3, _, hv => exact hv
  | 4, _, hv => exact hv
  | 5, _, hv => exact hv
  | 6, _, ⟨b, sl, e1, e2, hb, hn⟩ => exact ⟨b, sl, e1, e2, hb.chg hle.1 hn, hn⟩
  | 7, hLi, ⟨s', e1, ho, hg⟩ => exact ⟨s', e1, ho.ext (hle.2 hLi), hg⟩
  | _ + 8, _, _ => exact trivial
 ·rintro L g v hL hT 
  refine wl_does (does_mv_p rfl) (by decide) (wl_nil (ob ⟨hT.1, fun h => hT.2 h⟩ ⟨Chg.refl _ _, fun _ => Ext.refl _⟩ rfl))
 ·rintro L g v hL hT 
  refine wl_does (does_mv_p rfl) (by decide) (wl_nil (ob ⟨hT.1, fun h => hT.2 h⟩ ⟨Chg.refl _ _, fun _ => Ext.refl _⟩ rfl))
 ·rintro L g v hL hT hv1
  refine wl_does (does_nilCheck ((hv1 : _ = Value.pointer a_0).trans (congrArg Value.pointer hp36))) (by decide) (wl_nil (ob ⟨hT.1, fun h => hT.2 h⟩ ⟨Chg.refl _ _, fun _ => Ext.refl _⟩ rfl))
 ·rintro L g v hL hT hv2
  refine wl_does (does_fieldAddr fl_RTab_n hv2 (o' := 0) rfl) (by decide) (wl_nil (ob ⟨hT.1, fun h => hT.2 h⟩ ⟨Chg.refl _ _, fun _ => Ext.refl _⟩ rfl))
 ·rintro L g v hL hT hv3
  refine wl_does (does_load on_L_api_Node hv3 (((SH v hT.1).blk 0).cell (RTab.get_n _))) (by decide) (wl_nil (ob ⟨hT.1, fun h => hT.2 h⟩ ⟨Chg.refl _ _, fun _ => Ext.refl _⟩ rfl))
 ·rintro L g v hL hT 
  refine wl_does (does_load_agg ag_Nd rfl (((SH v hT.1).blk 1).all _ (Nd.len _)) (Nd.len _)) (by decide) (wl_nil (ob ⟨hT.1, fun h => hT.2 h⟩ ⟨Chg.refl _ _, fun _ => Ext.refl _⟩ rfl))
 ·rintro L g v hL hT hv5
  refine wl_lit1 sl_L_api_Node el_Nd.zero hv5 rfl (Nd.len _) (by decide) (by decide) fun b v' sl hn hq => wl_nil (ob ⟨hT.1.thenExt hn.ext, fun h => (hT.2 h).trans hn.ext⟩ ⟨hn.ext.mono (fun _ _ x => x.elim), fun _ => hn.ext⟩ ⟨b, sl, rfl, hq, hn.blk, fun e => by have := hSlt _ e; have := hn.at_; have := hT.1.size; omega⟩)
 ·rintro L g v hL hT hv4 ⟨b, sl, hv6, hq, hb, hnb⟩
  refine wl_push (C := Nd.C) sl_L_api_Node el_Nd hv4 hv6 (hSO.ext (hT.2 hL)) hb hq (Nd.len _) (Nd.one _) ha37 (by omega) (by decide) fun s' v' ho hc hg => wl_nil (ob ⟨hT.1.trans hc, fun h => (by cases h)⟩ ⟨hc, fun h => (by rw [hL] at h; cases h)⟩ ⟨s', rfl, ho, fun i e => (hg i e).imp id (fun h => Nat.le_trans hT.1.size h)⟩)
 rintro L g w38 hLm hT hv40_0 hv40_1 hv40_2 hv40_3 hv40_4 hv40_5 ⟨b, sl, hv40_6, hq, hb, hnb⟩ ⟨s39, hv40_7, O, gO⟩
 replace S : St A N w w38 [oS T_Nd 4 Nd.C s39 ((s3.getD []) ++ [a1]), oB p34 T_RTab (RTab.C ⟨s35⟩), oB b2 T_Nd (Nd.C a1)] [] := S.push 1 O (by rw [List.length_append, List.length_singleton]; omega) hT.1 gO
 clear O gO SH hSO hSlt
 refine wd (does_nilCheck ((hv40_0 : _ = Value.pointer a_0).trans (congrArg Value.pointer hp36))) ?_
 refine wd (does_fieldAddr fl_RTab_n rfl (o' := 0) rfl) ?_
 refine wl_store on_L_api_Node rfl hv40_7 (S.blk 1) (by rw [RTab.len]; decide) (SlV.one _ _ rfl) (RTab.set_n _ _) fun w41 B hw41 zw41 => ?_
 replace S : St A N w w41 [oB p34 T_RTab (RTab.C ⟨s39⟩), oS T_Nd 4 Nd.C s39 ((s3.getD []) ++ [a1]), oB b2 T_Nd (Nd.C a1)] [] := S.store 1 B hw41
 clear B
 replace S := S.front 1
 replace S := S.front 1
 replace S : St A N w w41 [oR a_0 (some ((s3.getD []) ++ [a1])), oB b2 T_Nd (Nd.C a1)] [] := S.shutR hp36
 refine wl_nil ?_
 refine wc_seq (wc_region ?_)
 refine wd (does_mv_p rfl) ?_
 obtain ⟨p42, s43, hp44, S⟩ := S.openR 0 rfl
 replace S : St A N w w41 [oB p42 T_RTab (RTab.C ⟨s43⟩), oS T_Nd 4 Nd.C s43 ((s3.getD []) ++ [a1]), oB b2 T_Nd (Nd.C a1)] [] := S
 refine wd (does_nilCheck (congrArg Value.pointer hp44)) ?_
 refine wd (does_fieldAddr fl_RTab_n rfl (o' := 0) rfl) ?_
 refine wd (does_load on_L_api_Node rfl ((S.blk 0).cell (RTab.get_n _))) ?_
 refine wd (does_lenR sl_L_api_Node rfl (S.rdO 1)) ?_
 refine wd (does_sub rfl rfl) ?_
 refine wd (does_as_i rfl) ?_
 refine wd (does_as_i rfl) ?_
 replace S := S.front 1
 replace S := S.front 1
 replace S : St A N w w41 [oR a_0 (some ((s3.getD []) ++ [a1])), oB b2 T_Nd (Nd.C a1)] [] := S.shutR hp44
 refine wl_nil ?_
 refine wc_ret ?_
 refine ⟨_, (rets2 (retOne_tmp rfl) (retOne_tmp rfl)), ?_⟩
 replace S : St A N w w41 [oR a_0 (some ((s3.getD []) ++ [a1]))] [] := S.arr [0] []
 obtain rfl := Option.some.inj H
 exact ⟨rfl, S⟩
theorem ref03_From_st {A : Nat → Prop} {N : Oth} {w : World} {a0 : List Nd} {s_0 : SlV} (S : St A N w w [] [fS 4 Nd.C s_0 a0]) {r : Tb × Int} (H : ref03_From.f a0 = some r) :
  Calls PP F_ref03_From #[s_0.v] w fun e w' => ∃ v, e = .returned v ∧ (∃ ao0 : Option Addr, v = .tuple #[.pointer ao0, .int .i64 r.2] ∧ St A N w w' [oR ao0 r.1] []) := by
 unfold ref03_From.f at H
 refine calls_of_wc (n := 32) fn_ref03_From rfl rfl (by simp) ?_
 refine wc_seq (wc_region ?_)
 replace S : St A N w w [oR none none] [fS 4 Nd.C s_0 a0] := S.add (Ext.refl _) (oR.nil _) (fun _ x => x.elim)
 refine wd (does_as_p rfl) ?_
 refine wd (does_as_i rfl) ?_
 refine wl_nil ?_
 refine wc_seq (wc_region ?_)
 refine wd (does_build bu_RTab Bld.nil) ?_
 refine wl_box_agg rfl (by decide) fun b2 w1 hw1 => ?_
 replace S : St A N w w1 [oR (some ⟨b2, 0, none⟩) (some []), oR none none] [fS 4 Nd.C s_0 a0] := ((S.nil T_Nd 4 Nd.C).new hw1).shutR rfl
 refine wd (does_as_p rfl) ?_
 refine wl_nil ?_
 refine wc_seq (wc_seq (wc_region ?_))
 refine wd (does_as_i rfl) ?_
 refine wl_nil ?_
 obtain ⟨o3, e3, Ho3⟩ := bind_ex H
 clear H
 refine wc_cutq [2, 3, 5, 6, 7, 10, 11, 12, 13, 14, 15, 16, 17, 18, 19, 20, 21, 22, 23, 24, 25, 26, 27, 28, 29, 30] (fun fr W => ∃ s3 : Tb, o3 = .inl s3 ∧ St A N w W [oR (some ⟨b2, 0, none⟩) s3, oR none none] [fS 4 Nd.C s_0 a0]) ?_ ?_
 ·refine wc_block ?_
  refine wc_loopm (α := Nat × Int × Tb) [2, 3, 5, 6, 7, 10, 11, 12, 13, 14, 15, 16, 17, 18, 19, 20, 21, 22, 23, 24, 25, 26, 27, 28, 29, 30] (fun x fr W => (x.1 : Int) = (a0.length : Int) - x.2.1 ∧ 0 ≤ x.2.1 ∧ forN (fun i s => ref03_From.b0 a0 i s) x.1 x.2.1 x.2.2 = some o3 ∧ fr 5 = .int .i64 x.2.1 ∧ St A N w W [oR (some ⟨b2, 0, none⟩) (x.2.2), oR none none] [fS 4 Nd.C s_0 a0]) (fun x => x.1) (((a0.length : Int) - 0).toNat, 0, (some [])) ⟨(by dsimp only; have hle := Int.natCast_nonneg (a0.length); omega), (Int.le_refl _), (by dsimp only; exact e3), rfl, S⟩ ?_
  rintro ⟨m3, i3, x3_0⟩ g3 u3 ⟨hm3, hl3, e3, q3_i, S⟩
  try dsimp only at hm3
  try dsimp only at hl3
  try dsimp only at e3
  try dsimp only at S
  try dsimp only at q3_i
  refine wc_seq (wc_seq (wc_region ?_))
  refine wd (does_mv_i q3_i) ?_
  refine wd (does_mv_l rfl) ?_
  refine wd (does_lenR sl_L_api_Node rfl (S.rd 0)) ?_
  refine wd (does_lt rfl rfl) ?_
  refine wl_nil ?_
  refine wc_if rfl (fun hc4 => ?_) (fun hc4 => ?_)
  rotate_left
  ·refine wc_exit ?_
   have hge : (a0.length : Int) ≤ i3 := Int.not_lt.1 (of_decide_eq_false hc4)
   obtain rfl : m3 = 0 := by omega
   replace e3 := forN_0 e3
   exact ⟨rfl, (((((Dif.self _ _ _).upd rfl _).upd rfl _).upd rfl _).upd rfl _), x3_0, e3, S⟩
  refine wc_skip ?_
  have hlt3 : i3 < (a0.length : Int) := of_decide_eq_true hc4
  obtain ⟨m3, rfl⟩ : ∃ m, m3 = m + 1 := ⟨m3 - 1, by omega⟩
  obtain ⟨q3, H, e3⟩ := forN_s e3
  unfold ref03_From.b0 at H
  try dsimp only at H
  have hb3 := (S.len 0)
  refine wc_seq ?_
  refine wc_block ?_
  refine wc_seq (wc_region ?_)
  refine wd (does_mv_p rfl) ?_
  refine wd (does_mv_l rfl) ?_
  refine wd (does_mv_i q3_i) ?_
  refine wd (does_indexR sl_L_api_Node rfl rfl (S.rd 0) (And.intro (show 0 ≤ i3 by omega) (show i3 < (a0.length : Int) from hlt3)).1 (And.intro (show 0 ≤ i3 by omega) (show i3 < (a0.length : Int) from hlt3)).2) ?_
  refine wd (does_load_agg ag_Nd rfl ((S.rd 0).at (at_some Nd.z (And.intro (show 0 ≤ i3 by omega) (show i3 < (a0.length : Int) from hlt3)))) (Nd.len _)) ?_
  obtain ⟨r6, er6, H⟩ := bind_ex H
  obtain ⟨B8, MB8, SB8, back⟩ := S.calln 1 ((.nil))
  refine wl_call (does_call ca_ref03_T_Put) (by decide) (ref03_T_Put_st SB8 er6) ?_
  rintro _ w7 ⟨rfl, S2⟩
  replace S : St A N w w7 [oR (some ⟨b2, 0, none⟩) r6.1, oR none none] [fS 4 Nd.C s_0 a0] := back _ _ _ _ S2 rfl
  clear back S2 SB8
  refine wd (does_mv_t rfl) ?_
  refine wd (does_extract rfl rfl) ?_
  refine wd (does_extract rfl rfl) ?_
  refine wd (does_as_i rfl) ?_
  refine wd (does_as_i rfl) ?_
  refine wl_nil ?_
  refine wc_seq (wc_seq (wc_region ?_))
  refine wd (does_mv_i rfl) ?_
  refine wd (does_ne rfl rfl) ?_
  refine wl_nil ?_
  refine wc_if rfl (fun hc9 => ?_) (fun hc9 => ?_)
  ·replace H := if_t hc9 H
   refine wc_seq (wc_region ?_)
   refine wd (does_mv_i rfl) ?_
   replace S : St A N w w7 [oR none none, oR (some ⟨b2, 0, none⟩) r6.1, oR none none] [fS 4 Nd.C s_0 a0] := S.add (Ext.refl _) (oR.nil _) (fun _ x => x.elim)
   refine wd (does_as_p rfl) ?_
   refine wd (does_as_i rfl) ?_
   refine wl_nil ?_
   refine wc_ret ?_
   refine ⟨_, (rets2 (retOne_tmp rfl) (retOne_tmp rfl)), ?_⟩
   replace S : St A N w w7 [oR none none] [] := S.arr [0] []
   obtain rfl := Option.some.inj H
   obtain rfl := e3
   obtain rfl := aft_r Ho3
   exact ⟨none, rfl, S⟩
  replace H := if_f hc9 H
  refine wc_skip ?_
  refine wc_seq (wc_region ?_)
  refine wd (does_mv_i rfl) ?_
  refine wd (does_mv_i q3_i) ?_
  refine wd (does_ne rfl rfl) ?_
  refine wl_nil ?_
  refine wc_if rfl (fun hc10 => ?_) (fun hc10 => ?_)
  ·replace H := if_t hc10 H
   refine wc_seq (wc_region ?_)
   replace S : St A N w w7 [oR none none, oR (some ⟨b2, 0, none⟩) r6.1, oR none none] [fS 4 Nd.C s_0 a0] := S.add (Ext.refl _) (oR.nil _) (fun _ x => x.elim)
   refine wd (does_as_p rfl) ?_
   refine wd (does_as_i rfl) ?_
   refine wl_nil ?_
   refine wc_ret ?_
   refine ⟨_, (rets2 (retOne_tmp rfl) (retOne_tmp rfl)), ?_⟩
   replace S : St A N w w7 [oR none none] [] := S.arr [0] []
   obtain rfl := Option.some.inj H
   obtain rfl := e3
   obtain rfl := aft_r Ho3
   exact ⟨none, rfl, S⟩
  replace H := if_f hc10 H
  refine wc_skip ?_
  refine wc_region ?_
  refine wd (does_mv_i q3_i) ?_
  refine wd (does_addc rfl rfl (c := i3 + 1) rfl (by omega) (by omega)) ?_
  refine wd (does_as_i rfl) ?_
  refine wl_nil ?_
  obtain rfl := Option.some.inj H
  exact ⟨rfl, ((((((((((((((((((((((((Dif.self _ _ _).upd rfl _).upd rfl _).upd rfl _).upd rfl _).upd rfl _).upd rfl _).upd rfl _).upd rfl _).upd rfl _).upd rfl _).upd rfl _).upd rfl _).upd rfl _).upd rfl _).upd rfl _).upd rfl _).upd rfl _).upd rfl _).upd rfl _).upd rfl _).upd rfl _).upd rfl _).upd rfl _), (m3, i3 + 1, r6.1), ⟨(by dsimp only; omega), (by dsimp only; omega), e3, rfl, S⟩, by dsimp only; omega⟩
 rintro g11 u12 ⟨s3, rfl, S⟩
 have H := Ho3
 dsimp only [aft] at H
 refine wc_seq (wc_region ?_)
 refine wd (does_mv_p rfl) ?_
 refine wd (does_as_p rfl) ?_
 refine wd (does_as_i rfl) ?_
 refine wl_nil ?_
 refine wc_ret ?_
 refine ⟨_, (rets2 (retOne_tmp rfl) (retOne_tmp rfl)), ?_⟩
 replace S : St A N w u12 [oR (some ⟨b2, 0, none⟩) s3] [] := S.arr [0] []
 obtain rfl := Option.some.inj H
 exact ⟨(some ⟨b2, 0, none⟩), rfl, S⟩
theorem law03_Both_st {A : Nat → Prop} {N : Oth} {w : World} {a0 : List Nd} {s_0 : SlV} (S : St A N w w [] [fS 4 Nd.C s_0 a0]) {r : Tb × Tb × Bool} (H : law03_Both.f a0 = some r) :
  Calls PP F_law03_Both #[s_0.v] w fun e w' => ∃ v, e = .returned v ∧ (∃ ao0 : Option Addr, ∃ ao1 : Option Addr, v = .tuple #[.pointer ao0, .pointer ao1, .bool r.2.2] ∧ St A N w w' [oT ao0 r.1, oR ao1 r.2.1] []) := by
 unfold law03_Both.f at H
 refine calls_of_wc (n := 27) fn_law03_Both rfl rfl (by simp) ?_
 refine wc_seq (wc_region ?_)
 replace S : St A N w w [oT none none] [fS 4 Nd.C s_0 a0] := S.add (Ext.refl _) (oT.nil _) (fun _ x => x.elim)
 refine wd (does_as_p rfl) ?_
 replace S : St A N w w [oR none none, oT none none] [fS 4 Nd.C s_0 a0] := S.add (Ext.refl _) (oR.nil _) (fun _ x => x.elim)
 refine wd (does_as_p rfl) ?_
 refine wd (does_as_b rfl) ?_
 refine wl_nil ?_
 refine wc_seq (wc_region ?_)
 refine wl_lits (C := Nd.C) (l := ([] : List Nd)) (vs := []) sl_L_api_Node el_Nd.zero rfl rfl (fun a _ => Nd.len a) (by decide) rfl (by decide) fun b2 w1 s3 hBw1 hw1 => ?_
 replace S : St A N w w1 [oS T_Nd 4 Nd.C s3 ([] : List Nd), oR none none, oT none none] [fS 4 Nd.C s_0 a0] := S.lit hBw1 hw1 (by simp)
 refine wd (does_mv_l rfl) ?_
 obtain ⟨ha6, H⟩ := chk_ex H
 have ha6 := of_decide_eq_true ha6
 refine wl_appendm (C := Nd.C) sl_L_api_Node el_Nd rfl rfl (S.sl 0) (S.rd 0) Nd.one ha6 (by omega) (by decide) fun s5 w4 O hw4 gw4 => ?_
 replace S : St A N w w4 [oS T_Nd 4 Nd.C s5 (([] : List Nd) ++ a0), oR none none, oT none none] [fS 4 Nd.C s_0 a0] := S.push 0 O (by first | (simp; done) | (simp; omega)) hw4 gw4
 clear O
 refine wd (does_as_l rfl) ?_
 refine wl_nil ?_
 refine wc_seq (wc_region ?_)
 refine wd (does_mv_l rfl) ?_
 obtain ⟨r7, er7, H⟩ := bind_ex H
 obtain ⟨B9, MB9, SB9, back⟩ := S.calln 0 ((.z 0 rfl .nil))
 refine wl_call (does_call ca_ref03_From) (by decide) (ref03_From_st SB9 er7) ?_
 rintro _ w8 ⟨a10, rfl, S2⟩
 replace S : St A N w w8 [oR a10 r7.1, oS T_Nd 4 Nd.C s5 (([] : List Nd) ++ a0), oR none none, oT none none] [fS 4 Nd.C s_0 a0] := back _ _ _ _ S2 rfl
 clear back S2 SB9
 refine wd (does_mv_t rfl) ?_
 refine wd (does_extract rfl rfl) ?_
 refine wd (does_extract rfl rfl) ?_
 refine wd (does_as_p rfl) ?_
 refine wd (does_as_i rfl) ?_
 refine wl_nil ?_
 refine wc_seq (wc_seq (wc_region ?_))
 refine wd (does_mv_i rfl) ?_
 refine wd (does_ne rfl rfl) ?_
 refine wl_nil ?_
 refine wc_if rfl (fun hc11 => ?_) (fun hc11 => ?_)
 ·replace H := if_t hc11 H
  refine wc_seq (wc_region ?_)
  replace S : St A N w w8 [oT none none, oR a10 r7.1, oS T_Nd 4 Nd.C s5 (([] : List Nd) ++ a0), oR none none, oT none none] [fS 4 Nd.C s_0 a0] := S.add (Ext.refl _) (oT.nil _) (fun _ x => x.elim)
  refine wd (does_as_p rfl) ?_
  replace S : St A N w w8 [oR none none, oT none none, oR a10 r7.1, oS T_Nd 4 Nd.C s5 (([] : List Nd) ++ a0), oR none none, oT none none] [fS 4 Nd.C s_0 a0] := S.add (Ext.refl _) (oR.nil _) (fun _ x => x.elim)
  refine wd (does_as_p rfl) ?_
  refine wd (does_as_b rfl) ?_
  refine wl_nil ?_
  refine wc_ret ?_
  refine ⟨_, (rets3 (retOne_tmp rfl) (retOne_tmp rfl) (retOne_tmp rfl)), ?_⟩
  replace S : St A N w w8 [oT none none, oR none none] [] := S.arr [1, 0] []
  obtain rfl := Option.some.inj H
  exact ⟨none, none, rfl, S⟩
 replace H := if_f hc11 H
 refine wc_skip ?_
 refine wc_seq (wc_region ?_)
 refine wd (does_mv_l rfl) ?_
 obtain ⟨r12, er12, H⟩ := bind_ex H
 obtain ⟨B14, MB14, SB14, back⟩ := S.calln 0 ((.s 1 rfl .nil))
 refine wl_call (does_call ca_formula_From) (by decide) (formula_From_st SB14 er12) ?_
 rintro _ w13 ⟨a15, rfl, S2⟩
 replace S : St A N w w13 [oT a15 r12.1, oR a10 r7.1, oS T_Nd 4 Nd.C s5 (([] : List Nd) ++ a0), oR none none, oT none none] [fS 4 Nd.C s_0 a0] := back _ _ _ _ S2 rfl
 clear back S2 SB14
 refine wd (does_mv_t rfl) ?_
 refine wd (does_extract rfl rfl) ?_
 refine wd (does_extract rfl rfl) ?_
 refine wd (does_as_p rfl) ?_
 refine wd (does_as_i rfl) ?_
 refine wl_nil ?_
 refine wc_seq (wc_region ?_)
 refine wd (does_mv_p rfl) ?_
 refine wd (does_mv_p rfl) ?_
 refine wd (does_as_p rfl) ?_
 refine wd (does_as_p rfl) ?_
 refine wd (does_as_b rfl) ?_
 refine wl_nil ?_
 refine wc_ret ?_
 refine ⟨_, (rets3 (retOne_tmp rfl) (retOne_tmp rfl) (retOne_tmp rfl)), ?_⟩
 replace S : St A N w w13 [oT a15 r12.1, oR a10 r7.1] [] := S.arr [0, 1] []
 obtain rfl := Option.some.inj H
 exact ⟨a15, a10, rfl, S⟩
end Go.Proofs.YtjebgcoknpcadaaDoor
end
section
namespace Go.Proofs.YtjebgcoknpcadaaDoor
open Gw Go.RowKit
set_option maxHeartbeats 4000000
set_option maxRecDepth 20000
theorem law13_v_st {A : Nat → Prop} {N : Oth} {w : World} {a0 : ByteArray} (S : St A N w w [] []) {r : PTerm} (H : law13_v.f a0 = some r) :
  Calls PP F_law13_v #[.string a0] w fun e w' => ∃ v, e = .returned v ∧ (∃ so0 : SlV, v = .agg (Term.C (⟨r.kind, r.name, r.other, r.form, so0⟩ : Term)).toArray ∧ St A N w w' [] [oDTerm so0 r.sub]) := by
 unfold law13_v.f at H
 refine calls_of_wc (n := 5) fn_law13_v rfl rfl (by simp) ?_
 refine wc_seq (wc_region ?_)
 refine wl_alloc ze_Term (by decide) fun b2 w1 hw1 => ?_
 replace S : St A N w w1 [oB b2 T_Term (Term.C (⟨0, ByteArray.empty, ByteArray.empty, 0, SlV.nil⟩ : Term))] [] := S.new hw1
 refine wl_nil ?_
 refine wc_seq (wc_region ?_)
 refine wd (does_mv_s rfl) ?_
 refine wd (Does.to (v' := .agg (Term.C (⟨1, a0, ByteArray.empty, 0, SlV.nil⟩ : Term)).toArray) (does_buildv (vs := [(0, .int .i64 1), (1, .string a0)]) bu_Term (consP rfl (consP rfl rfl)) (Bld.one rfl rfl (by rw [Term.len]; decide) (Term.set_kind _ _) (Bld.one rfl rfl (by rw [Term.len]; decide) (Term.set_name _ _) Bld.nil))) rfl) ?_
 refine wl_store_agg ag_Term rfl rfl (S.blk 0) (Term.len _) (by rw [Term.len]; decide) (Term.one _) (store_all (Term.len _)) fun w3 B hw3 zw3 => ?_
 replace S : St A N w w3 [oB b2 T_Term (Term.C (⟨1, a0, ByteArray.empty, 0, SlV.nil⟩ : Term))] [] := S.store 0 B hw3
 clear B
 refine wl_nil ?_
 refine wc_ret ?_
 replace S : St A N w w3 [oB b2 T_Term (Term.C (⟨1, a0, ByteArray.empty, 0, SlV.nil⟩ : Term))] [oDTerm SlV.nil ([])] := S.nilTm
 refine ⟨_, (rets1 (retOne_agg ag_Term rfl ((S.blk 0).all _ (Term.len _)) (Term.len _))), ?_⟩
 replace S : St A N w w3 [] [oDTerm SlV.nil ([])] := S.arr [] [0]
 obtain rfl := Option.some.inj H
 exact ⟨SlV.nil, rfl, S⟩
theorem law13_heads_st {A : Nat → Prop} {N : Oth} {w : World}  (S : St A N w w [] [oEt]) {k : Nat} {r : Bool} (H : law13_heads.f k  = some r) :
  Calls PP F_law13_heads #[] w fun e w' => ∃ v, e = .returned v ∧ (v = .bool r ∧ St A N w w' [] []) := by
 unfold law13_heads.f at H
 refine calls_of_wc (n := 108) fn_law13_heads rfl rfl (by simp) ?_
 refine wc_seq (wc_region ?_)
 refine wd (does_as_b rfl) ?_
 refine wl_nil ?_
 refine wc_seq (wc_region ?_)
 refine wd (does_build bu_Nd (Bld.one rfl rfl (by rw [Nd.len]; decide) (Nd.set_kind _ _) (Bld.one rfl rfl (by rw [Nd.len]; decide) (Nd.set_name _ _) Bld.nil))) ?_
 refine wd (does_build bu_Nd (Bld.one rfl rfl (by rw [Nd.len]; decide) (Nd.set_kind _ _) (Bld.one rfl rfl (by rw [Nd.len]; decide) (Nd.set_name _ _) Bld.nil))) ?_
 refine wd (does_build bu_Nd (Bld.one rfl rfl (by rw [Nd.len]; decide) (Nd.set_kind _ _) (Bld.one rfl rfl (by rw [Nd.len]; decide) (Nd.set_l _ _) (Bld.one rfl rfl (by rw [Nd.len]; decide) (Nd.set_r _ _) Bld.nil)))) ?_
 refine wd (does_build bu_Nd (Bld.one rfl rfl (by rw [Nd.len]; decide) (Nd.set_kind _ _) (Bld.one rfl rfl (by rw [Nd.len]; decide) (Nd.set_l _ _) (Bld.one rfl rfl (by rw [Nd.len]; decide) (Nd.set_r _ _) Bld.nil)))) ?_
 refine wd (does_build bu_Nd (Bld.one rfl rfl (by rw [Nd.len]; decide) (Nd.set_kind _ _) Bld.nil)) ?_
 refine wl_lits (C := Nd.C) (l := [{ Nd.z with kind := 1, name := (⟨#[112]⟩ : ByteArray) }, { Nd.z with kind := 1, name := (⟨#[113]⟩ : ByteArray) }, { Nd.z with kind := 3, l := 0, r := 1 }, { Nd.z with kind := 5, l := 2, r := 0 }, { Nd.z with kind := 2 }]) (vs := [.agg (Nd.C ({ Nd.z with kind := 1, name := (⟨#[112]⟩ : ByteArray) })).toArray, .agg (Nd.C ({ Nd.z with kind := 1, name := (⟨#[113]⟩ : ByteArray) })).toArray, .agg (Nd.C ({ Nd.z with kind := 3, l := 0, r := 1 })).toArray, .agg (Nd.C ({ Nd.z with kind := 5, l := 2, r := 0 })).toArray, .agg (Nd.C ({ Nd.z with kind := 2 })).toArray]) sl_L_api_Node el_Nd.zero rfl rfl (fun a _ => Nd.len a) (by decide) rfl (by decide) fun b2 w1 s3 hBw1 hw1 => ?_
 replace S : St A N w w1 [oS T_Nd 4 Nd.C s3 ([{ Nd.z with kind := 1, name := (⟨#[112]⟩ : ByteArray) }, { Nd.z with kind := 1, name := (⟨#[113]⟩ : ByteArray) }, { Nd.z with kind := 3, l := 0, r := 1 }, { Nd.z with kind := 5, l := 2, r := 0 }, { Nd.z with kind := 2 }])] [oEt] := S.lit hBw1 hw1 (by simp)
 obtain ⟨r4, er4, H⟩ := bind_ex H
 obtain ⟨B6, MB6, SB6, back⟩ := S.calln 0 ((.s 0 rfl .nil))
 refine wl_call (does_call ca_formula_From) (by decide) (formula_From_st SB6 er4) ?_
 rintro _ w5 ⟨a7, rfl, S2⟩
 replace S : St A N w w5 [oT a7 r4.1, oS T_Nd 4 Nd.C s3 ([{ Nd.z with kind := 1, name := (⟨#[112]⟩ : ByteArray) }, { Nd.z with kind := 1, name := (⟨#[113]⟩ : ByteArray) }, { Nd.z with kind := 3, l := 0, r := 1 }, { Nd.z with kind := 5, l := 2, r := 0 }, { Nd.z with kind := 2 }])] [oEt] := back _ _ _ _ S2 rfl
 clear back S2 SB6
 refine wd (does_mv_t rfl) ?_
 refine wd (does_extract rfl rfl) ?_
 refine wd (does_extract rfl rfl) ?_
 refine wd (does_as_p rfl) ?_
 refine wd (does_as_i rfl) ?_
 refine wl_nil ?_
 refine wc_seq (wc_region ?_)
 obtain ⟨r8, er8, H⟩ := bind_ex H
 obtain ⟨B10, MB10, SB10, back⟩ := S.sub [] [] [oT a7 r4.1, oS T_Nd 4 Nd.C s3 ([{ Nd.z with kind := 1, name := (⟨#[112]⟩ : ByteArray) }, { Nd.z with kind := 1, name := (⟨#[113]⟩ : ByteArray) }, { Nd.z with kind := 3, l := 0, r := 1 }, { Nd.z with kind := 5, l := 2, r := 0 }, { Nd.z with kind := 2 }])]
 refine wl_call (does_call ca_law13_v) (by decide) (law13_v_st SB10 er8) ?_
 rintro _ w9 ⟨s11, rfl, S2⟩
 replace S : St A N w w9 [oT a7 r4.1, oS T_Nd 4 Nd.C s3 ([{ Nd.z with kind := 1, name := (⟨#[112]⟩ : ByteArray) }, { Nd.z with kind := 1, name := (⟨#[113]⟩ : ByteArray) }, { Nd.z with kind := 3, l := 0, r := 1 }, { Nd.z with kind := 5, l := 2, r := 0 }, { Nd.z with kind := 2 }])] [oDTerm s11 r8.sub, oEt] := back _ _ _ _ _ S2 rfl rfl
 clear back S2 SB10
 refine wl_lits (C := Term.C) (l := [(⟨r8.kind, r8.name, r8.other, r8.form, s11⟩ : Term)]) (vs := [.agg (Term.C (⟨r8.kind, r8.name, r8.other, r8.form, s11⟩ : Term)).toArray]) sl_L_api_Term el_Term.zero rfl rfl (fun a _ => Term.len a) (by decide) rfl (by decide) fun b13 w12 s14 hBw12 hw12 => ?_
 replace S : St A N w w12 [oS T_Term 5 Term.C s14 ([(⟨r8.kind, r8.name, r8.other, r8.form, s11⟩ : Term)]), oT a7 r4.1, oS T_Nd 4 Nd.C s3 ([{ Nd.z with kind := 1, name := (⟨#[112]⟩ : ByteArray) }, { Nd.z with kind := 1, name := (⟨#[113]⟩ : ByteArray) }, { Nd.z with kind := 3, l := 0, r := 1 }, { Nd.z with kind := 5, l := 2, r := 0 }, { Nd.z with kind := 2 }])] [oDTerm s11 r8.sub, oEt] := S.lit hBw12 hw12 (by simp)
 replace S : St A N w w12 [oS T_Term 5 Term.C s14 ([(⟨r8.kind, r8.name, r8.other, r8.form, s11⟩ : Term)]), oT a7 r4.1, oS T_Nd 4 Nd.C s3 ([{ Nd.z with kind := 1, name := (⟨#[112]⟩ : ByteArray) }, { Nd.z with kind := 1, name := (⟨#[113]⟩ : ByteArray) }, { Nd.z with kind := 3, l := 0, r := 1 }, { Nd.z with kind := 5, l := 2, r := 0 }, { Nd.z with kind := 2 }])] [bigA fTerm ([] : List Term) ([] : List PTerm), oDTerm s11 r8.sub, oEt] := S.bigTm
 replace S : St A N w w12 [oS T_Term 5 Term.C s14 ([(⟨r8.kind, r8.name, r8.other, r8.form, s11⟩ : Term)]), oT a7 r4.1, oS T_Nd 4 Nd.C s3 ([{ Nd.z with kind := 1, name := (⟨#[112]⟩ : ByteArray) }, { Nd.z with kind := 1, name := (⟨#[113]⟩ : ByteArray) }, { Nd.z with kind := 3, l := 0, r := 1 }, { Nd.z with kind := 5, l := 2, r := 0 }, { Nd.z with kind := 2 }])] [bigA fTerm [(⟨r8.kind, r8.name, r8.other, r8.form, s11⟩ : Term)] [r8], oDTerm s11 r8.sub, oEt] := S.consTm (x := r8) 0
 replace S : St A N w w12 [oT a7 r4.1, oS T_Nd 4 Nd.C s3 ([{ Nd.z with kind := 1, name := (⟨#[112]⟩ : ByteArray) }, { Nd.z with kind := 1, name := (⟨#[113]⟩ : ByteArray) }, { Nd.z with kind := 3, l := 0, r := 1 }, { Nd.z with kind := 5, l := 2, r := 0 }, { Nd.z with kind := 2 }])] [oDTerm s14 ([r8]), bigA fTerm [(⟨r8.kind, r8.name, r8.other, r8.form, s11⟩ : Term)] [r8], oDTerm s11 r8.sub, oEt] := S.frzTm 0 0
 replace S : St A N w w12 [oT a7 r4.1, oS T_Nd 4 Nd.C s3 ([{ Nd.z with kind := 1, name := (⟨#[112]⟩ : ByteArray) }, { Nd.z with kind := 1, name := (⟨#[113]⟩ : ByteArray) }, { Nd.z with kind := 3, l := 0, r := 1 }, { Nd.z with kind := 5, l := 2, r := 0 }, { Nd.z with kind := 2 }])] [oDTerm s14 ([r8]), oDTerm s11 r8.sub, oEt] := S.zs [0, 2, 3]
 refine wd (Does.to (v' := .agg (Term.C (⟨5, ByteArray.empty, ByteArray.empty, 0, s14⟩ : Term)).toArray) (does_buildv (vs := [(0, .int .i64 5), (4, s14.v)]) bu_Term (consP rfl (consP rfl rfl)) (Bld.one rfl rfl (by rw [Term.len]; decide) (Term.set_kind _ _) (Bld.one rfl (SlV.one _ _ rfl) (by rw [Term.len]; decide) (Term.set_sub _ _) Bld.nil))) rfl) ?_
 refine wl_alloc ze_Term (by decide) fun b16 w15 hw15 => ?_
 replace S : St A N w w15 [oB b16 T_Term (Term.C (⟨0, ByteArray.empty, ByteArray.empty, 0, SlV.nil⟩ : Term)), oT a7 r4.1, oS T_Nd 4 Nd.C s3 ([{ Nd.z with kind := 1, name := (⟨#[112]⟩ : ByteArray) }, { Nd.z with kind := 1, name := (⟨#[113]⟩ : ByteArray) }, { Nd.z with kind := 3, l := 0, r := 1 }, { Nd.z with kind := 5, l := 2, r := 0 }, { Nd.z with kind := 2 }])] [oDTerm s14 ([r8]), oDTerm s11 r8.sub, oEt] := S.new hw15
 refine wl_store_agg ag_Term rfl rfl (S.blk 0) (Term.len _) (by rw [Term.len]; decide) (Term.one _) (store_all (Term.len _)) fun w17 B hw17 zw17 => ?_
 replace S : St A N w w17 [oB b16 T_Term (Term.C (⟨5, ByteArray.empty, ByteArray.empty, 0, s14⟩ : Term)), oT a7 r4.1, oS T_Nd 4 Nd.C s3 ([{ Nd.z with kind := 1, name := (⟨#[112]⟩ : ByteArray) }, { Nd.z with kind := 1, name := (⟨#[113]⟩ : ByteArray) }, { Nd.z with kind := 3, l := 0, r := 1 }, { Nd.z with kind := 5, l := 2, r := 0 }, { Nd.z with kind := 2 }])] [oDTerm s14 ([r8]), oDTerm s11 r8.sub, oEt] := S.store 0 B hw17
 clear B
 refine wl_nil ?_
 refine wc_seq (wc_region ?_)
 obtain ⟨r18, er18, H⟩ := bind_ex H
 obtain ⟨B20, MB20, SB20, back⟩ := S.sub [] [] [oB b16 T_Term (Term.C (⟨5, ByteArray.empty, ByteArray.empty, 0, s14⟩ : Term)), oT a7 r4.1, oS T_Nd 4 Nd.C s3 ([{ Nd.z with kind := 1, name := (⟨#[112]⟩ : ByteArray) }, { Nd.z with kind := 1, name := (⟨#[113]⟩ : ByteArray) }, { Nd.z with kind := 3, l := 0, r := 1 }, { Nd.z with kind := 5, l := 2, r := 0 }, { Nd.z with kind := 2 }])]
 refine wl_call (does_call ca_law13_v) (by decide) (law13_v_st SB20 er18) ?_
 rintro _ w19 ⟨s21, rfl, S2⟩
 replace S : St A N w w19 [oB b16 T_Term (Term.C (⟨5, ByteArray.empty, ByteArray.empty, 0, s14⟩ : Term)), oT a7 r4.1, oS T_Nd 4 Nd.C s3 ([{ Nd.z with kind := 1, name := (⟨#[112]⟩ : ByteArray) }, { Nd.z with kind := 1, name := (⟨#[113]⟩ : ByteArray) }, { Nd.z with kind := 3, l := 0, r := 1 }, { Nd.z with kind := 5, l := 2, r := 0 }, { Nd.z with kind := 2 }])] [oDTerm s21 r18.sub, oDTerm s14 ([r8]), oDTerm s11 r8.sub, oEt] := back _ _ _ _ _ S2 rfl rfl
 clear back S2 SB20
 refine wl_lits (C := Term.C) (l := [(⟨r18.kind, r18.name, r18.other, r18.form, s21⟩ : Term)]) (vs := [.agg (Term.C (⟨r18.kind, r18.name, r18.other, r18.form, s21⟩ : Term)).toArray]) sl_L_api_Term el_Term.zero rfl rfl (fun a _ => Term.len a) (by decide) rfl (by decide) fun b23 w22 s24 hBw22 hw22 => ?_
 replace S : St A N w w22 [oS T_Term 5 Term.C s24 ([(⟨r18.kind, r18.name, r18.other, r18.form, s21⟩ : Term)]), oB b16 T_Term (Term.C (⟨5, ByteArray.empty, ByteArray.empty, 0, s14⟩ : Term)), oT a7 r4.1, oS T_Nd 4 Nd.C s3 ([{ Nd.z with kind := 1, name := (⟨#[112]⟩ : ByteArray) }, { Nd.z with kind := 1, name := (⟨#[113]⟩ : ByteArray) }, { Nd.z with kind := 3, l := 0, r := 1 }, { Nd.z with kind := 5, l := 2, r := 0 }, { Nd.z with kind := 2 }])] [oDTerm s21 r18.sub, oDTerm s14 ([r8]), oDTerm s11 r8.sub, oEt] := S.lit hBw22 hw22 (by simp)
 replace S : St A N w w22 [oS T_Term 5 Term.C s24 ([(⟨r18.kind, r18.name, r18.other, r18.form, s21⟩ : Term)]), oB b16 T_Term (Term.C (⟨5, ByteArray.empty, ByteArray.empty, 0, s14⟩ : Term)), oT a7 r4.1, oS T_Nd 4 Nd.C s3 ([{ Nd.z with kind := 1, name := (⟨#[112]⟩ : ByteArray) }, { Nd.z with kind := 1, name := (⟨#[113]⟩ : ByteArray) }, { Nd.z with kind := 3, l := 0, r := 1 }, { Nd.z with kind := 5, l := 2, r := 0 }, { Nd.z with kind := 2 }])] [bigA fTerm ([] : List Term) ([] : List PTerm), oDTerm s21 r18.sub, oDTerm s14 ([r8]), oDTerm s11 r8.sub, oEt] := S.bigTm
 replace S : St A N w w22 [oS T_Term 5 Term.C s24 ([(⟨r18.kind, r18.name, r18.other, r18.form, s21⟩ : Term)]), oB b16 T_Term (Term.C (⟨5, ByteArray.empty, ByteArray.empty, 0, s14⟩ : Term)), oT a7 r4.1, oS T_Nd 4 Nd.C s3 ([{ Nd.z with kind := 1, name := (⟨#[112]⟩ : ByteArray) }, { Nd.z with kind := 1, name := (⟨#[113]⟩ : ByteArray) }, { Nd.z with kind := 3, l := 0, r := 1 }, { Nd.z with kind := 5, l := 2, r := 0 }, { Nd.z with kind := 2 }])] [bigA fTerm [(⟨r18.kind, r18.name, r18.other, r18.form, s21⟩ : Term)] [r18], oDTerm s21 r18.sub, oDTerm s14 ([r8]), oDTerm s11 r8.sub, oEt] := S.consTm (x := r18) 0
 replace S : St A N w w22 [oB b16 T_Term (Term.C (⟨5, ByteArray.empty, ByteArray.empty, 0, s14⟩ : Term)), oT a7 r4.1, oS T_Nd 4 Nd.C s3 ([{ Nd.z with kind := 1, name := (⟨#[112]⟩ : ByteArray) }, { Nd.z with kind := 1, name := (⟨#[113]⟩ : ByteArray) }, { Nd.z with kind := 3, l := 0, r := 1 }, { Nd.z with kind := 5, l := 2, r := 0 }, { Nd.z with kind := 2 }])] [oDTerm s24 ([r18]), bigA fTerm [(⟨r18.kind, r18.name, r18.other, r18.form, s21⟩ : Term)] [r18], oDTerm s21 r18.sub, oDTerm s14 ([r8]), oDTerm s11 r8.sub, oEt] := S.frzTm 0 0
 replace S : St A N w w22 [oB b16 T_Term (Term.C (⟨5, ByteArray.empty, ByteArray.empty, 0, s14⟩ : Term)), oT a7 r4.1, oS T_Nd 4 Nd.C s3 ([{ Nd.z with kind := 1, name := (⟨#[112]⟩ : ByteArray) }, { Nd.z with kind := 1, name := (⟨#[113]⟩ : ByteArray) }, { Nd.z with kind := 3, l := 0, r := 1 }, { Nd.z with kind := 5, l := 2, r := 0 }, { Nd.z with kind := 2 }])] [oDTerm s24 ([r18]), oDTerm s21 r18.sub, oDTerm s14 ([r8]), oDTerm s11 r8.sub, oEt] := S.zs [0, 2, 3, 4, 5]
 refine wd (Does.to (v' := .agg (Term.C (⟨6, ByteArray.empty, ByteArray.empty, 0, s24⟩ : Term)).toArray) (does_buildv (vs := [(0, .int .i64 6), (4, s24.v)]) bu_Term (consP rfl (consP rfl rfl)) (Bld.one rfl rfl (by rw [Term.len]; decide) (Term.set_kind _ _) (Bld.one rfl (SlV.one _ _ rfl) (by rw [Term.len]; decide) (Term.set_sub _ _) Bld.nil))) rfl) ?_
 refine wl_alloc ze_Term (by decide) fun b26 w25 hw25 => ?_
 replace S : St A N w w25 [oB b26 T_Term (Term.C (⟨0, ByteArray.empty, ByteArray.empty, 0, SlV.nil⟩ : Term)), oB b16 T_Term (Term.C (⟨5, ByteArray.empty, ByteArray.empty, 0, s14⟩ : Term)), oT a7 r4.1, oS T_Nd 4 Nd.C s3 ([{ Nd.z with kind := 1, name := (⟨#[112]⟩ : ByteArray) }, { Nd.z with kind := 1, name := (⟨#[113]⟩ : ByteArray) }, { Nd.z with kind := 3, l := 0, r := 1 }, { Nd.z with kind := 5, l := 2, r := 0 }, { Nd.z with kind := 2 }])] [oDTerm s24 ([r18]), oDTerm s21 r18.sub, oDTerm s14 ([r8]), oDTerm s11 r8.sub, oEt] := S.new hw25
 refine wl_store_agg ag_Term rfl rfl (S.blk 0) (Term.len _) (by rw [Term.len]; decide) (Term.one _) (store_all (Term.len _)) fun w27 B hw27 zw27 => ?_
 replace S : St A N w w27 [oB b26 T_Term (Term.C (⟨6, ByteArray.empty, ByteArray.empty, 0, s24⟩ : Term)), oB b16 T_Term (Term.C (⟨5, ByteArray.empty, ByteArray.empty, 0, s14⟩ : Term)), oT a7 r4.1, oS T_Nd 4 Nd.C s3 ([{ Nd.z with kind := 1, name := (⟨#[112]⟩ : ByteArray) }, { Nd.z with kind := 1, name := (⟨#[113]⟩ : ByteArray) }, { Nd.z with kind := 3, l := 0, r := 1 }, { Nd.z with kind := 5, l := 2, r := 0 }, { Nd.z with kind := 2 }])] [oDTerm s24 ([r18]), oDTerm s21 r18.sub, oDTerm s14 ([r8]), oDTerm s11 r8.sub, oEt] := S.store 0 B hw27
 clear B
 refine wl_nil ?_
 refine wc_seq (wc_region ?_)
 refine wd (does_mv_p rfl) ?_
 refine wd (does_load_agg ag_Term rfl ((S.blk 1).all _ (Term.len _)) (Term.len _)) ?_
 refine wl_lits (C := Term.C) (l := [(⟨5, ByteArray.empty, ByteArray.empty, 0, s14⟩ : Term)]) (vs := [.agg (Term.C (⟨5, ByteArray.empty, ByteArray.empty, 0, s14⟩ : Term)).toArray]) sl_L_api_Term el_Term.zero rfl rfl (fun a _ => Term.len a) (by decide) rfl (by decide) fun b29 w28 s30 hBw28 hw28 => ?_
 replace S : St A N w w28 [oS T_Term 5 Term.C s30 ([(⟨5, ByteArray.empty, ByteArray.empty, 0, s14⟩ : Term)]), oB b26 T_Term (Term.C (⟨6, ByteArray.empty, ByteArray.empty, 0, s24⟩ : Term)), oB b16 T_Term (Term.C (⟨5, ByteArray.empty, ByteArray.empty, 0, s14⟩ : Term)), oT a7 r4.1, oS T_Nd 4 Nd.C s3 ([{ Nd.z with kind := 1, name := (⟨#[112]⟩ : ByteArray) }, { Nd.z with kind := 1, name := (⟨#[113]⟩ : ByteArray) }, { Nd.z with kind := 3, l := 0, r := 1 }, { Nd.z with kind := 5, l := 2, r := 0 }, { Nd.z with kind := 2 }])] [oDTerm s24 ([r18]), oDTerm s21 r18.sub, oDTerm s14 ([r8]), oDTerm s11 r8.sub, oEt] := S.lit hBw28 hw28 (by simp)
 replace S : St A N w w28 [oS T_Term 5 Term.C s30 ([(⟨5, ByteArray.empty, ByteArray.empty, 0, s14⟩ : Term)]), oB b26 T_Term (Term.C (⟨6, ByteArray.empty, ByteArray.empty, 0, s24⟩ : Term)), oB b16 T_Term (Term.C (⟨5, ByteArray.empty, ByteArray.empty, 0, s14⟩ : Term)), oT a7 r4.1, oS T_Nd 4 Nd.C s3 ([{ Nd.z with kind := 1, name := (⟨#[112]⟩ : ByteArray) }, { Nd.z with kind := 1, name := (⟨#[113]⟩ : ByteArray) }, { Nd.z with kind := 3, l := 0, r := 1 }, { Nd.z with kind := 5, l := 2, r := 0 }, { Nd.z with kind := 2 }])] [bigA fTerm ([] : List Term) ([] : List PTerm), oDTerm s24 ([r18]), oDTerm s21 r18.sub, oDTerm s14 ([r8]), oDTerm s11 r8.sub, oEt] := S.bigTm
 replace S : St A N w w28 [oS T_Term 5 Term.C s30 ([(⟨5, ByteArray.empty, ByteArray.empty, 0, s14⟩ : Term)]), oB b26 T_Term (Term.C (⟨6, ByteArray.empty, ByteArray.empty, 0, s24⟩ : Term)), oB b16 T_Term (Term.C (⟨5, ByteArray.empty, ByteArray.empty, 0, s14⟩ : Term)), oT a7 r4.1, oS T_Nd 4 Nd.C s3 ([{ Nd.z with kind := 1, name := (⟨#[112]⟩ : ByteArray) }, { Nd.z with kind := 1, name := (⟨#[113]⟩ : ByteArray) }, { Nd.z with kind := 3, l := 0, r := 1 }, { Nd.z with kind := 5, l := 2, r := 0 }, { Nd.z with kind := 2 }])] [bigA fTerm [(⟨5, ByteArray.empty, ByteArray.empty, 0, s14⟩ : Term)] [(⟨5, ByteArray.empty, ByteArray.empty, 0, [r8]⟩ : PTerm)], oDTerm s24 ([r18]), oDTerm s21 r18.sub, oDTerm s14 ([r8]), oDTerm s11 r8.sub, oEt] := S.consTm (x := (⟨5, ByteArray.empty, ByteArray.empty, 0, [r8]⟩ : PTerm)) 2
 replace S : St A N w w28 [oB b26 T_Term (Term.C (⟨6, ByteArray.empty, ByteArray.empty, 0, s24⟩ : Term)), oB b16 T_Term (Term.C (⟨5, ByteArray.empty, ByteArray.empty, 0, s14⟩ : Term)), oT a7 r4.1, oS T_Nd 4 Nd.C s3 ([{ Nd.z with kind := 1, name := (⟨#[112]⟩ : ByteArray) }, { Nd.z with kind := 1, name := (⟨#[113]⟩ : ByteArray) }, { Nd.z with kind := 3, l := 0, r := 1 }, { Nd.z with kind := 5, l := 2, r := 0 }, { Nd.z with kind := 2 }])] [oDTerm s30 ([(⟨5, ByteArray.empty, ByteArray.empty, 0, [r8]⟩ : PTerm)]), bigA fTerm [(⟨5, ByteArray.empty, ByteArray.empty, 0, s14⟩ : Term)] [(⟨5, ByteArray.empty, ByteArray.empty, 0, [r8]⟩ : PTerm)], oDTerm s24 ([r18]), oDTerm s21 r18.sub, oDTerm s14 ([r8]), oDTerm s11 r8.sub, oEt] := S.frzTm 0 0
 replace S : St A N w w28 [oB b26 T_Term (Term.C (⟨6, ByteArray.empty, ByteArray.empty, 0, s24⟩ : Term)), oB b16 T_Term (Term.C (⟨5, ByteArray.empty, ByteArray.empty, 0, s14⟩ : Term)), oT a7 r4.1, oS T_Nd 4 Nd.C s3 ([{ Nd.z with kind := 1, name := (⟨#[112]⟩ : ByteArray) }, { Nd.z with kind := 1, name := (⟨#[113]⟩ : ByteArray) }, { Nd.z with kind := 3, l := 0, r := 1 }, { Nd.z with kind := 5, l := 2, r := 0 }, { Nd.z with kind := 2 }])] [oDTerm s30 ([(⟨5, ByteArray.empty, ByteArray.empty, 0, [r8]⟩ : PTerm)]), oDTerm s24 ([r18]), oDTerm s21 r18.sub, oDTerm s14 ([r8]), oDTerm s11 r8.sub, oEt] := S.zs [0, 2, 3, 4, 5, 6]
 refine wd (Does.to (v' := .agg (Term.C (⟨2, (⟨#[120]⟩ : ByteArray), ByteArray.empty, 0, s30⟩ : Term)).toArray) (does_buildv (vs := [(0, .int .i64 2), (1, .string (⟨#[120]⟩ : ByteArray)), (4, s30.v)]) bu_Term (consP rfl (consP rfl (consP rfl rfl))) (Bld.one rfl rfl (by rw [Term.len]; decide) (Term.set_kind _ _) (Bld.one rfl rfl (by rw [Term.len]; decide) (Term.set_name _ _) (Bld.one rfl (SlV.one _ _ rfl) (by rw [Term.len]; decide) (Term.set_sub _ _) Bld.nil)))) rfl) ?_
 replace S : St A N w w28 [oB b26 T_Term (Term.C (⟨6, ByteArray.empty, ByteArray.empty, 0, s24⟩ : Term)), oB b16 T_Term (Term.C (⟨5, ByteArray.empty, ByteArray.empty, 0, s14⟩ : Term)), oT a7 r4.1, oS T_Nd 4 Nd.C s3 ([{ Nd.z with kind := 1, name := (⟨#[112]⟩ : ByteArray) }, { Nd.z with kind := 1, name := (⟨#[113]⟩ : ByteArray) }, { Nd.z with kind := 3, l := 0, r := 1 }, { Nd.z with kind := 5, l := 2, r := 0 }, { Nd.z with kind := 2 }])] [fS 2 Hyp.C SlV.nil ([]), oDTerm s30 ([(⟨5, ByteArray.empty, ByteArray.empty, 0, [r8]⟩ : PTerm)]), oDTerm s24 ([r18]), oDTerm s21 r18.sub, oDTerm s14 ([r8]), oDTerm s11 r8.sub, oEt] := S.nilZ 2 Hyp.C
 obtain ⟨r31, er31, H⟩ := bind_ex H
 obtain ⟨B33, MB33, SB33, back⟩ := S.calln 0 ((.o 2 rfl (.z 0 rfl (.z 1 rfl (.z 6 rfl .nil)))))
 refine wl_call (does_callg ca_types_Check (cons2 rfl (cons2 SlV.nil_eq (cons2 rfl (cons2 rfl rfl))))) (by decide) (types_Check_st (a2 := (⟨2, (⟨#[120]⟩ : ByteArray), ByteArray.empty, 0, [(⟨5, ByteArray.empty, ByteArray.empty, 0, [r8]⟩ : PTerm)]⟩ : PTerm)) SB33 er31) ?_
 rintro _ w32 ⟨rfl, S2⟩
 replace S : St A N w w32 [oB b26 T_Term (Term.C (⟨6, ByteArray.empty, ByteArray.empty, 0, s24⟩ : Term)), oB b16 T_Term (Term.C (⟨5, ByteArray.empty, ByteArray.empty, 0, s14⟩ : Term)), oT a7 r4.1, oS T_Nd 4 Nd.C s3 ([{ Nd.z with kind := 1, name := (⟨#[112]⟩ : ByteArray) }, { Nd.z with kind := 1, name := (⟨#[113]⟩ : ByteArray) }, { Nd.z with kind := 3, l := 0, r := 1 }, { Nd.z with kind := 5, l := 2, r := 0 }, { Nd.z with kind := 2 }])] [fS 2 Hyp.C SlV.nil ([]), oDTerm s30 ([(⟨5, ByteArray.empty, ByteArray.empty, 0, [r8]⟩ : PTerm)]), oDTerm s24 ([r18]), oDTerm s21 r18.sub, oDTerm s14 ([r8]), oDTerm s11 r8.sub, oEt] := back _ _ _ _ S2 rfl
 clear back S2 SB33
 refine wd (does_as_i rfl) ?_
 refine wl_nil ?_
 refine wc_seq (wc_region ?_)
 refine wd (does_mv_p rfl) ?_
 refine wd (does_load_agg ag_Term rfl ((S.blk 0).all _ (Term.len _)) (Term.len _)) ?_
 refine wl_lits (C := Term.C) (l := [(⟨6, ByteArray.empty, ByteArray.empty, 0, s24⟩ : Term)]) (vs := [.agg (Term.C (⟨6, ByteArray.empty, ByteArray.empty, 0, s24⟩ : Term)).toArray]) sl_L_api_Term el_Term.zero rfl rfl (fun a _ => Term.len a) (by decide) rfl (by decide) fun b35 w34 s36 hBw34 hw34 => ?_
 replace S : St A N w w34 [oS T_Term 5 Term.C s36 ([(⟨6, ByteArray.empty, ByteArray.empty, 0, s24⟩ : Term)]), oB b26 T_Term (Term.C (⟨6, ByteArray.empty, ByteArray.empty, 0, s24⟩ : Term)), oB b16 T_Term (Term.C (⟨5, ByteArray.empty, ByteArray.empty, 0, s14⟩ : Term)), oT a7 r4.1, oS T_Nd 4 Nd.C s3 ([{ Nd.z with kind := 1, name := (⟨#[112]⟩ : ByteArray) }, { Nd.z with kind := 1, name := (⟨#[113]⟩ : ByteArray) }, { Nd.z with kind := 3, l := 0, r := 1 }, { Nd.z with kind := 5, l := 2, r := 0 }, { Nd.z with kind := 2 }])] [fS 2 Hyp.C SlV.nil ([]), oDTerm s30 ([(⟨5, ByteArray.empty, ByteArray.empty, 0, [r8]⟩ : PTerm)]), oDTerm s24 ([r18]), oDTerm s21 r18.sub, oDTerm s14 ([r8]), oDTerm s11 r8.sub, oEt] := S.lit hBw34 hw34 (by simp)
 replace S : St A N w w34 [oS T_Term 5 Term.C s36 ([(⟨6, ByteArray.empty, ByteArray.empty, 0, s24⟩ : Term)]), oB b26 T_Term (Term.C (⟨6, ByteArray.empty, ByteArray.empty, 0, s24⟩ : Term)), oB b16 T_Term (Term.C (⟨5, ByteArray.empty, ByteArray.empty, 0, s14⟩ : Term)), oT a7 r4.1, oS T_Nd 4 Nd.C s3 ([{ Nd.z with kind := 1, name := (⟨#[112]⟩ : ByteArray) }, { Nd.z with kind := 1, name := (⟨#[113]⟩ : ByteArray) }, { Nd.z with kind := 3, l := 0, r := 1 }, { Nd.z with kind := 5, l := 2, r := 0 }, { Nd.z with kind := 2 }])] [bigA fTerm ([] : List Term) ([] : List PTerm), fS 2 Hyp.C SlV.nil ([]), oDTerm s30 ([(⟨5, ByteArray.empty, ByteArray.empty, 0, [r8]⟩ : PTerm)]), oDTerm s24 ([r18]), oDTerm s21 r18.sub, oDTerm s14 ([r8]), oDTerm s11 r8.sub, oEt] := S.bigTm
 replace S : St A N w w34 [oS T_Term 5 Term.C s36 ([(⟨6, ByteArray.empty, ByteArray.empty, 0, s24⟩ : Term)]), oB b26 T_Term (Term.C (⟨6, ByteArray.empty, ByteArray.empty, 0, s24⟩ : Term)), oB b16 T_Term (Term.C (⟨5, ByteArray.empty, ByteArray.empty, 0, s14⟩ : Term)), oT a7 r4.1, oS T_Nd 4 Nd.C s3 ([{ Nd.z with kind := 1, name := (⟨#[112]⟩ : ByteArray) }, { Nd.z with kind := 1, name := (⟨#[113]⟩ : ByteArray) }, { Nd.z with kind := 3, l := 0, r := 1 }, { Nd.z with kind := 5, l := 2, r := 0 }, { Nd.z with kind := 2 }])] [bigA fTerm [(⟨6, ByteArray.empty, ByteArray.empty, 0, s24⟩ : Term)] [(⟨6, ByteArray.empty, ByteArray.empty, 0, [r18]⟩ : PTerm)], fS 2 Hyp.C SlV.nil ([]), oDTerm s30 ([(⟨5, ByteArray.empty, ByteArray.empty, 0, [r8]⟩ : PTerm)]), oDTerm s24 ([r18]), oDTerm s21 r18.sub, oDTerm s14 ([r8]), oDTerm s11 r8.sub, oEt] := S.consTm (x := (⟨6, ByteArray.empty, ByteArray.empty, 0, [r18]⟩ : PTerm)) 2
 replace S : St A N w w34 [oB b26 T_Term (Term.C (⟨6, ByteArray.empty, ByteArray.empty, 0, s24⟩ : Term)), oB b16 T_Term (Term.C (⟨5, ByteArray.empty, ByteArray.empty, 0, s14⟩ : Term)), oT a7 r4.1, oS T_Nd 4 Nd.C s3 ([{ Nd.z with kind := 1, name := (⟨#[112]⟩ : ByteArray) }, { Nd.z with kind := 1, name := (⟨#[113]⟩ : ByteArray) }, { Nd.z with kind := 3, l := 0, r := 1 }, { Nd.z with kind := 5, l := 2, r := 0 }, { Nd.z with kind := 2 }])] [oDTerm s36 ([(⟨6, ByteArray.empty, ByteArray.empty, 0, [r18]⟩ : PTerm)]), bigA fTerm [(⟨6, ByteArray.empty, ByteArray.empty, 0, s24⟩ : Term)] [(⟨6, ByteArray.empty, ByteArray.empty, 0, [r18]⟩ : PTerm)], fS 2 Hyp.C SlV.nil ([]), oDTerm s30 ([(⟨5, ByteArray.empty, ByteArray.empty, 0, [r8]⟩ : PTerm)]), oDTerm s24 ([r18]), oDTerm s21 r18.sub, oDTerm s14 ([r8]), oDTerm s11 r8.sub, oEt] := S.frzTm 0 0
 replace S : St A N w w34 [oB b26 T_Term (Term.C (⟨6, ByteArray.empty, ByteArray.empty, 0, s24⟩ : Term)), oB b16 T_Term (Term.C (⟨5, ByteArray.empty, ByteArray.empty, 0, s14⟩ : Term)), oT a7 r4.1, oS T_Nd 4 Nd.C s3 ([{ Nd.z with kind := 1, name := (⟨#[112]⟩ : ByteArray) }, { Nd.z with kind := 1, name := (⟨#[113]⟩ : ByteArray) }, { Nd.z with kind := 3, l := 0, r := 1 }, { Nd.z with kind := 5, l := 2, r := 0 }, { Nd.z with kind := 2 }])] [oDTerm s36 ([(⟨6, ByteArray.empty, ByteArray.empty, 0, [r18]⟩ : PTerm)]), fS 2 Hyp.C SlV.nil ([]), oDTerm s30 ([(⟨5, ByteArray.empty, ByteArray.empty, 0, [r8]⟩ : PTerm)]), oDTerm s24 ([r18]), oDTerm s21 r18.sub, oDTerm s14 ([r8]), oDTerm s11 r8.sub, oEt] := S.zs [0, 2, 3, 4, 5, 6, 7, 8]
 refine wd (Does.to (v' := .agg (Term.C (⟨2, (⟨#[120]⟩ : ByteArray), ByteArray.empty, 0, s36⟩ : Term)).toArray) (does_buildv (vs := [(0, .int .i64 2), (1, .string (⟨#[120]⟩ : ByteArray)), (4, s36.v)]) bu_Term (consP rfl (consP rfl (consP rfl rfl))) (Bld.one rfl rfl (by rw [Term.len]; decide) (Term.set_kind _ _) (Bld.one rfl rfl (by rw [Term.len]; decide) (Term.set_name _ _) (Bld.one rfl (SlV.one _ _ rfl) (by rw [Term.len]; decide) (Term.set_sub _ _) Bld.nil)))) rfl) ?_
 replace S : St A N w w34 [oB b26 T_Term (Term.C (⟨6, ByteArray.empty, ByteArray.empty, 0, s24⟩ : Term)), oB b16 T_Term (Term.C (⟨5, ByteArray.empty, ByteArray.empty, 0, s14⟩ : Term)), oT a7 r4.1, oS T_Nd 4 Nd.C s3 ([{ Nd.z with kind := 1, name := (⟨#[112]⟩ : ByteArray) }, { Nd.z with kind := 1, name := (⟨#[113]⟩ : ByteArray) }, { Nd.z with kind := 3, l := 0, r := 1 }, { Nd.z with kind := 5, l := 2, r := 0 }, { Nd.z with kind := 2 }])] [fS 2 Hyp.C SlV.nil ([]), oDTerm s36 ([(⟨6, ByteArray.empty, ByteArray.empty, 0, [r18]⟩ : PTerm)]), fS 2 Hyp.C SlV.nil ([]), oDTerm s30 ([(⟨5, ByteArray.empty, ByteArray.empty, 0, [r8]⟩ : PTerm)]), oDTerm s24 ([r18]), oDTerm s21 r18.sub, oDTerm s14 ([r8]), oDTerm s11 r8.sub, oEt] := S.nilZ 2 Hyp.C
 obtain ⟨r37, er37, H⟩ := bind_ex H
 obtain ⟨B39, MB39, SB39, back⟩ := S.calln 0 ((.o 2 rfl (.z 0 rfl (.z 1 rfl (.z 8 rfl .nil)))))
 refine wl_call (does_callg ca_types_Where (cons2 rfl (cons2 SlV.nil_eq (cons2 rfl (cons2 rfl rfl))))) (by decide) (types_Where_st (a2 := (⟨2, (⟨#[120]⟩ : ByteArray), ByteArray.empty, 0, [(⟨6, ByteArray.empty, ByteArray.empty, 0, [r18]⟩ : PTerm)]⟩ : PTerm)) SB39 er37) ?_
 rintro _ w38 ⟨s40, rfl, S2⟩
 replace S : St A N w w38 [oS T_int 1 IC s40 r37.1, oB b26 T_Term (Term.C (⟨6, ByteArray.empty, ByteArray.empty, 0, s24⟩ : Term)), oB b16 T_Term (Term.C (⟨5, ByteArray.empty, ByteArray.empty, 0, s14⟩ : Term)), oT a7 r4.1, oS T_Nd 4 Nd.C s3 ([{ Nd.z with kind := 1, name := (⟨#[112]⟩ : ByteArray) }, { Nd.z with kind := 1, name := (⟨#[113]⟩ : ByteArray) }, { Nd.z with kind := 3, l := 0, r := 1 }, { Nd.z with kind := 5, l := 2, r := 0 }, { Nd.z with kind := 2 }])] [fS 2 Hyp.C SlV.nil ([]), oDTerm s36 ([(⟨6, ByteArray.empty, ByteArray.empty, 0, [r18]⟩ : PTerm)]), fS 2 Hyp.C SlV.nil ([]), oDTerm s30 ([(⟨5, ByteArray.empty, ByteArray.empty, 0, [r8]⟩ : PTerm)]), oDTerm s24 ([r18]), oDTerm s21 r18.sub, oDTerm s14 ([r8]), oDTerm s11 r8.sub, oEt] := back _ _ _ _ S2 rfl
 clear back S2 SB39
 refine wd (does_mv_t rfl) ?_
 refine wd (does_extract rfl rfl) ?_
 refine wd (does_extract rfl rfl) ?_
 refine wd (does_as_l rfl) ?_
 refine wd (does_as_i rfl) ?_
 refine wl_nil ?_
 refine wc_seq (wc_region ?_)
 refine wd (does_mv_p rfl) ?_
 refine wd (does_build bu_Hyp (Bld.one rfl rfl (by rw [Hyp.len]; decide) (Hyp.set_name _ _) (Bld.one rfl rfl (by rw [Hyp.len]; decide) (Hyp.set_form _ _) Bld.nil))) ?_
 refine wl_lits (C := Hyp.C) (l := [(⟨(⟨#[120]⟩ : ByteArray), 2⟩ : Hyp)]) (vs := [.agg (Hyp.C (⟨(⟨#[120]⟩ : ByteArray), 2⟩ : Hyp)).toArray]) sl_L_api_Hyp el_Hyp.zero rfl rfl (fun a _ => Hyp.len a) (by decide) rfl (by decide) fun b42 w41 s43 hBw41 hw41 => ?_
 replace S : St A N w w41 [oS T_Hyp 2 Hyp.C s43 ([(⟨(⟨#[120]⟩ : ByteArray), 2⟩ : Hyp)]), oS T_int 1 IC s40 r37.1, oB b26 T_Term (Term.C (⟨6, ByteArray.empty, ByteArray.empty, 0, s24⟩ : Term)), oB b16 T_Term (Term.C (⟨5, ByteArray.empty, ByteArray.empty, 0, s14⟩ : Term)), oT a7 r4.1, oS T_Nd 4 Nd.C s3 ([{ Nd.z with kind := 1, name := (⟨#[112]⟩ : ByteArray) }, { Nd.z with kind := 1, name := (⟨#[113]⟩ : ByteArray) }, { Nd.z with kind := 3, l := 0, r := 1 }, { Nd.z with kind := 5, l := 2, r := 0 }, { Nd.z with kind := 2 }])] [fS 2 Hyp.C SlV.nil ([]), oDTerm s36 ([(⟨6, ByteArray.empty, ByteArray.empty, 0, [r18]⟩ : PTerm)]), fS 2 Hyp.C SlV.nil ([]), oDTerm s30 ([(⟨5, ByteArray.empty, ByteArray.empty, 0, [r8]⟩ : PTerm)]), oDTerm s24 ([r18]), oDTerm s21 r18.sub, oDTerm s14 ([r8]), oDTerm s11 r8.sub, oEt] := S.lit hBw41 hw41 (by simp)
 refine wd (does_load_agg ag_Term rfl ((S.blk 2).all _ (Term.len _)) (Term.len _)) ?_
 obtain ⟨r44, er44, H⟩ := bind_ex H
 obtain ⟨B46, MB46, SB46, back⟩ := S.calln 0 ((.o 4 rfl (.s 0 rfl (.z 4 rfl (.z 8 rfl .nil)))))
 refine wl_call (does_call ca_types_Infer) (by decide) (types_Infer_st (a2 := (⟨6, ByteArray.empty, ByteArray.empty, 0, [r18]⟩ : PTerm)) SB46 er44) ?_
 rintro _ w45 ⟨rfl, S2⟩
 replace S : St A N w w45 [oS T_Hyp 2 Hyp.C s43 ([(⟨(⟨#[120]⟩ : ByteArray), 2⟩ : Hyp)]), oS T_int 1 IC s40 r37.1, oB b26 T_Term (Term.C (⟨6, ByteArray.empty, ByteArray.empty, 0, s24⟩ : Term)), oB b16 T_Term (Term.C (⟨5, ByteArray.empty, ByteArray.empty, 0, s14⟩ : Term)), oT a7 r4.1, oS T_Nd 4 Nd.C s3 ([{ Nd.z with kind := 1, name := (⟨#[112]⟩ : ByteArray) }, { Nd.z with kind := 1, name := (⟨#[113]⟩ : ByteArray) }, { Nd.z with kind := 3, l := 0, r := 1 }, { Nd.z with kind := 5, l := 2, r := 0 }, { Nd.z with kind := 2 }])] [fS 2 Hyp.C SlV.nil ([]), oDTerm s36 ([(⟨6, ByteArray.empty, ByteArray.empty, 0, [r18]⟩ : PTerm)]), fS 2 Hyp.C SlV.nil ([]), oDTerm s30 ([(⟨5, ByteArray.empty, ByteArray.empty, 0, [r8]⟩ : PTerm)]), oDTerm s24 ([r18]), oDTerm s21 r18.sub, oDTerm s14 ([r8]), oDTerm s11 r8.sub, oEt] := back _ _ _ _ S2 rfl
 clear back S2 SB46
 refine wd (does_mv_t rfl) ?_
 refine wd (does_extract rfl rfl) ?_
 refine wd (does_extract rfl rfl) ?_
 refine wd (does_as_i rfl) ?_
 refine wd (does_as_i rfl) ?_
 refine wl_nil ?_
 refine wc_seq (wc_region ?_)
 refine wd (does_mv_p rfl) ?_
 obtain ⟨r47, er47, H⟩ := bind_ex H
 obtain ⟨B49, MB49, SB49, back⟩ := S.sub [] [] [oS T_Hyp 2 Hyp.C s43 ([(⟨(⟨#[120]⟩ : ByteArray), 2⟩ : Hyp)]), oS T_int 1 IC s40 r37.1, oB b26 T_Term (Term.C (⟨6, ByteArray.empty, ByteArray.empty, 0, s24⟩ : Term)), oB b16 T_Term (Term.C (⟨5, ByteArray.empty, ByteArray.empty, 0, s14⟩ : Term)), oT a7 r4.1, oS T_Nd 4 Nd.C s3 ([{ Nd.z with kind := 1, name := (⟨#[112]⟩ : ByteArray) }, { Nd.z with kind := 1, name := (⟨#[113]⟩ : ByteArray) }, { Nd.z with kind := 3, l := 0, r := 1 }, { Nd.z with kind := 5, l := 2, r := 0 }, { Nd.z with kind := 2 }])]
 refine wl_call (does_call ca_law13_v) (by decide) (law13_v_st SB49 er47) ?_
 rintro _ w48 ⟨s50, rfl, S2⟩
 replace S : St A N w w48 [oS T_Hyp 2 Hyp.C s43 ([(⟨(⟨#[120]⟩ : ByteArray), 2⟩ : Hyp)]), oS T_int 1 IC s40 r37.1, oB b26 T_Term (Term.C (⟨6, ByteArray.empty, ByteArray.empty, 0, s24⟩ : Term)), oB b16 T_Term (Term.C (⟨5, ByteArray.empty, ByteArray.empty, 0, s14⟩ : Term)), oT a7 r4.1, oS T_Nd 4 Nd.C s3 ([{ Nd.z with kind := 1, name := (⟨#[112]⟩ : ByteArray) }, { Nd.z with kind := 1, name := (⟨#[113]⟩ : ByteArray) }, { Nd.z with kind := 3, l := 0, r := 1 }, { Nd.z with kind := 5, l := 2, r := 0 }, { Nd.z with kind := 2 }])] [oDTerm s50 r47.sub, fS 2 Hyp.C SlV.nil ([]), oDTerm s36 ([(⟨6, ByteArray.empty, ByteArray.empty, 0, [r18]⟩ : PTerm)]), fS 2 Hyp.C SlV.nil ([]), oDTerm s30 ([(⟨5, ByteArray.empty, ByteArray.empty, 0, [r8]⟩ : PTerm)]), oDTerm s24 ([r18]), oDTerm s21 r18.sub, oDTerm s14 ([r8]), oDTerm s11 r8.sub, oEt] := back _ _ _ _ _ S2 rfl rfl
 clear back S2 SB49
 replace S : St A N w w48 [oS T_Hyp 2 Hyp.C s43 ([(⟨(⟨#[120]⟩ : ByteArray), 2⟩ : Hyp)]), oS T_int 1 IC s40 r37.1, oB b26 T_Term (Term.C (⟨6, ByteArray.empty, ByteArray.empty, 0, s24⟩ : Term)), oB b16 T_Term (Term.C (⟨5, ByteArray.empty, ByteArray.empty, 0, s14⟩ : Term)), oT a7 r4.1, oS T_Nd 4 Nd.C s3 ([{ Nd.z with kind := 1, name := (⟨#[112]⟩ : ByteArray) }, { Nd.z with kind := 1, name := (⟨#[113]⟩ : ByteArray) }, { Nd.z with kind := 3, l := 0, r := 1 }, { Nd.z with kind := 5, l := 2, r := 0 }, { Nd.z with kind := 2 }])] [fS 2 Hyp.C SlV.nil ([]), oDTerm s50 r47.sub, fS 2 Hyp.C SlV.nil ([]), oDTerm s36 ([(⟨6, ByteArray.empty, ByteArray.empty, 0, [r18]⟩ : PTerm)]), fS 2 Hyp.C SlV.nil ([]), oDTerm s30 ([(⟨5, ByteArray.empty, ByteArray.empty, 0, [r8]⟩ : PTerm)]), oDTerm s24 ([r18]), oDTerm s21 r18.sub, oDTerm s14 ([r8]), oDTerm s11 r8.sub, oEt] := S.nilZ 2 Hyp.C
 obtain ⟨r51, er51, H⟩ := bind_ex H
 obtain ⟨B53, MB53, SB53, back⟩ := S.calln 0 ((.o 4 rfl (.z 0 rfl (.z 1 rfl (.z 10 rfl .nil)))))
 refine wl_call (does_callg ca_types_Infer (cons2 rfl (cons2 SlV.nil_eq (cons2 rfl rfl)))) (by decide) (types_Infer_st (a2 := r47) SB53 er51) ?_
 rintro _ w52 ⟨rfl, S2⟩
 replace S : St A N w w52 [oS T_Hyp 2 Hyp.C s43 ([(⟨(⟨#[120]⟩ : ByteArray), 2⟩ : Hyp)]), oS T_int 1 IC s40 r37.1, oB b26 T_Term (Term.C (⟨6, ByteArray.empty, ByteArray.empty, 0, s24⟩ : Term)), oB b16 T_Term (Term.C (⟨5, ByteArray.empty, ByteArray.empty, 0, s14⟩ : Term)), oT a7 r4.1, oS T_Nd 4 Nd.C s3 ([{ Nd.z with kind := 1, name := (⟨#[112]⟩ : ByteArray) }, { Nd.z with kind := 1, name := (⟨#[113]⟩ : ByteArray) }, { Nd.z with kind := 3, l := 0, r := 1 }, { Nd.z with kind := 5, l := 2, r := 0 }, { Nd.z with kind := 2 }])] [fS 2 Hyp.C SlV.nil ([]), oDTerm s50 r47.sub, fS 2 Hyp.C SlV.nil ([]), oDTerm s36 ([(⟨6, ByteArray.empty, ByteArray.empty, 0, [r18]⟩ : PTerm)]), fS 2 Hyp.C SlV.nil ([]), oDTerm s30 ([(⟨5, ByteArray.empty, ByteArray.empty, 0, [r8]⟩ : PTerm)]), oDTerm s24 ([r18]), oDTerm s21 r18.sub, oDTerm s14 ([r8]), oDTerm s11 r8.sub, oEt] := back _ _ _ _ S2 rfl
 clear back S2 SB53
 refine wd (does_mv_t rfl) ?_
 refine wd (does_extract rfl rfl) ?_
 refine wd (does_extract rfl rfl) ?_
 refine wd (does_as_i rfl) ?_
 refine wd (does_as_i rfl) ?_
 refine wl_nil ?_
 refine wc_seq (wc_region ?_)
 refine wd (does_mv_p rfl) ?_
 obtain ⟨r54, er54, H⟩ := bind_ex H
 obtain ⟨B56, MB56, SB56, back⟩ := S.sub [] [] [oS T_Hyp 2 Hyp.C s43 ([(⟨(⟨#[120]⟩ : ByteArray), 2⟩ : Hyp)]), oS T_int 1 IC s40 r37.1, oB b26 T_Term (Term.C (⟨6, ByteArray.empty, ByteArray.empty, 0, s24⟩ : Term)), oB b16 T_Term (Term.C (⟨5, ByteArray.empty, ByteArray.empty, 0, s14⟩ : Term)), oT a7 r4.1, oS T_Nd 4 Nd.C s3 ([{ Nd.z with kind := 1, name := (⟨#[112]⟩ : ByteArray) }, { Nd.z with kind := 1, name := (⟨#[113]⟩ : ByteArray) }, { Nd.z with kind := 3, l := 0, r := 1 }, { Nd.z with kind := 5, l := 2, r := 0 }, { Nd.z with kind := 2 }])]
 refine wl_call (does_call ca_law13_v) (by decide) (law13_v_st SB56 er54) ?_
 rintro _ w55 ⟨s57, rfl, S2⟩
 replace S : St A N w w55 [oS T_Hyp 2 Hyp.C s43 ([(⟨(⟨#[120]⟩ : ByteArray), 2⟩ : Hyp)]), oS T_int 1 IC s40 r37.1, oB b26 T_Term (Term.C (⟨6, ByteArray.empty, ByteArray.empty, 0, s24⟩ : Term)), oB b16 T_Term (Term.C (⟨5, ByteArray.empty, ByteArray.empty, 0, s14⟩ : Term)), oT a7 r4.1, oS T_Nd 4 Nd.C s3 ([{ Nd.z with kind := 1, name := (⟨#[112]⟩ : ByteArray) }, { Nd.z with kind := 1, name := (⟨#[113]⟩ : ByteArray) }, { Nd.z with kind := 3, l := 0, r := 1 }, { Nd.z with kind := 5, l := 2, r := 0 }, { Nd.z with kind := 2 }])] [oDTerm s57 r54.sub, fS 2 Hyp.C SlV.nil ([]), oDTerm s50 r47.sub, fS 2 Hyp.C SlV.nil ([]), oDTerm s36 ([(⟨6, ByteArray.empty, ByteArray.empty, 0, [r18]⟩ : PTerm)]), fS 2 Hyp.C SlV.nil ([]), oDTerm s30 ([(⟨5, ByteArray.empty, ByteArray.empty, 0, [r8]⟩ : PTerm)]), oDTerm s24 ([r18]), oDTerm s21 r18.sub, oDTerm s14 ([r8]), oDTerm s11 r8.sub, oEt] := back _ _ _ _ _ S2 rfl rfl
 clear back S2 SB56
 refine wl_lits (C := Term.C) (l := [(⟨r54.kind, r54.name, r54.other, r54.form, s57⟩ : Term)]) (vs := [.agg (Term.C (⟨r54.kind, r54.name, r54.other, r54.form, s57⟩ : Term)).toArray]) sl_L_api_Term el_Term.zero rfl rfl (fun a _ => Term.len a) (by decide) rfl (by decide) fun b59 w58 s60 hBw58 hw58 => ?_
 replace S : St A N w w58 [oS T_Term 5 Term.C s60 ([(⟨r54.kind, r54.name, r54.other, r54.form, s57⟩ : Term)]), oS T_Hyp 2 Hyp.C s43 ([(⟨(⟨#[120]⟩ : ByteArray), 2⟩ : Hyp)]), oS T_int 1 IC s40 r37.1, oB b26 T_Term (Term.C (⟨6, ByteArray.empty, ByteArray.empty, 0, s24⟩ : Term)), oB b16 T_Term (Term.C (⟨5, ByteArray.empty, ByteArray.empty, 0, s14⟩ : Term)), oT a7 r4.1, oS T_Nd 4 Nd.C s3 ([{ Nd.z with kind := 1, name := (⟨#[112]⟩ : ByteArray) }, { Nd.z with kind := 1, name := (⟨#[113]⟩ : ByteArray) }, { Nd.z with kind := 3, l := 0, r := 1 }, { Nd.z with kind := 5, l := 2, r := 0 }, { Nd.z with kind := 2 }])] [oDTerm s57 r54.sub, fS 2 Hyp.C SlV.nil ([]), oDTerm s50 r47.sub, fS 2 Hyp.C SlV.nil ([]), oDTerm s36 ([(⟨6, ByteArray.empty, ByteArray.empty, 0, [r18]⟩ : PTerm)]), fS 2 Hyp.C SlV.nil ([]), oDTerm s30 ([(⟨5, ByteArray.empty, ByteArray.empty, 0, [r8]⟩ : PTerm)]), oDTerm s24 ([r18]), oDTerm s21 r18.sub, oDTerm s14 ([r8]), oDTerm s11 r8.sub, oEt] := S.lit hBw58 hw58 (by simp)
 replace S : St A N w w58 [oS T_Term 5 Term.C s60 ([(⟨r54.kind, r54.name, r54.other, r54.form, s57⟩ : Term)]), oS T_Hyp 2 Hyp.C s43 ([(⟨(⟨#[120]⟩ : ByteArray), 2⟩ : Hyp)]), oS T_int 1 IC s40 r37.1, oB b26 T_Term (Term.C (⟨6, ByteArray.empty, ByteArray.empty, 0, s24⟩ : Term)), oB b16 T_Term (Term.C (⟨5, ByteArray.empty, ByteArray.empty, 0, s14⟩ : Term)), oT a7 r4.1, oS T_Nd 4 Nd.C s3 ([{ Nd.z with kind := 1, name := (⟨#[112]⟩ : ByteArray) }, { Nd.z with kind := 1, name := (⟨#[113]⟩ : ByteArray) }, { Nd.z with kind := 3, l := 0, r := 1 }, { Nd.z with kind := 5, l := 2, r := 0 }, { Nd.z with kind := 2 }])] [bigA fTerm ([] : List Term) ([] : List PTerm), oDTerm s57 r54.sub, fS 2 Hyp.C SlV.nil ([]), oDTerm s50 r47.sub, fS 2 Hyp.C SlV.nil ([]), oDTerm s36 ([(⟨6, ByteArray.empty, ByteArray.empty, 0, [r18]⟩ : PTerm)]), fS 2 Hyp.C SlV.nil ([]), oDTerm s30 ([(⟨5, ByteArray.empty, ByteArray.empty, 0, [r8]⟩ : PTerm)]), oDTerm s24 ([r18]), oDTerm s21 r18.sub, oDTerm s14 ([r8]), oDTerm s11 r8.sub, oEt] := S.bigTm
 replace S : St A N w w58 [oS T_Term 5 Term.C s60 ([(⟨r54.kind, r54.name, r54.other, r54.form, s57⟩ : Term)]), oS T_Hyp 2 Hyp.C s43 ([(⟨(⟨#[120]⟩ : ByteArray), 2⟩ : Hyp)]), oS T_int 1 IC s40 r37.1, oB b26 T_Term (Term.C (⟨6, ByteArray.empty, ByteArray.empty, 0, s24⟩ : Term)), oB b16 T_Term (Term.C (⟨5, ByteArray.empty, ByteArray.empty, 0, s14⟩ : Term)), oT a7 r4.1, oS T_Nd 4 Nd.C s3 ([{ Nd.z with kind := 1, name := (⟨#[112]⟩ : ByteArray) }, { Nd.z with kind := 1, name := (⟨#[113]⟩ : ByteArray) }, { Nd.z with kind := 3, l := 0, r := 1 }, { Nd.z with kind := 5, l := 2, r := 0 }, { Nd.z with kind := 2 }])] [bigA fTerm [(⟨r54.kind, r54.name, r54.other, r54.form, s57⟩ : Term)] [r54], oDTerm s57 r54.sub, fS 2 Hyp.C SlV.nil ([]), oDTerm s50 r47.sub, fS 2 Hyp.C SlV.nil ([]), oDTerm s36 ([(⟨6, ByteArray.empty, ByteArray.empty, 0, [r18]⟩ : PTerm)]), fS 2 Hyp.C SlV.nil ([]), oDTerm s30 ([(⟨5, ByteArray.empty, ByteArray.empty, 0, [r8]⟩ : PTerm)]), oDTerm s24 ([r18]), oDTerm s21 r18.sub, oDTerm s14 ([r8]), oDTerm s11 r8.sub, oEt] := S.consTm (x := r54) 0
 replace S : St A N w w58 [oS T_Hyp 2 Hyp.C s43 ([(⟨(⟨#[120]⟩ : ByteArray), 2⟩ : Hyp)]), oS T_int 1 IC s40 r37.1, oB b26 T_Term (Term.C (⟨6, ByteArray.empty, ByteArray.empty, 0, s24⟩ : Term)), oB b16 T_Term (Term.C (⟨5, ByteArray.empty, ByteArray.empty, 0, s14⟩ : Term)), oT a7 r4.1, oS T_Nd 4 Nd.C s3 ([{ Nd.z with kind := 1, name := (⟨#[112]⟩ : ByteArray) }, { Nd.z with kind := 1, name := (⟨#[113]⟩ : ByteArray) }, { Nd.z with kind := 3, l := 0, r := 1 }, { Nd.z with kind := 5, l := 2, r := 0 }, { Nd.z with kind := 2 }])] [oDTerm s60 ([r54]), bigA fTerm [(⟨r54.kind, r54.name, r54.other, r54.form, s57⟩ : Term)] [r54], oDTerm s57 r54.sub, fS 2 Hyp.C SlV.nil ([]), oDTerm s50 r47.sub, fS 2 Hyp.C SlV.nil ([]), oDTerm s36 ([(⟨6, ByteArray.empty, ByteArray.empty, 0, [r18]⟩ : PTerm)]), fS 2 Hyp.C SlV.nil ([]), oDTerm s30 ([(⟨5, ByteArray.empty, ByteArray.empty, 0, [r8]⟩ : PTerm)]), oDTerm s24 ([r18]), oDTerm s21 r18.sub, oDTerm s14 ([r8]), oDTerm s11 r8.sub, oEt] := S.frzTm 0 0
 replace S : St A N w w58 [oS T_Hyp 2 Hyp.C s43 ([(⟨(⟨#[120]⟩ : ByteArray), 2⟩ : Hyp)]), oS T_int 1 IC s40 r37.1, oB b26 T_Term (Term.C (⟨6, ByteArray.empty, ByteArray.empty, 0, s24⟩ : Term)), oB b16 T_Term (Term.C (⟨5, ByteArray.empty, ByteArray.empty, 0, s14⟩ : Term)), oT a7 r4.1, oS T_Nd 4 Nd.C s3 ([{ Nd.z with kind := 1, name := (⟨#[112]⟩ : ByteArray) }, { Nd.z with kind := 1, name := (⟨#[113]⟩ : ByteArray) }, { Nd.z with kind := 3, l := 0, r := 1 }, { Nd.z with kind := 5, l := 2, r := 0 }, { Nd.z with kind := 2 }])] [oDTerm s60 ([r54]), oDTerm s57 r54.sub, fS 2 Hyp.C SlV.nil ([]), oDTerm s50 r47.sub, fS 2 Hyp.C SlV.nil ([]), oDTerm s36 ([(⟨6, ByteArray.empty, ByteArray.empty, 0, [r18]⟩ : PTerm)]), fS 2 Hyp.C SlV.nil ([]), oDTerm s30 ([(⟨5, ByteArray.empty, ByteArray.empty, 0, [r8]⟩ : PTerm)]), oDTerm s24 ([r18]), oDTerm s21 r18.sub, oDTerm s14 ([r8]), oDTerm s11 r8.sub, oEt] := S.zs [0, 2, 3, 4, 5, 6, 7, 8, 9, 10, 11, 12, 13]
 refine wd (Does.to (v' := .agg (Term.C (⟨2, (⟨#[120]⟩ : ByteArray), ByteArray.empty, 0, s60⟩ : Term)).toArray) (does_buildv (vs := [(0, .int .i64 2), (1, .string (⟨#[120]⟩ : ByteArray)), (4, s60.v)]) bu_Term (consP rfl (consP rfl (consP rfl rfl))) (Bld.one rfl rfl (by rw [Term.len]; decide) (Term.set_kind _ _) (Bld.one rfl rfl (by rw [Term.len]; decide) (Term.set_name _ _) (Bld.one rfl (SlV.one _ _ rfl) (by rw [Term.len]; decide) (Term.set_sub _ _) Bld.nil)))) rfl) ?_
 replace S : St A N w w58 [oS T_Hyp 2 Hyp.C s43 ([(⟨(⟨#[120]⟩ : ByteArray), 2⟩ : Hyp)]), oS T_int 1 IC s40 r37.1, oB b26 T_Term (Term.C (⟨6, ByteArray.empty, ByteArray.empty, 0, s24⟩ : Term)), oB b16 T_Term (Term.C (⟨5, ByteArray.empty, ByteArray.empty, 0, s14⟩ : Term)), oT a7 r4.1, oS T_Nd 4 Nd.C s3 ([{ Nd.z with kind := 1, name := (⟨#[112]⟩ : ByteArray) }, { Nd.z with kind := 1, name := (⟨#[113]⟩ : ByteArray) }, { Nd.z with kind := 3, l := 0, r := 1 }, { Nd.z with kind := 5, l := 2, r := 0 }, { Nd.z with kind := 2 }])] [fS 2 Hyp.C SlV.nil ([]), oDTerm s60 ([r54]), oDTerm s57 r54.sub, fS 2 Hyp.C SlV.nil ([]), oDTerm s50 r47.sub, fS 2 Hyp.C SlV.nil ([]), oDTerm s36 ([(⟨6, ByteArray.empty, ByteArray.empty, 0, [r18]⟩ : PTerm)]), fS 2 Hyp.C SlV.nil ([]), oDTerm s30 ([(⟨5, ByteArray.empty, ByteArray.empty, 0, [r8]⟩ : PTerm)]), oDTerm s24 ([r18]), oDTerm s21 r18.sub, oDTerm s14 ([r8]), oDTerm s11 r8.sub, oEt] := S.nilZ 2 Hyp.C
 obtain ⟨r61, er61, H⟩ := bind_ex H
 obtain ⟨B63, MB63, SB63, back⟩ := S.calln 0 ((.o 4 rfl (.z 0 rfl (.z 1 rfl (.z 13 rfl .nil)))))
 refine wl_call (does_callg ca_types_Infer (cons2 rfl (cons2 SlV.nil_eq (cons2 rfl rfl)))) (by decide) (types_Infer_st (a2 := (⟨2, (⟨#[120]⟩ : ByteArray), ByteArray.empty, 0, [r54]⟩ : PTerm)) SB63 er61) ?_
 rintro _ w62 ⟨rfl, S2⟩
 replace S : St A N w w62 [oS T_Hyp 2 Hyp.C s43 ([(⟨(⟨#[120]⟩ : ByteArray), 2⟩ : Hyp)]), oS T_int 1 IC s40 r37.1, oB b26 T_Term (Term.C (⟨6, ByteArray.empty, ByteArray.empty, 0, s24⟩ : Term)), oB b16 T_Term (Term.C (⟨5, ByteArray.empty, ByteArray.empty, 0, s14⟩ : Term)), oT a7 r4.1, oS T_Nd 4 Nd.C s3 ([{ Nd.z with kind := 1, name := (⟨#[112]⟩ : ByteArray) }, { Nd.z with kind := 1, name := (⟨#[113]⟩ : ByteArray) }, { Nd.z with kind := 3, l := 0, r := 1 }, { Nd.z with kind := 5, l := 2, r := 0 }, { Nd.z with kind := 2 }])] [fS 2 Hyp.C SlV.nil ([]), oDTerm s60 ([r54]), oDTerm s57 r54.sub, fS 2 Hyp.C SlV.nil ([]), oDTerm s50 r47.sub, fS 2 Hyp.C SlV.nil ([]), oDTerm s36 ([(⟨6, ByteArray.empty, ByteArray.empty, 0, [r18]⟩ : PTerm)]), fS 2 Hyp.C SlV.nil ([]), oDTerm s30 ([(⟨5, ByteArray.empty, ByteArray.empty, 0, [r8]⟩ : PTerm)]), oDTerm s24 ([r18]), oDTerm s21 r18.sub, oDTerm s14 ([r8]), oDTerm s11 r8.sub, oEt] := back _ _ _ _ S2 rfl
 clear back S2 SB63
 refine wd (does_mv_t rfl) ?_
 refine wd (does_extract rfl rfl) ?_
 refine wd (does_extract rfl rfl) ?_
 refine wd (does_as_i rfl) ?_
 refine wd (does_as_i rfl) ?_
 refine wl_nil ?_
 refine wc_seq (wc_region ?_)
 refine wd (does_mv_p rfl) ?_
 refine wd (does_build bu_Hyp (Bld.one rfl rfl (by rw [Hyp.len]; decide) (Hyp.set_name _ _) (Bld.one rfl rfl (by rw [Hyp.len]; decide) (Hyp.set_form _ _) Bld.nil))) ?_
 refine wl_lits (C := Hyp.C) (l := [(⟨(⟨#[120]⟩ : ByteArray), 4⟩ : Hyp)]) (vs := [.agg (Hyp.C (⟨(⟨#[120]⟩ : ByteArray), 4⟩ : Hyp)).toArray]) sl_L_api_Hyp el_Hyp.zero rfl rfl (fun a _ => Hyp.len a) (by decide) rfl (by decide) fun b65 w64 s66 hBw64 hw64 => ?_
 replace S : St A N w w64 [oS T_Hyp 2 Hyp.C s66 ([(⟨(⟨#[120]⟩ : ByteArray), 4⟩ : Hyp)]), oS T_Hyp 2 Hyp.C s43 ([(⟨(⟨#[120]⟩ : ByteArray), 2⟩ : Hyp)]), oS T_int 1 IC s40 r37.1, oB b26 T_Term (Term.C (⟨6, ByteArray.empty, ByteArray.empty, 0, s24⟩ : Term)), oB b16 T_Term (Term.C (⟨5, ByteArray.empty, ByteArray.empty, 0, s14⟩ : Term)), oT a7 r4.1, oS T_Nd 4 Nd.C s3 ([{ Nd.z with kind := 1, name := (⟨#[112]⟩ : ByteArray) }, { Nd.z with kind := 1, name := (⟨#[113]⟩ : ByteArray) }, { Nd.z with kind := 3, l := 0, r := 1 }, { Nd.z with kind := 5, l := 2, r := 0 }, { Nd.z with kind := 2 }])] [fS 2 Hyp.C SlV.nil ([]), oDTerm s60 ([r54]), oDTerm s57 r54.sub, fS 2 Hyp.C SlV.nil ([]), oDTerm s50 r47.sub, fS 2 Hyp.C SlV.nil ([]), oDTerm s36 ([(⟨6, ByteArray.empty, ByteArray.empty, 0, [r18]⟩ : PTerm)]), fS 2 Hyp.C SlV.nil ([]), oDTerm s30 ([(⟨5, ByteArray.empty, ByteArray.empty, 0, [r8]⟩ : PTerm)]), oDTerm s24 ([r18]), oDTerm s21 r18.sub, oDTerm s14 ([r8]), oDTerm s11 r8.sub, oEt] := S.lit hBw64 hw64 (by simp)
 obtain ⟨r67, er67, H⟩ := bind_ex H
 obtain ⟨B69, MB69, SB69, back⟩ := S.sub [] [] [oS T_Hyp 2 Hyp.C s66 ([(⟨(⟨#[120]⟩ : ByteArray), 4⟩ : Hyp)]), oS T_Hyp 2 Hyp.C s43 ([(⟨(⟨#[120]⟩ : ByteArray), 2⟩ : Hyp)]), oS T_int 1 IC s40 r37.1, oB b26 T_Term (Term.C (⟨6, ByteArray.empty, ByteArray.empty, 0, s24⟩ : Term)), oB b16 T_Term (Term.C (⟨5, ByteArray.empty, ByteArray.empty, 0, s14⟩ : Term)), oT a7 r4.1, oS T_Nd 4 Nd.C s3 ([{ Nd.z with kind := 1, name := (⟨#[112]⟩ : ByteArray) }, { Nd.z with kind := 1, name := (⟨#[113]⟩ : ByteArray) }, { Nd.z with kind := 3, l := 0, r := 1 }, { Nd.z with kind := 5, l := 2, r := 0 }, { Nd.z with kind := 2 }])]
 refine wl_call (does_call ca_law13_v) (by decide) (law13_v_st SB69 er67) ?_
 rintro _ w68 ⟨s70, rfl, S2⟩
 replace S : St A N w w68 [oS T_Hyp 2 Hyp.C s66 ([(⟨(⟨#[120]⟩ : ByteArray), 4⟩ : Hyp)]), oS T_Hyp 2 Hyp.C s43 ([(⟨(⟨#[120]⟩ : ByteArray), 2⟩ : Hyp)]), oS T_int 1 IC s40 r37.1, oB b26 T_Term (Term.C (⟨6, ByteArray.empty, ByteArray.empty, 0, s24⟩ : Term)), oB b16 T_Term (Term.C (⟨5, ByteArray.empty, ByteArray.empty, 0, s14⟩ : Term)), oT a7 r4.1, oS T_Nd 4 Nd.C s3 ([{ Nd.z with kind := 1, name := (⟨#[112]⟩ : ByteArray) }, { Nd.z with kind := 1, name := (⟨#[113]⟩ : ByteArray) }, { Nd.z with kind := 3, l := 0, r := 1 }, { Nd.z with kind := 5, l := 2, r := 0 }, { Nd.z with kind := 2 }])] [oDTerm s70 r67.sub, fS 2 Hyp.C SlV.nil ([]), oDTerm s60 ([r54]), oDTerm s57 r54.sub, fS 2 Hyp.C SlV.nil ([]), oDTerm s50 r47.sub, fS 2 Hyp.C SlV.nil ([]), oDTerm s36 ([(⟨6, ByteArray.empty, ByteArray.empty, 0, [r18]⟩ : PTerm)]), fS 2 Hyp.C SlV.nil ([]), oDTerm s30 ([(⟨5, ByteArray.empty, ByteArray.empty, 0, [r8]⟩ : PTerm)]), oDTerm s24 ([r18]), oDTerm s21 r18.sub, oDTerm s14 ([r8]), oDTerm s11 r8.sub, oEt] := back _ _ _ _ _ S2 rfl rfl
 clear back S2 SB69
 refine wl_lits (C := Term.C) (l := [(⟨r67.kind, r67.name, r67.other, r67.form, s70⟩ : Term)]) (vs := [.agg (Term.C (⟨r67.kind, r67.name, r67.other, r67.form, s70⟩ : Term)).toArray]) sl_L_api_Term el_Term.zero rfl rfl (fun a _ => Term.len a) (by decide) rfl (by decide) fun b72 w71 s73 hBw71 hw71 => ?_
 replace S : St A N w w71 [oS T_Term 5 Term.C s73 ([(⟨r67.kind, r67.name, r67.other, r67.form, s70⟩ : Term)]), oS T_Hyp 2 Hyp.C s66 ([(⟨(⟨#[120]⟩ : ByteArray), 4⟩ : Hyp)]), oS T_Hyp 2 Hyp.C s43 ([(⟨(⟨#[120]⟩ : ByteArray), 2⟩ : Hyp)]), oS T_int 1 IC s40 r37.1, oB b26 T_Term (Term.C (⟨6, ByteArray.empty, ByteArray.empty, 0, s24⟩ : Term)), oB b16 T_Term (Term.C (⟨5, ByteArray.empty, ByteArray.empty, 0, s14⟩ : Term)), oT a7 r4.1, oS T_Nd 4 Nd.C s3 ([{ Nd.z with kind := 1, name := (⟨#[112]⟩ : ByteArray) }, { Nd.z with kind := 1, name := (⟨#[113]⟩ : ByteArray) }, { Nd.z with kind := 3, l := 0, r := 1 }, { Nd.z with kind := 5, l := 2, r := 0 }, { Nd.z with kind := 2 }])] [oDTerm s70 r67.sub, fS 2 Hyp.C SlV.nil ([]), oDTerm s60 ([r54]), oDTerm s57 r54.sub, fS 2 Hyp.C SlV.nil ([]), oDTerm s50 r47.sub, fS 2 Hyp.C SlV.nil ([]), oDTerm s36 ([(⟨6, ByteArray.empty, ByteArray.empty, 0, [r18]⟩ : PTerm)]), fS 2 Hyp.C SlV.nil ([]), oDTerm s30 ([(⟨5, ByteArray.empty, ByteArray.empty, 0, [r8]⟩ : PTerm)]), oDTerm s24 ([r18]), oDTerm s21 r18.sub, oDTerm s14 ([r8]), oDTerm s11 r8.sub, oEt] := S.lit hBw71 hw71 (by simp)
 replace S : St A N w w71 [oS T_Term 5 Term.C s73 ([(⟨r67.kind, r67.name, r67.other, r67.form, s70⟩ : Term)]), oS T_Hyp 2 Hyp.C s66 ([(⟨(⟨#[120]⟩ : ByteArray), 4⟩ : Hyp)]), oS T_Hyp 2 Hyp.C s43 ([(⟨(⟨#[120]⟩ : ByteArray), 2⟩ : Hyp)]), oS T_int 1 IC s40 r37.1, oB b26 T_Term (Term.C (⟨6, ByteArray.empty, ByteArray.empty, 0, s24⟩ : Term)), oB b16 T_Term (Term.C (⟨5, ByteArray.empty, ByteArray.empty, 0, s14⟩ : Term)), oT a7 r4.1, oS T_Nd 4 Nd.C s3 ([{ Nd.z with kind := 1, name := (⟨#[112]⟩ : ByteArray) }, { Nd.z with kind := 1, name := (⟨#[113]⟩ : ByteArray) }, { Nd.z with kind := 3, l := 0, r := 1 }, { Nd.z with kind := 5, l := 2, r := 0 }, { Nd.z with kind := 2 }])] [bigA fTerm ([] : List Term) ([] : List PTerm), oDTerm s70 r67.sub, fS 2 Hyp.C SlV.nil ([]), oDTerm s60 ([r54]), oDTerm s57 r54.sub, fS 2 Hyp.C SlV.nil ([]), oDTerm s50 r47.sub, fS 2 Hyp.C SlV.nil ([]), oDTerm s36 ([(⟨6, ByteArray.empty, ByteArray.empty, 0, [r18]⟩ : PTerm)]), fS 2 Hyp.C SlV.nil ([]), oDTerm s30 ([(⟨5, ByteArray.empty, ByteArray.empty, 0, [r8]⟩ : PTerm)]), oDTerm s24 ([r18]), oDTerm s21 r18.sub, oDTerm s14 ([r8]), oDTerm s11 r8.sub, oEt] := S.bigTm
 replace S : St A N w w71 [oS T_Term 5 Term.C s73 ([(⟨r67.kind, r67.name, r67.other, r67.form, s70⟩ : Term)]), oS T_Hyp 2 Hyp.C s66 ([(⟨(⟨#[120]⟩ : ByteArray), 4⟩ : Hyp)]), oS T_Hyp 2 Hyp.C s43 ([(⟨(⟨#[120]⟩ : ByteArray), 2⟩ : Hyp)]), oS T_int 1 IC s40 r37.1, oB b26 T_Term (Term.C (⟨6, ByteArray.empty, ByteArray.empty, 0, s24⟩ : Term)), oB b16 T_Term (Term.C (⟨5, ByteArray.empty, ByteArray.empty, 0, s14⟩ : Term)), oT a7 r4.1, oS T_Nd 4 Nd.C s3 ([{ Nd.z with kind := 1, name := (⟨#[112]⟩ : ByteArray) }, { Nd.z with kind := 1, name := (⟨#[113]⟩ : ByteArray) }, { Nd.z with kind := 3, l := 0, r := 1 }, { Nd.z with kind := 5, l := 2, r := 0 }, { Nd.z with kind := 2 }])] [bigA fTerm [(⟨r67.kind, r67.name, r67.other, r67.form, s70⟩ : Term)] [r67], oDTerm s70 r67.sub, fS 2 Hyp.C SlV.nil ([]), oDTerm s60 ([r54]), oDTerm s57 r54.sub, fS 2 Hyp.C SlV.nil ([]), oDTerm s50 r47.sub, fS 2 Hyp.C SlV.nil ([]), oDTerm s36 ([(⟨6, ByteArray.empty, ByteArray.empty, 0, [r18]⟩ : PTerm)]), fS 2 Hyp.C SlV.nil ([]), oDTerm s30 ([(⟨5, ByteArray.empty, ByteArray.empty, 0, [r8]⟩ : PTerm)]), oDTerm s24 ([r18]), oDTerm s21 r18.sub, oDTerm s14 ([r8]), oDTerm s11 r8.sub, oEt] := S.consTm (x := r67) 0
 replace S : St A N w w71 [oS T_Hyp 2 Hyp.C s66 ([(⟨(⟨#[120]⟩ : ByteArray), 4⟩ : Hyp)]), oS T_Hyp 2 Hyp.C s43 ([(⟨(⟨#[120]⟩ : ByteArray), 2⟩ : Hyp)]), oS T_int 1 IC s40 r37.1, oB b26 T_Term (Term.C (⟨6, ByteArray.empty, ByteArray.empty, 0, s24⟩ : Term)), oB b16 T_Term (Term.C (⟨5, ByteArray.empty, ByteArray.empty, 0, s14⟩ : Term)), oT a7 r4.1, oS T_Nd 4 Nd.C s3 ([{ Nd.z with kind := 1, name := (⟨#[112]⟩ : ByteArray) }, { Nd.z with kind := 1, name := (⟨#[113]⟩ : ByteArray) }, { Nd.z with kind := 3, l := 0, r := 1 }, { Nd.z with kind := 5, l := 2, r := 0 }, { Nd.z with kind := 2 }])] [oDTerm s73 ([r67]), bigA fTerm [(⟨r67.kind, r67.name, r67.other, r67.form, s70⟩ : Term)] [r67], oDTerm s70 r67.sub, fS 2 Hyp.C SlV.nil ([]), oDTerm s60 ([r54]), oDTerm s57 r54.sub, fS 2 Hyp.C SlV.nil ([]), oDTerm s50 r47.sub, fS 2 Hyp.C SlV.nil ([]), oDTerm s36 ([(⟨6, ByteArray.empty, ByteArray.empty, 0, [r18]⟩ : PTerm)]), fS 2 Hyp.C SlV.nil ([]), oDTerm s30 ([(⟨5, ByteArray.empty, ByteArray.empty, 0, [r8]⟩ : PTerm)]), oDTerm s24 ([r18]), oDTerm s21 r18.sub, oDTerm s14 ([r8]), oDTerm s11 r8.sub, oEt] := S.frzTm 0 0
 replace S : St A N w w71 [oS T_Hyp 2 Hyp.C s66 ([(⟨(⟨#[120]⟩ : ByteArray), 4⟩ : Hyp)]), oS T_Hyp 2 Hyp.C s43 ([(⟨(⟨#[120]⟩ : ByteArray), 2⟩ : Hyp)]), oS T_int 1 IC s40 r37.1, oB b26 T_Term (Term.C (⟨6, ByteArray.empty, ByteArray.empty, 0, s24⟩ : Term)), oB b16 T_Term (Term.C (⟨5, ByteArray.empty, ByteArray.empty, 0, s14⟩ : Term)), oT a7 r4.1, oS T_Nd 4 Nd.C s3 ([{ Nd.z with kind := 1, name := (⟨#[112]⟩ : ByteArray) }, { Nd.z with kind := 1, name := (⟨#[113]⟩ : ByteArray) }, { Nd.z with kind := 3, l := 0, r := 1 }, { Nd.z with kind := 5, l := 2, r := 0 }, { Nd.z with kind := 2 }])] [oDTerm s73 ([r67]), oDTerm s70 r67.sub, fS 2 Hyp.C SlV.nil ([]), oDTerm s60 ([r54]), oDTerm s57 r54.sub, fS 2 Hyp.C SlV.nil ([]), oDTerm s50 r47.sub, fS 2 Hyp.C SlV.nil ([]), oDTerm s36 ([(⟨6, ByteArray.empty, ByteArray.empty, 0, [r18]⟩ : PTerm)]), fS 2 Hyp.C SlV.nil ([]), oDTerm s30 ([(⟨5, ByteArray.empty, ByteArray.empty, 0, [r8]⟩ : PTerm)]), oDTerm s24 ([r18]), oDTerm s21 r18.sub, oDTerm s14 ([r8]), oDTerm s11 r8.sub, oEt] := S.zs [0, 2, 3, 4, 5, 6, 7, 8, 9, 10, 11, 12, 13, 14, 15, 16]
 refine wd (Does.to (v' := .agg (Term.C (⟨10, ByteArray.empty, ByteArray.empty, 0, s73⟩ : Term)).toArray) (does_buildv (vs := [(0, .int .i64 10), (4, s73.v)]) bu_Term (consP rfl (consP rfl rfl)) (Bld.one rfl rfl (by rw [Term.len]; decide) (Term.set_kind _ _) (Bld.one rfl (SlV.one _ _ rfl) (by rw [Term.len]; decide) (Term.set_sub _ _) Bld.nil))) rfl) ?_
 obtain ⟨r74, er74, H⟩ := bind_ex H
 obtain ⟨B76, MB76, SB76, back⟩ := S.calln 0 ((.o 5 rfl (.s 0 rfl (.z 0 rfl (.z 15 rfl .nil)))))
 refine wl_call (does_call ca_types_Check) (by decide) (types_Check_st (a2 := (⟨10, ByteArray.empty, ByteArray.empty, 0, [r67]⟩ : PTerm)) SB76 er74) ?_
 rintro _ w75 ⟨rfl, S2⟩
 replace S : St A N w w75 [oS T_Hyp 2 Hyp.C s66 ([(⟨(⟨#[120]⟩ : ByteArray), 4⟩ : Hyp)]), oS T_Hyp 2 Hyp.C s43 ([(⟨(⟨#[120]⟩ : ByteArray), 2⟩ : Hyp)]), oS T_int 1 IC s40 r37.1, oB b26 T_Term (Term.C (⟨6, ByteArray.empty, ByteArray.empty, 0, s24⟩ : Term)), oB b16 T_Term (Term.C (⟨5, ByteArray.empty, ByteArray.empty, 0, s14⟩ : Term)), oT a7 r4.1, oS T_Nd 4 Nd.C s3 ([{ Nd.z with kind := 1, name := (⟨#[112]⟩ : ByteArray) }, { Nd.z with kind := 1, name := (⟨#[113]⟩ : ByteArray) }, { Nd.z with kind := 3, l := 0, r := 1 }, { Nd.z with kind := 5, l := 2, r := 0 }, { Nd.z with kind := 2 }])] [oDTerm s73 ([r67]), oDTerm s70 r67.sub, fS 2 Hyp.C SlV.nil ([]), oDTerm s60 ([r54]), oDTerm s57 r54.sub, fS 2 Hyp.C SlV.nil ([]), oDTerm s50 r47.sub, fS 2 Hyp.C SlV.nil ([]), oDTerm s36 ([(⟨6, ByteArray.empty, ByteArray.empty, 0, [r18]⟩ : PTerm)]), fS 2 Hyp.C SlV.nil ([]), oDTerm s30 ([(⟨5, ByteArray.empty, ByteArray.empty, 0, [r8]⟩ : PTerm)]), oDTerm s24 ([r18]), oDTerm s21 r18.sub, oDTerm s14 ([r8]), oDTerm s11 r8.sub, oEt] := back _ _ _ _ S2 rfl
 clear back S2 SB76
 refine wd (does_as_i rfl) ?_
 refine wl_nil ?_
 refine wc_seq (wc_region ?_)
 refine wd (does_mv_i rfl) ?_
 refine wd (does_eq rfl rfl) ?_
 refine wd (does_mv_b rfl) ?_
 refine wl_guard (j := 2) (pol := true) rfl rfl rfl (by decide) (fun hg => does_mv_i rfl) (by decide) ?_
 refine wl_guard (j := 2) (pol := true) rfl rfl rfl (by decide) (fun hg => does_eq (gv_yes hg) rfl) (by decide) ?_
 refine wd (does_and rfl (fun hp => (gv_yes (and_1 hp)))) ?_
 refine wd (does_mv_b rfl) ?_
 refine wl_guard (j := 6) (pol := true) rfl rfl rfl (by decide) (fun hg => does_mv_i rfl) (by decide) ?_
 refine wl_guard (j := 6) (pol := true) rfl rfl rfl (by decide) (fun hg => does_eq (gv_yes hg) rfl) (by decide) ?_
 refine wd (does_and rfl (fun hp => (gv_yes (and_1 hp)))) ?_
 refine wd (does_mv_b rfl) ?_
 refine wl_guard (j := 10) (pol := true) rfl rfl rfl (by decide) (fun hg => does_mv_l rfl) (by decide) ?_
 obtain ⟨hg77, H⟩ := chk_ex H
 refine wl_gon (j := 10) (pol := true) rfl rfl rfl (by decide) (by simpa using hg77) ?_
 refine wl_lits (C := IC) (l := [0]) (vs := [.int .i64 0]) sl_L_int el_int.zero rfl rfl (fun _ _ => rfl) (by decide) rfl (by decide) fun b79 w78 s80 hBw78 hw78 => ?_
 replace S : St A N w w78 [oS T_int 1 IC s80 ([0]), oS T_Hyp 2 Hyp.C s66 ([(⟨(⟨#[120]⟩ : ByteArray), 4⟩ : Hyp)]), oS T_Hyp 2 Hyp.C s43 ([(⟨(⟨#[120]⟩ : ByteArray), 2⟩ : Hyp)]), oS T_int 1 IC s40 r37.1, oB b26 T_Term (Term.C (⟨6, ByteArray.empty, ByteArray.empty, 0, s24⟩ : Term)), oB b16 T_Term (Term.C (⟨5, ByteArray.empty, ByteArray.empty, 0, s14⟩ : Term)), oT a7 r4.1, oS T_Nd 4 Nd.C s3 ([{ Nd.z with kind := 1, name := (⟨#[112]⟩ : ByteArray) }, { Nd.z with kind := 1, name := (⟨#[113]⟩ : ByteArray) }, { Nd.z with kind := 3, l := 0, r := 1 }, { Nd.z with kind := 5, l := 2, r := 0 }, { Nd.z with kind := 2 }])] [oDTerm s73 ([r67]), oDTerm s70 r67.sub, fS 2 Hyp.C SlV.nil ([]), oDTerm s60 ([r54]), oDTerm s57 r54.sub, fS 2 Hyp.C SlV.nil ([]), oDTerm s50 r47.sub, fS 2 Hyp.C SlV.nil ([]), oDTerm s36 ([(⟨6, ByteArray.empty, ByteArray.empty, 0, [r18]⟩ : PTerm)]), fS 2 Hyp.C SlV.nil ([]), oDTerm s30 ([(⟨5, ByteArray.empty, ByteArray.empty, 0, [r8]⟩ : PTerm)]), oDTerm s24 ([r18]), oDTerm s21 r18.sub, oDTerm s14 ([r8]), oDTerm s11 r8.sub, oEt] := S.lit hBw78 hw78 (by simp)
 obtain ⟨r81, er81, H⟩ := bind_ex H
 refine wl_gcall (j := 10) (pol := true) rfl rfl rfl (by decide) (fun hg => does_callg ca_ref03_Ints (cons2 (gv_yes hg) (cons2 rfl rfl))) (by decide) (fun hg => (have ⟨M, SS⟩ := S.lend ((.s 3 rfl (.s 0 rfl .nil))); quiet (ref03_Ints_st SS (if_t (by simpa using hg) er81)) (fun v w' h => ⟨h.1, _, _, h.2⟩))) fun w82 hw82 => ?_
 replace S := S.ext hw82
 refine wd (does_and rfl (fun hp => (gv_yes (and_1 hp)))) ?_
 refine wd (does_mv_b rfl) ?_
 refine wl_guard (j := 15) (pol := true) rfl rfl rfl (by decide) (fun hg => does_mv_i rfl) (by decide) ?_
 refine wl_guard (j := 15) (pol := true) rfl rfl rfl (by decide) (fun hg => does_eq (gv_yes hg) rfl) (by decide) ?_
 refine wd (does_and rfl (fun hp => (gv_yes (and_1 hp)))) ?_
 refine wd (does_mv_b rfl) ?_
 refine wl_guard (j := 19) (pol := true) rfl rfl rfl (by decide) (fun hg => does_mv_i rfl) (by decide) ?_
 refine wl_guard (j := 19) (pol := true) rfl rfl rfl (by decide) (fun hg => does_eq (gv_yes hg) rfl) (by decide) ?_
 refine wd (does_and rfl (fun hp => (gv_yes (and_1 hp)))) ?_
 refine wd (does_mv_b rfl) ?_
 refine wl_guard (j := 23) (pol := true) rfl rfl rfl (by decide) (fun hg => does_mv_i rfl) (by decide) ?_
 refine wl_guard (j := 23) (pol := true) rfl rfl rfl (by decide) (fun hg => does_eq (gv_yes hg) rfl) (by decide) ?_
 refine wd (does_and rfl (fun hp => (gv_yes (and_1 hp)))) ?_
 refine wd (does_mv_b rfl) ?_
 refine wl_guard (j := 27) (pol := true) rfl rfl rfl (by decide) (fun hg => does_mv_i rfl) (by decide) ?_
 refine wl_guard (j := 27) (pol := true) rfl rfl rfl (by decide) (fun hg => does_eq (gv_yes hg) rfl) (by decide) ?_
 refine wd (does_and rfl (fun hp => (gv_yes (and_1 hp)))) ?_
 refine wd (does_mv_b rfl) ?_
 refine wl_guard (j := 31) (pol := true) rfl rfl rfl (by decide) (fun hg => does_mv_i rfl) (by decide) ?_
 refine wl_guard (j := 31) (pol := true) rfl rfl rfl (by decide) (fun hg => does_eq (gv_yes hg) rfl) (by decide) ?_
 refine wd (does_and rfl (fun hp => (gv_yes (and_1 hp)))) ?_
 refine wd (does_as_b rfl) ?_
 refine wl_nil ?_
 refine wc_ret ?_
 refine ⟨_, (rets1 (retOne_tmp rfl)), ?_⟩
 replace S : St A N w w82 [] [] := S.arr [] []
 obtain rfl := Option.some.inj H
 exact ⟨rfl, S⟩
end Go.Proofs.YtjebgcoknpcadaaDoor
end
section
namespace Go.Proofs.YtjebgcoknpcadaaDoor
open Gw Go.RowKit
set_option maxHeartbeats 4000000
set_option maxRecDepth 20000
theorem law13_TypesOne_st {A : Nat → Prop} {N : Oth} {w : World} {a0 : List Nd} {s_0 : SlV} {a1 : List Hyp} {s_1 : SlV} {a2 : PTerm} {s_2 : SlV} {a3 : Int} {a4 : Hyp} (S : St A N w w [] [fS 4 Nd.C s_0 a0, fS 2 Hyp.C s_1 a1, oDTerm s_2 a2.sub, oEt]) {k : Nat} {r : Bool} (H : law13_TypesOne.f k a0 a1 a2 a3 a4 = some r) :
  Calls PP F_law13_TypesOne #[s_0.v, s_1.v, .agg (Term.C (⟨a2.kind, a2.name, a2.other, a2.form, s_2⟩ : Term)).toArray, .int .i64 a3, .agg (Hyp.C a4).toArray] w fun e w' => ∃ v, e = .returned v ∧ (v = .bool r ∧ St A N w w' [] []) := by
 unfold law13_TypesOne.f at H
 refine calls_of_wc (n := 96) fn_law13_TypesOne rfl rfl (by simp) ?_
 refine wc_seq (wc_region ?_)
 refine wl_box_agg rfl (by decide) fun b2 w1 hw1 => ?_
 replace S : St A N w w1 [oB b2 T_Term (Term.C (⟨a2.kind, a2.name, a2.other, a2.form, s_2⟩ : Term))] [fS 4 Nd.C s_0 a0, fS 2 Hyp.C s_1 a1, oDTerm s_2 a2.sub, oEt] := S.new hw1
 refine wl_box_agg rfl (by decide) fun b4 w3 hw3 => ?_
 replace S : St A N w w3 [oB b4 T_Hyp (Hyp.C a4), oB b2 T_Term (Term.C (⟨a2.kind, a2.name, a2.other, a2.form, s_2⟩ : Term))] [fS 4 Nd.C s_0 a0, fS 2 Hyp.C s_1 a1, oDTerm s_2 a2.sub, oEt] := S.new hw3
 refine wd (does_as_b rfl) ?_
 refine wl_nil ?_
 refine wc_seq (wc_region ?_)
 refine wd (does_mv_l rfl) ?_
 obtain ⟨r5, er5, H⟩ := bind_ex H
 obtain ⟨B7, MB7, SB7, back⟩ := S.calln 0 ((.z 0 rfl .nil))
 refine wl_call (does_call ca_law03_Both) (by decide) (law03_Both_st SB7 er5) ?_
 rintro _ w6 ⟨a8, a9, rfl, S2⟩
 replace S : St A N w w6 [oT a8 r5.1, oR a9 r5.2.1, oB b4 T_Hyp (Hyp.C a4), oB b2 T_Term (Term.C (⟨a2.kind, a2.name, a2.other, a2.form, s_2⟩ : Term))] [fS 4 Nd.C s_0 a0, fS 2 Hyp.C s_1 a1, oDTerm s_2 a2.sub, oEt] := back _ _ _ _ S2 rfl
 clear back S2 SB7
 refine wd (does_mv_t rfl) ?_
 refine wd (does_extract rfl rfl) ?_
 refine wd (does_extract rfl rfl) ?_
 refine wd (does_extract rfl rfl) ?_
 refine wd (does_as_p rfl) ?_
 refine wd (does_as_p rfl) ?_
 refine wd (does_as_b rfl) ?_
 refine wl_nil ?_
 refine wc_seq (wc_seq (wc_region ?_))
 refine wd (does_mv_b rfl) ?_
 refine wd (does_not rfl) ?_
 refine wd (does_mv_b rfl) ?_
 refine wl_guard (j := 2) (pol := false) rfl rfl rfl (by decide) (fun hg => does_mv_p rfl) (by decide) ?_
 refine wl_guard (j := 2) (pol := false) rfl rfl rfl (by decide) (fun hg => does_mv_i rfl) (by decide) ?_
 obtain ⟨r10, er10, H⟩ := bind_ex H
 refine wl_gcall (j := 2) (pol := false) rfl rfl rfl (by decide) (fun hg => does_callg ca_ref03_T_Has (cons2 (gv_yes hg) (cons2 (gv_yes hg) rfl))) (by decide) (fun hg => (have ⟨M, SS⟩ := S.lend ((.o 1 rfl .nil)); quiet (ref03_T_Has_st SS (if_t (by simpa using hg) er10)) (fun v w' h => ⟨h.1, _, _, h.2⟩))) fun w11 hw11 => ?_
 replace S := S.ext hw11
 refine wl_guard (j := 2) (pol := false) rfl rfl rfl (by decide) (fun hg => does_not (gv_yes hg)) (by decide) ?_
 refine wd (does_or rfl (fun hp => (gv_yes (and_1 hp)))) ?_
 refine wd (does_mv_b rfl) ?_
 refine wl_guard (j := 8) (pol := false) rfl rfl rfl (by decide) (fun hg => does_mv_p rfl) (by decide) ?_
 refine wl_guard (j := 8) (pol := false) rfl rfl rfl (by decide) (fun hg => does_fieldAddr fl_Hyp_form rfl (o' := 1) rfl) (by decide) ?_
 refine wl_guard (j := 8) (pol := false) rfl rfl rfl (by decide) (fun hg => does_load on_int (gv_yes hg) ((S.blk 2).cell (Hyp.get_form _))) (by decide) ?_
 obtain ⟨r12, er12, H⟩ := bind_ex H
 refine wl_gcall (j := 8) (pol := false) rfl rfl rfl (by decide) (fun hg => does_callg ca_ref03_T_Has (cons2 (gv_yes hg) (cons2 (gv_yes hg) rfl))) (by decide) (fun hg => (have ⟨M, SS⟩ := S.lend ((.o 1 rfl .nil)); quiet (ref03_T_Has_st SS (if_t (by simpa using hg) er12)) (fun v w' h => ⟨h.1, _, _, h.2⟩))) fun w13 hw13 => ?_
 replace S := S.ext hw13
 refine wl_guard (j := 8) (pol := false) rfl rfl rfl (by decide) (fun hg => does_not (gv_yes hg)) (by decide) ?_
 refine wd (does_or rfl (fun hp => (gv_yes (and_1 hp)))) ?_
 refine wl_nil ?_
 refine wc_if rfl (fun hc14 => ?_) (fun hc14 => ?_)
 ·replace H := if_t hc14 H
  refine wc_seq (wc_region ?_)
  obtain ⟨r15, er15, H⟩ := bind_ex H
  obtain ⟨B17, MB17, SB17, back⟩ := S.calln 0 ((.z 3 rfl .nil))
  refine wl_call (does_call ca_law13_heads) (by decide) (law13_heads_st SB17 er15) ?_
  rintro _ w16 ⟨rfl, S2⟩
  replace S : St A N w w16 [oT a8 r5.1, oR a9 r5.2.1, oB b4 T_Hyp (Hyp.C a4), oB b2 T_Term (Term.C (⟨a2.kind, a2.name, a2.other, a2.form, s_2⟩ : Term))] [fS 4 Nd.C s_0 a0, fS 2 Hyp.C s_1 a1, oDTerm s_2 a2.sub, oEt] := back _ _ _ _ S2 rfl
  clear back S2 SB17
  refine wd (does_as_b rfl) ?_
  refine wl_nil ?_
  refine wc_ret ?_
  refine ⟨_, (rets1 (retOne_tmp rfl)), ?_⟩
  replace S : St A N w w16 [] [] := S.arr [] []
  obtain rfl := Option.some.inj H
  exact ⟨rfl, S⟩
 replace H := if_f hc14 H
 refine wc_skip ?_
 refine wc_seq (wc_region ?_)
 refine wd (does_mv_p rfl) ?_
 refine wd (does_mv_l rfl) ?_
 refine wd (does_load_agg ag_Term rfl ((S.blk 3).all _ (Term.len _)) (Term.len _)) ?_
 obtain ⟨r18, er18, H⟩ := bind_ex H
 obtain ⟨B20, MB20, SB20, back⟩ := S.calln 0 ((.o 0 rfl (.z 1 rfl (.z 2 rfl (.z 3 rfl .nil)))))
 refine wl_call (does_call ca_types_Infer) (by decide) (types_Infer_st (a2 := a2) SB20 er18) ?_
 rintro _ w19 ⟨rfl, S2⟩
 replace S : St A N w w19 [oT a8 r5.1, oR a9 r5.2.1, oB b4 T_Hyp (Hyp.C a4), oB b2 T_Term (Term.C (⟨a2.kind, a2.name, a2.other, a2.form, s_2⟩ : Term))] [fS 4 Nd.C s_0 a0, fS 2 Hyp.C s_1 a1, oDTerm s_2 a2.sub, oEt] := back _ _ _ _ S2 rfl
 clear back S2 SB20
 refine wd (does_mv_t rfl) ?_
 refine wd (does_extract rfl rfl) ?_
 refine wd (does_extract rfl rfl) ?_
 refine wd (does_as_i rfl) ?_
 refine wd (does_as_i rfl) ?_
 refine wl_nil ?_
 refine wc_seq (wc_seq (wc_region ?_))
 refine wd (does_mv_i rfl) ?_
 refine wd (does_eq rfl rfl) ?_
 refine wl_nil ?_
 obtain ⟨o21, e21, Ho21⟩ := bind_ex H
 replace H := e21; clear e21
 refine wc_cutq [10, 16, 17, 52, 53, 54, 55, 56, 57, 58, 59, 60, 61, 62, 63, 64, 65, 66, 67, 68, 69, 70, 71] (fun fr W => ∃ s21 : Unit, o21 = .inl s21 ∧ St A N w W [oT a8 r5.1, oR a9 r5.2.1, oB b4 T_Hyp (Hyp.C a4), oB b2 T_Term (Term.C (⟨a2.kind, a2.name, a2.other, a2.form, s_2⟩ : Term))] [fS 4 Nd.C s_0 a0, fS 2 Hyp.C s_1 a1, oDTerm s_2 a2.sub, oEt]) ?_ ?_
 ·refine wc_if rfl (fun hc22 => ?_) (fun hc22 => ?_)
  ·replace H := if_t hc22 H
   refine wc_seq (wc_region ?_)
   refine wd (does_mv_p rfl) ?_
   refine wd (does_mv_l rfl) ?_
   refine wd (does_load_agg ag_Term rfl ((S.blk 3).all _ (Term.len _)) (Term.len _)) ?_
   refine wd (does_mv_i rfl) ?_
   obtain ⟨r23, er23, H⟩ := bind_ex H
   obtain ⟨B25, MB25, SB25, back⟩ := S.calln 0 ((.o 0 rfl (.z 1 rfl (.z 2 rfl (.z 3 rfl .nil)))))
   refine wl_call (does_call ca_types_Check) (by decide) (types_Check_st (a2 := a2) SB25 er23) ?_
   rintro _ w24 ⟨rfl, S2⟩
   replace S : St A N w w24 [oT a8 r5.1, oR a9 r5.2.1, oB b4 T_Hyp (Hyp.C a4), oB b2 T_Term (Term.C (⟨a2.kind, a2.name, a2.other, a2.form, s_2⟩ : Term))] [fS 4 Nd.C s_0 a0, fS 2 Hyp.C s_1 a1, oDTerm s_2 a2.sub, oEt] := back _ _ _ _ S2 rfl
   clear back S2 SB25
   refine wd (does_as_i rfl) ?_
   refine wl_nil ?_
   refine wc_seq (wc_region ?_)
   refine wd (does_mv_p rfl) ?_
   refine wd (does_mv_l rfl) ?_
   refine wd (does_load_agg ag_Term rfl ((S.blk 3).all _ (Term.len _)) (Term.len _)) ?_
   refine wd (does_mv_i rfl) ?_
   obtain ⟨r26, er26, H⟩ := bind_ex H
   obtain ⟨B28, MB28, SB28, back⟩ := S.calln 0 ((.o 0 rfl (.z 1 rfl (.z 2 rfl (.z 3 rfl .nil)))))
   refine wl_call (does_call ca_types_Check) (by decide) (types_Check_st (a2 := a2) SB28 er26) ?_
   rintro _ w27 ⟨rfl, S2⟩
   replace S : St A N w w27 [oT a8 r5.1, oR a9 r5.2.1, oB b4 T_Hyp (Hyp.C a4), oB b2 T_Term (Term.C (⟨a2.kind, a2.name, a2.other, a2.form, s_2⟩ : Term))] [fS 4 Nd.C s_0 a0, fS 2 Hyp.C s_1 a1, oDTerm s_2 a2.sub, oEt] := back _ _ _ _ S2 rfl
   clear back S2 SB28
   refine wd (does_as_i rfl) ?_
   refine wl_nil ?_
   refine wc_seq (wc_region ?_)
   refine wd (does_mv_i rfl) ?_
   refine wd (does_ne rfl rfl) ?_
   refine wd (does_mv_b rfl) ?_
   refine wl_guard (j := 2) (pol := false) rfl rfl rfl (by decide) (fun hg => does_mv_i rfl) (by decide) ?_
   refine wl_guard (j := 2) (pol := false) rfl rfl rfl (by decide) (fun hg => does_eq (gv_yes hg) rfl) (by decide) ?_
   refine wl_guard (j := 2) (pol := false) rfl rfl rfl (by decide) (fun hg => does_mv_i rfl) (by decide) ?_
   refine wl_guard (j := 2) (pol := false) rfl rfl rfl (by decide) (fun hg => does_mv_i rfl) (by decide) ?_
   refine wl_guard (j := 2) (pol := false) rfl rfl rfl (by decide) (fun hg => does_eq (gv_yes hg) (gv_yes hg)) (by decide) ?_
   refine wl_guard (j := 2) (pol := false) rfl rfl rfl (by decide) (fun hg => does_neb un_bool (gv_yes hg) (gv_yes hg)) (by decide) ?_
   refine wd (does_or rfl (fun hp => (gv_yes (and_1 hp)))) ?_
   refine wl_nil ?_
   refine wc_if rfl (fun hc29 => ?_) (fun hc29 => ?_)
   ·replace H := if_t hc29 H
    refine wc_seq (wc_region ?_)
    refine wd (does_as_b rfl) ?_
    refine wl_nil ?_
    refine wc_ret ?_
    refine ⟨_, (rets1 (retOne_tmp rfl)), ?_⟩
    replace S : St A N w w27 [] [] := S.arr [] []
    obtain rfl := Option.some.inj H
    obtain rfl := aft_r Ho21
    exact ⟨rfl, S⟩
   replace H := if_f hc29 H
   refine wc_skip ?_
   obtain rfl := Option.some.inj H
   exact ⟨rfl, (((((((((((((((((((((((Dif.refl _ _).upd rfl _).upd rfl _).upd rfl _).upd rfl _).upd rfl _).upd rfl _).upd rfl _).upd rfl _).upd rfl _).upd rfl _).upd rfl _).upd rfl _).upd rfl _).upd rfl _).upd rfl _).upd rfl _).upd rfl _).upd rfl _).upd rfl _).upd rfl _).upd rfl _).upd rfl _), (), rfl, S⟩
  ·replace H := if_f hc22 H
   refine wc_skip ?_
   obtain rfl := Option.some.inj H
   exact ⟨rfl, (Dif.refl _ _), (), rfl, S⟩
 rintro g30 u31 ⟨s21, rfl, S⟩
 have H := Ho21
 dsimp only [aft] at H
 refine wc_seq (wc_region ?_)
 refine wd (does_load_agg ag_Hyp rfl ((S.blk 2).all _ (Hyp.len _)) (Hyp.len _)) ?_
 refine wl_lits (C := Hyp.C) (l := [a4]) (vs := [.agg (Hyp.C a4).toArray]) sl_L_api_Hyp el_Hyp.zero rfl rfl (fun a _ => Hyp.len a) (by decide) rfl (by decide) fun b33 w32 s34 hBw32 hw32 => ?_
 replace S : St A N w w32 [oS T_Hyp 2 Hyp.C s34 ([a4]), oT a8 r5.1, oR a9 r5.2.1, oB b4 T_Hyp (Hyp.C a4), oB b2 T_Term (Term.C (⟨a2.kind, a2.name, a2.other, a2.form, s_2⟩ : Term))] [fS 4 Nd.C s_0 a0, fS 2 Hyp.C s_1 a1, oDTerm s_2 a2.sub, oEt] := S.lit hBw32 hw32 (by simp)
 refine wd (does_mv_l rfl) ?_
 obtain ⟨ha37, H⟩ := chk_ex H
 have ha37 := of_decide_eq_true ha37
 refine wl_appendm (C := Hyp.C) sl_L_api_Hyp el_Hyp rfl rfl (S.sl 0) (S.rd 1) Hyp.one ha37 (by omega) (by decide) fun s36 w35 O hw35 gw35 => ?_
 replace S : St A N w w35 [oS T_Hyp 2 Hyp.C s36 (([a4]) ++ a1), oT a8 r5.1, oR a9 r5.2.1, oB b4 T_Hyp (Hyp.C a4), oB b2 T_Term (Term.C (⟨a2.kind, a2.name, a2.other, a2.form, s_2⟩ : Term))] [fS 4 Nd.C s_0 a0, fS 2 Hyp.C s_1 a1, oDTerm s_2 a2.sub, oEt] := S.push 0 O (by first | (simp; done) | (simp; omega)) hw35 gw35
 clear O
 refine wd (does_as_l rfl) ?_
 refine wl_nil ?_
 refine wc_seq (wc_region ?_)
 refine wd (does_mv_p rfl) ?_
 refine wd (does_mv_l rfl) ?_
 refine wd (does_load_agg ag_Term rfl ((S.blk 4).all _ (Term.len _)) (Term.len _)) ?_
 refine wd (does_mv_i rfl) ?_
 obtain ⟨r38, er38, H⟩ := bind_ex H
 obtain ⟨B40, MB40, SB40, back⟩ := S.calln 0 ((.o 1 rfl (.z 1 rfl (.z 2 rfl (.z 3 rfl .nil)))))
 refine wl_call (does_call ca_types_Check) (by decide) (types_Check_st (a2 := a2) SB40 er38) ?_
 rintro _ w39 ⟨rfl, S2⟩
 replace S : St A N w w39 [oS T_Hyp 2 Hyp.C s36 (([a4]) ++ a1), oT a8 r5.1, oR a9 r5.2.1, oB b4 T_Hyp (Hyp.C a4), oB b2 T_Term (Term.C (⟨a2.kind, a2.name, a2.other, a2.form, s_2⟩ : Term))] [fS 4 Nd.C s_0 a0, fS 2 Hyp.C s_1 a1, oDTerm s_2 a2.sub, oEt] := back _ _ _ _ S2 rfl
 clear back S2 SB40
 refine wd (does_as_i rfl) ?_
 refine wl_nil ?_
 refine wc_seq (wc_region ?_)
 refine wd (does_mv_p rfl) ?_
 refine wd (does_mv_l rfl) ?_
 refine wd (does_load_agg ag_Term rfl ((S.blk 4).all _ (Term.len _)) (Term.len _)) ?_
 refine wd (does_mv_i rfl) ?_
 obtain ⟨r41, er41, H⟩ := bind_ex H
 obtain ⟨B43, MB43, SB43, back⟩ := S.calln 0 ((.o 1 rfl (.s 0 rfl (.z 2 rfl (.z 3 rfl .nil)))))
 refine wl_call (does_call ca_types_Check) (by decide) (types_Check_st (a2 := a2) SB43 er41) ?_
 rintro _ w42 ⟨rfl, S2⟩
 replace S : St A N w w42 [oS T_Hyp 2 Hyp.C s36 (([a4]) ++ a1), oT a8 r5.1, oR a9 r5.2.1, oB b4 T_Hyp (Hyp.C a4), oB b2 T_Term (Term.C (⟨a2.kind, a2.name, a2.other, a2.form, s_2⟩ : Term))] [fS 4 Nd.C s_0 a0, fS 2 Hyp.C s_1 a1, oDTerm s_2 a2.sub, oEt] := back _ _ _ _ S2 rfl
 clear back S2 SB43
 refine wd (does_as_i rfl) ?_
 refine wl_nil ?_
 refine wc_seq (wc_region ?_)
 refine wd (does_mv_i rfl) ?_
 refine wd (does_mv_i rfl) ?_
 refine wd (does_eq rfl rfl) ?_
 refine wd (does_mv_b rfl) ?_
 refine wl_guard (j := 3) (pol := false) rfl rfl rfl (by decide) (fun hg => does_mv_i rfl) (by decide) ?_
 refine wl_guard (j := 3) (pol := false) rfl rfl rfl (by decide) (fun hg => does_eq (gv_yes hg) rfl) (by decide) ?_
 refine wd (does_or rfl (fun hp => (gv_yes (and_1 hp)))) ?_
 refine wd (does_mv_b rfl) ?_
 obtain ⟨r44, er44, H⟩ := bind_ex H
 refine wl_gcall (j := 7) (pol := true) rfl rfl rfl (by decide) (fun hg => does_callg ca_law13_heads rfl) (by decide) (fun hg => (have ⟨M, SS⟩ := S.lend ((.z 3 rfl .nil)); quiet (law13_heads_st SS (if_t (by simpa using hg) er44)) (fun v w' h => ⟨h.1, _, _, h.2⟩))) fun w45 hw45 => ?_
 replace S := S.ext hw45
 refine wd (does_and rfl (fun hp => (gv_yes (and_1 hp)))) ?_
 refine wd (does_as_b rfl) ?_
 refine wl_nil ?_
 refine wc_ret ?_
 refine ⟨_, (rets1 (retOne_tmp rfl)), ?_⟩
 replace S : St A N w w45 [] [] := S.arr [] []
 obtain rfl := Option.some.inj H
 exact ⟨rfl, S⟩
end Go.Proofs.YtjebgcoknpcadaaDoor
end
section
namespace Go.Proofs.YtjebgcoknpcadaaDoor
open Gw
theorem forN_find {σ ρ : Type} {b : Int → σ → Option (Stp σ ρ)} {p : Nat → Bool} {r : Nat → ρ} : ∀ (n i : Nat) (s : σ), (∀ j : Nat, i ≤ j → j < i + n → b j s = some (if p j then .ret (r j) else .go s)) → forN b n i s = some (match (List.range' i n).find? p with | some j => .inr (r j) | none => .inl s)
 | 0, i, s, _ => rfl
 | n + 1, i, s, h => by
  rw [forN, h i (Nat.le_refl _) (by omega), List.range'_succ]
  cases hp : p i with
  | true => simp [hp, List.find?_cons]
  | false =>
   have := forN_find n (i + 1) s fun j h1 h2 => h j (by omega) (by omega)
   simpa [hp, List.find?_cons] using this
abbrev nd (M : List Nd) (i : Int) : Nd := (nodeS M i).1
structure Wf (M : List Nd) : Prop where
 len : M.length ≤ 1024
 nodup : M.Nodup
 kind : ∀ i : Int, inb i M.length = true → (nd M i).kind = 1 ∨ (nd M i).kind = 2 ∨ (nd M i).kind = 3 ∨ (nd M i).kind = 4 ∨ (nd M i).kind = 5
 kids : ∀ i : Int, inb i M.length = true → (nd M i).kind = 3 ∨ (nd M i).kind = 4 ∨ (nd M i).kind = 5 → (0 ≤ (nd M i).l ∧ (nd M i).l < i) ∧ 0 ≤ (nd M i).r ∧ (nd M i).r < i
theorem Wf.left {M : List Nd} (h : Wf M) {i : Int} (hi : inb i M.length = true) (hk : (nd M i).kind = 3 ∨ (nd M i).kind = 4 ∨ (nd M i).kind = 5) : inb (nd M i).l M.length = true := by
 have h1 := h.kids i hi hk
 have h2 := inb_ex hi
 simp only [inb, Bool.and_eq_true, decide_eq_true_eq]; omega
theorem Wf.right {M : List Nd} (h : Wf M) {i : Int} (hi : inb i M.length = true) (hk : (nd M i).kind = 3 ∨ (nd M i).kind = 4 ∨ (nd M i).kind = 5) : inb (nd M i).r M.length = true := by
 have h1 := h.kids i hi hk
 have h2 := inb_ex hi
 simp only [inb, Bool.and_eq_true, decide_eq_true_eq]; omega
theorem find_congr {α : Type} {p q : α → Bool} : ∀ {l : List α}, (∀ x ∈ l, p x = q x) → l.find? p = l.find? q
 | [], _ => rfl
 | x :: l, h => by
  rw [List.find?_cons, List.find?_cons, h x (by simp), find_congr fun y hy => h y (by simp [hy])]
theorem any_find {α : Type} {p : α → Bool} : ∀ (l : List α), l.any p = (l.find? p).isSome
 | [] => rfl
 | x :: l => by
  rw [List.any_cons, List.find?_cons, any_find l]
  cases p x <;> rfl
theorem inb_nat (j n : Nat) : inb (j : Int) n = decide (j < n) := by
 unfold inb
 rw [decide_eq_true (show 0 ≤ (j : Int) by omega), Bool.true_and, decide_eq_decide]
 omega
theorem wrap_small {n : Int} (h : 0 ≤ n ∧ n < 9223372036854775808) : IntKind.i64.wrap n = n := by
 exact IntWalk.i64_in _ ⟨by omega, by omega⟩
theorem idx_find (n : Nd) : ∀ (N : List Nd) (s : Nat), (List.range' s N.length).find? (fun k => decide (N.getD (k - s) Nd.z = n)) = (N.idxOf? n).map (· + s)
 | [], s => rfl
 | a :: N, s => by
  rw [List.length_cons, List.range'_succ, List.find?_cons, List.idxOf?_cons]
  by_cases h : a = n
  ·simp [h]
  ·have h1 : (a == n) = false := by simpa using h
   have h2 : (List.range' (s + 1) N.length).find? (fun k => decide ((a :: N).getD (k - s) Nd.z = n)) = (List.range' (s + 1) N.length).find? (fun k => decide (N.getD (k - (s + 1)) Nd.z = n)) := find_congr fun k hk => by
    have hk := (List.mem_range'_1.1 hk).1
    rw [show k - s = (k - (s + 1)) + 1 by omega]; simp
   simp only [Nat.sub_self, List.getD_cons_zero, h, decide_false, h1, h2, idx_find n N (s + 1)]
   cases N.idxOf? n with
   | none => rfl
   | some k => simp; omega
theorem docFind (N : List Nd) (n : Nd) : ref03_T_Find.f (some N) n = some (match N.idxOf? n with | some k => ((k : Int), true) | none => (0, false)) := by
 unfold ref03_T_Find.f
 have h1 := forN_find (b := fun i s => ref03_T_Find.b0 (some N) n i) (p := fun k => decide (N.getD k Nd.z = n)) (r := fun k => ((k : Int), true)) N.length 0 () (by
  intro k _ hk
  unfold ref03_T_Find.b0 at_
  rw [Int.toNat_natCast, Option.getD_some]
  split <;> rfl)
 have e0 : (((N.length : Nat) : Int) - 0).toNat = N.length := by omega
 simp only [Option.isSome_some, Option.getD_some, chk, if_true, e0]
 rw [show (0 : Int) = ((0 : Nat) : Int) from rfl, h1]
 have h2 := idx_find n N 0
 simp only [Nat.sub_zero, Nat.add_zero] at h2
 rw [h2]
 cases N.idxOf? n <;> rfl
theorem bind_eq {α β : Type} {x : Option α} {y : α} {f : α → Option β} {r : Option β} (hx : x = some y) (h : f y = r) : x.bind f = r := by rw [hx]; exact h
theorem docPut {N : List Nd} {n : Nd} (hN : N.length ≤ 1024) (hn : n.name.size < 9223372036854775808) : ref03_T_Put.f (some N) n = some (some (putS N n).1, (putS N n).2.1, (putS N n).2.2) := by
 have hrow : ∀ i : Int, ref03_T_Has.f (some N) i = some (hasRow N i) := fun i => by simp [ref03_T_Has.f, chk, hasRow]
 have hend : ((ref03_T_Find.f (some N) n).bind fun r25 => if r25.2 then some (some N, r25.1, 0) else chk (some N).isSome (if decide (1024 ≤ ((((some N).getD []).length : Nat) : Int)) then some ((some ((some N).getD [])), 0, 30) else chk (decide ((((some N).getD []).length + 1) * 40 ≤ 140737488355328)) (some ((some (((some N).getD []) ++ [n])), IntKind.i64.wrap (((((some N).getD []) ++ [n]).length : Int) - 1), 0)))) =
   (match N.idxOf? n with | some k => some (some N, (k : Int), (0 : Int)) | none => if 1024 ≤ N.length then some (some N, 0, 30) else some (some (N ++ [n]), (N.length : Int), 0)) := by
  rw [docFind]
  cases N.idxOf? n with
  | some k => rfl
  | none =>
   simp only [Option.bind_some, Bool.false_eq_true, if_false, Option.isSome_some, Option.getD_some, chk, if_true, decide_eq_true_eq]
   by_cases h : 1024 ≤ N.length
   ·have h1 : (1024 : Int) ≤ (N.length : Int) := by omega
    simp only [h, h1, if_true]
   ·have h1 : ¬ (1024 : Int) ≤ (N.length : Int) := by omega
    have h2 : (N.length + 1) * 40 ≤ 140737488355328 := by omega
    have h3 : IntKind.i64.wrap (((N ++ [n]).length : Int) - 1) = (N.length : Int) := by
     rw [wrap_small (by simp; omega)]; simp
    simp only [h, h1, h2, h3, if_true, if_false]
 unfold ref03_T_Put.f
 refine bind_eq (y := if fitsS N n = 0 then .inl (some N) else .inr (some N, 0, fitsS N n)) ?_ ?_
 ·unfold fitsS
  simp only [hrow, ref03_Word.f, hn, chk, decide_true, if_true, Option.bind_some]
  by_cases k1 : n.kind = 1
  ·simp only [k1, decide_true, if_true]
   by_cases hl : n.l = 0
   ·by_cases hr : n.r = 0
    ·by_cases hw : isWord n.name <;> simp [hl, hr, hw]
    ·simp [hl, hr]
   ·simp [hl]
  by_cases k2 : n.kind = 2
  ·have e : (n = { Nd.z with kind := 2 }) ↔ (n.name = ⟨#[]⟩ ∧ n.l = 0 ∧ n.r = 0) := by
    constructor
    ·intro h; rw [h]; exact ⟨rfl, rfl, rfl⟩
    ·rintro ⟨h1, h2, h3⟩
     obtain ⟨a, b, c, d⟩ := n
     simp only at k2 h1 h2 h3
     subst k2 h1 h2 h3; rfl
   simp only [k2, decide_true, if_true, show ¬ ((2 : Int) = 1) by decide, decide_false, Bool.false_eq_true, if_false, e]
   by_cases hm : n.name = ⟨#[]⟩
   ·by_cases hl : n.l = 0
    ·by_cases hr : n.r = 0 <;> simp [hm, hl, hr]
    ·simp [hm, hl]
   ·simp [hm]
  by_cases k3 : n.kind = 3 ∨ n.kind = 4 ∨ n.kind = 5
  ·have ho : ((if decide (n.kind = 3) = true then some (decide (n.kind = 3)) else if decide (n.kind = 4) = true then some (decide (n.kind = 4)) else some (decide (n.kind = 5))) : Option Bool) = some true := by
    rcases k3 with k | k | k <;> simp [k]
   simp only [k1, k2, k3, decide_false, Bool.false_eq_true, if_false, if_true]
   simp only [decide_eq_true_eq] at ho ⊢
   rw [ho]
   simp only [Option.bind_some, if_true]
   by_cases hm : n.name = ⟨#[]⟩
   ·cases hl : hasRow N n.l with
    | false => simp [hm, hl]
    | true => cases hr : hasRow N n.r <;> simp [hm, hl, hr]
   ·simp [hm]
  ·have ho : ((if decide (n.kind = 3) = true then some (decide (n.kind = 3)) else if decide (n.kind = 4) = true then some (decide (n.kind = 4)) else some (decide (n.kind = 5))) : Option Bool) = some false := by
    simp only [not_or] at k3; simp [k3.1, k3.2.1, k3.2.2]
   simp only [k1, k2, k3, decide_false, Bool.false_eq_true, if_false, if_true]
   simp only [decide_eq_true_eq] at ho ⊢
   rw [ho]
   simp
 ·by_cases hf : fitsS N n = 0
  ·rw [if_pos hf]
   refine Eq.trans (show _ = _ from hend) ?_
   unfold putS
   rw [if_pos hf]
   cases N.idxOf? n with
   | some k => rfl
   | none =>
    by_cases h : 1024 ≤ N.length
    ·simp only [if_pos h]
    ·simp only [if_neg h]
  ·rw [if_neg hf, put_bad hf]; rfl
theorem progPut {N : List Nd} {n : Nd} (hn : n.name.size < 9223372036854775808) : formula_Table_Put.f (some N) n = some (some (putS N n).1, (putS N n).2.1, (putS N n).2.2) := by
 simp [formula_Table_Put.f, chk, hn]
theorem rows_take {M : List Nd} {i : Nat} (hi : i < M.length) : at_ Nd.z M i = M[i] := by
 unfold at_; rw [Int.toNat_natCast, List.getD_eq_getElem?_getD, List.getElem?_eq_getElem hi]; rfl
theorem wf_push {N : List Nd} {n : Nd} (h : Wf N) (hf : fitsS N n = 0) (hl : N.length < 1024) (hnew : n ∉ N) : Wf (N ++ [n]) := by
 have hnd : ∀ i : Int, inb i N.length = true → nd (N ++ [n]) i = nd N i := by
  intro i hi
  have h1 := inb_ex hi
  unfold nd nodeS hasRow
  have h2 : i.toNat < N.length := by omega
  rw [if_pos (by simp; omega), if_pos (by simp; omega)]
  simp only
  rw [List.getD_eq_getElem?_getD, List.getElem?_append_left h2, ← List.getD_eq_getElem?_getD]
 have hlast : nd (N ++ [n]) N.length = n := by
  unfold nd nodeS hasRow
  rw [if_pos (by simp; omega)]
  simp
 have hsplit : ∀ i : Int, inb i (N ++ [n]).length = true → inb i N.length = true ∨ i = N.length := by
  intro i hi
  have := inb_ex hi
  simp at this
  simp only [inb, Bool.and_eq_true, decide_eq_true_eq]; omega
 have hkind : n.kind = 1 ∨ n.kind = 2 ∨ n.kind = 3 ∨ n.kind = 4 ∨ n.kind = 5 := by
  unfold fitsS at hf
  by_cases k1 : n.kind = 1
  ·exact .inl k1
  by_cases k2 : n.kind = 2
  ·exact .inr (.inl k2)
  by_cases k3 : n.kind = 3 ∨ n.kind = 4 ∨ n.kind = 5
  ·exact .inr (.inr k3)
  ·simp [k1, k2, k3] at hf
 refine ⟨by simp; omega, by rw [List.nodup_append]; exact ⟨h.nodup, by simp, fun a ha b hb e => hnew (by rw [← List.mem_singleton.1 hb, ← e]; exact ha)⟩, fun i hi => ?_, fun i hi hk => ?_⟩
 ·rcases hsplit i hi with h1 | rfl
  ·rw [hnd i h1]; exact h.kind i h1
  ·rw [hlast]; exact hkind
 ·rcases hsplit i hi with h1 | rfl
  ·rw [hnd i h1] at hk ⊢; exact h.kids i h1 hk
  ·rw [hlast] at hk ⊢
   unfold fitsS at hf
   have k1 : ¬ n.kind = 1 := by omega
   have k2 : ¬ n.kind = 2 := by omega
   rw [if_neg k1, if_neg k2, if_pos hk] at hf
   split at hf
   ·simp at hf
   ·rename_i hh
    simp only [not_or, Bool.not_eq_false] at hh
    obtain ⟨⟨_, h1⟩, h2⟩ := hh
    simp only [hasRow, Bool.and_eq_true, decide_eq_true_eq] at h1 h2
    exact ⟨h1, h2⟩
theorem from_some {rows : List Nd} (hn : ∀ n ∈ rows, n.name.size < 9223372036854775808) : ∃ r : Tb × Int, ref03_From.f rows = some r ∧ formula_From.f rows = some r ∧ (r.2 = 0 → r.1 = some rows ∧ Wf rows) := by
 have hstep : ∀ (N : List Nd) (i : Nat), i < rows.length → N.length ≤ 1024 → ref03_From.b0 rows i (some N) = some (if (putS N (at_ Nd.z rows i)).2.2 ≠ 0 then .ret (none, (putS N (at_ Nd.z rows i)).2.2) else if (putS N (at_ Nd.z rows i)).2.1 ≠ i then .ret (none, 31) else .go (some (putS N (at_ Nd.z rows i)).1)) ∧
   formula_From.b0 rows i (some N) = ref03_From.b0 rows i (some N) := by
  intro N i hi hN
  have hm : (at_ Nd.z rows i).name.size < 9223372036854775808 := by rw [rows_take hi]; exact hn _ (List.getElem_mem hi)
  have h1 : ref03_From.b0 rows i (some N) = some (if (putS N (at_ Nd.z rows i)).2.2 ≠ 0 then .ret (none, (putS N (at_ Nd.z rows i)).2.2) else if (putS N (at_ Nd.z rows i)).2.1 ≠ i then .ret (none, 31) else .go (some (putS N (at_ Nd.z rows i)).1)) := by
   unfold ref03_From.b0
   rw [docPut hN hm]
   simp only [Option.bind_some, decide_eq_true_eq]
   split
   ·rfl
   ·split <;> rfl
  refine ⟨h1, ?_⟩
  rw [h1]
  unfold formula_From.b0
  rw [progPut hm]
  simp only [Option.bind_some]
  by_cases e : (putS N (at_ Nd.z rows i)).2.2 = 0
  ·by_cases e2 : (putS N (at_ Nd.z rows i)).2.1 = i
   ·simp [e, e2]
   ·simp [e, e2]
  ·simp [e]
 have main : ∀ (n i : Nat), i + n = rows.length → i ≤ 1024 → Wf (rows.take i) → ∃ o, forN (fun j s => ref03_From.b0 rows j s) n i (some (rows.take i)) = some o ∧ forN (fun j s => formula_From.b0 rows j s) n i (some (rows.take i)) = some o ∧
   ((∃ e, e ≠ 0 ∧ o = .inr (none, e)) ∨ (o = .inl (some rows) ∧ Wf rows)) := by
  intro n
  induction n with
  | zero =>
   intro i hi _ hw
   rw [List.take_of_length_le (by omega)] at hw ⊢
   exact ⟨_, rfl, rfl, .inr ⟨rfl, hw⟩⟩
  | succ n ih =>
   intro i hi hle hw
   have hil : i < rows.length := by omega
   have hlen : (rows.take i).length = i := by simp; omega
   obtain ⟨h1, h2⟩ := hstep (rows.take i) i hil (by omega)
   simp only [forN]
   rw [h2, h1]
   by_cases e : (putS (rows.take i) (at_ Nd.z rows i)).2.2 = 0
   ·by_cases e2 : (putS (rows.take i) (at_ Nd.z rows i)).2.1 = i
    ·simp only [e, e2, ne_eq, not_true_eq_false, if_false, Option.bind_some]
     have hput : fitsS (rows.take i) (at_ Nd.z rows i) = 0 ∧ i < 1024 ∧ at_ Nd.z rows i ∉ rows.take i ∧ (putS (rows.take i) (at_ Nd.z rows i)).1 = rows.take i ++ [at_ Nd.z rows i] := by
      by_cases hf : fitsS (rows.take i) (at_ Nd.z rows i) = 0
      ·cases hk : (rows.take i).idxOf? (at_ Nd.z rows i) with
       | some k =>
        rw [put_old hf hk] at e2
        have : k < (rows.take i).length := by
         have := List.idxOf?_eq_some_iff.1 hk
         exact this.1
        simp only at e2; omega
       | none =>
        by_cases hl : 1024 ≤ (rows.take i).length
        ·rw [put_full hf hk hl] at e; simp at e
        ·rw [put_new hf hk hl]
         exact ⟨hf, by omega, List.idxOf?_eq_none_iff.1 hk, rfl⟩
      ·rw [put_bad hf] at e; exact absurd e hf
     obtain ⟨hf, hlt, hnew, hp⟩ := hput
     have ht : rows.take i ++ [at_ Nd.z rows i] = rows.take (i + 1) := by
      rw [rows_take hil, List.take_succ_eq_append_getElem hil]
     rw [hp, ht]
     have := ih (i + 1) (by omega) (by omega) (by rw [← ht]; exact wf_push hw hf (by omega) hnew)
     simpa using this
    ·simp only [e, e2, ne_eq, not_true_eq_false, not_false_eq_true, if_false, if_true, Option.bind_some]
     exact ⟨_, rfl, rfl, .inl ⟨31, by decide, rfl⟩⟩
   ·simp only [e, ne_eq, not_false_eq_true, if_true, Option.bind_some]
    exact ⟨_, rfl, rfl, .inl ⟨_, e, rfl⟩⟩
 have e0 : (((rows.length : Nat) : Int) - 0).toNat = rows.length := by omega
 obtain ⟨o, h1, h2, h3⟩ := main rows.length 0 (by omega) (by omega) ⟨by simp, by simp, fun i hi => absurd (inb_ex hi) (by simp), fun i hi => absurd (inb_ex hi) (by simp)⟩
 unfold ref03_From.f formula_From.f formula_New.f
 rw [e0]
 simp only [Option.bind_some]
 rw [show (0 : Int) = ((0 : Nat) : Int) from rfl]
 rw [List.take_zero] at h1 h2
 rw [h1, h2]
 rcases h3 with ⟨e, he, rfl⟩ | ⟨rfl, hw⟩
 ·exact ⟨_, rfl, rfl, fun q => absurd q he⟩
 ·exact ⟨_, rfl, rfl, fun _ => ⟨rfl, hw⟩⟩
theorem both_some {rows : List Nd} (hn : ∀ n ∈ rows, n.name.size < 9223372036854775808) (hl : rows.length * 40 ≤ 140737488355328) : law03_Both.f rows = some (none, none, false) ∨ (law03_Both.f rows = some (some rows, some rows, true) ∧ Wf rows) := by
 obtain ⟨r, h1, h2, h3⟩ := from_some hn
 have hc : (([] : List Nd).length + rows.length) * 40 ≤ 140737488355328 := by rw [List.length_nil, Nat.zero_add]; exact hl
 unfold law03_Both.f
 rw [chk, if_pos (decide_eq_true hc), h1]
 simp only [Option.bind_some, List.nil_append, h2]
 by_cases e : r.2 = 0
 ·obtain ⟨h4, hw⟩ := h3 e
  exact .inr ⟨by rw [h4]; simp [e], hw⟩
 ·exact .inl (by simp [e])
end Go.Proofs.YtjebgcoknpcadaaDoor
end
