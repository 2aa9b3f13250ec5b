/- TypesNobody, where what it reads is of the bulk that the row names: the row's statement and its card. The variable errors.errorType reads as the program lays it. Printed by card13.py, a program of mine. -/
import Derived.Test.YtjebgcoknpcadaaDoorMN2
import Derived.Test.YtjebgcoknpcadaaDoorCards
import Derived.Test.YtjebgcoknpcadaaDoorTie
import Derived.WalkKit
import Derived.ProofKit
import Derived.OpenShut
import Derived.Deep.DeepHandedRow
import Derived.Deep.Slices
import Derived.LaidHandle
set_option linter.unusedVariables false
set_option linter.unusedSimpArgs false
section
namespace Go.Proofs.YtjebgcoknpcadaaDoor
open Gw Go.RowKit
set_option maxHeartbeats 4000000
set_option maxRecDepth 20000
theorem types_checker_node_st {A : Nat → Prop} {N : Oth} {w : World} {a0 : PChecker} {a_0 : Option Addr} {a1 : Int} {a2 : Int} (S : St A N w w [] [oT a_0 a0.t]) {r : Nd × (Option (Int × List Int))} (H : types_checker_node.f a0 a1 a2 = some r) :
  Calls PP F_types_checker_node #[.agg (Checker.C (⟨a_0⟩ : Checker)).toArray, .int .i64 a1, .int .i64 a2] w fun e w' => ∃ v, e = .returned v ∧ (∃ vo0 : Value, v = .tuple #[.agg (Nd.C r.1).toArray, vo0] ∧ St A N w w' [oE vo0 r.2] []) := by
 unfold types_checker_node.f at H
 refine calls_of_wc (n := 26) fn_types_checker_node rfl rfl (by simp) ?_
 refine wc_seq (wc_region ?_)
 refine wl_box_agg rfl (by decide) fun b2 w1 hw1 => ?_
 replace S : St A N w w1 [oB b2 T_Checker (Checker.C (⟨a_0⟩ : Checker))] [oT a_0 a0.t] := S.new hw1
 refine wl_alloc ze_Nd (by decide) fun b4 w3 hw3 => ?_
 replace S : St A N w w3 [oB b4 T_Nd (Nd.C Nd.z), oB b2 T_Checker (Checker.C (⟨a_0⟩ : Checker))] [oT a_0 a0.t] := S.new hw3
 refine wd (does_assign rfl) ?_
 refine wl_nil ?_
 refine wc_seq (wc_region ?_)
 refine wd (does_fieldAddr fl_Checker_t rfl (o' := 0) rfl) ?_
 refine wd (does_load on_dictum_formula_has rfl ((S.blk 1).cell (Checker.get_t _))) ?_
 refine wd (does_mv_i rfl) ?_
 obtain ⟨r5, er5, H⟩ := bind_ex H
 obtain ⟨B7, MB7, SB7, back⟩ := S.calln 0 ((.z 0 rfl .nil))
 refine wl_call (does_call ca_formula_Table_Node) (by decide) (formula_Table_Node_st SB7 er5) ?_
 rintro _ w6 ⟨rfl, S2⟩
 replace S : St A N w w6 [oB b4 T_Nd (Nd.C Nd.z), oB b2 T_Checker (Checker.C (⟨a_0⟩ : Checker))] [oT a_0 a0.t] := back _ _ _ _ S2 rfl
 clear back S2 SB7
 refine wd (does_mv_t rfl) ?_
 refine wd (does_extract rfl rfl) ?_
 refine wd (does_extract rfl rfl) ?_
 refine wl_alloc ze_Nd (by decide) fun b9 w8 hw8 => ?_
 replace S : St A N w w8 [oB b9 T_Nd (Nd.C Nd.z), oB b4 T_Nd (Nd.C Nd.z), oB b2 T_Checker (Checker.C (⟨a_0⟩ : Checker))] [oT a_0 a0.t] := S.new hw8
 refine wl_store_agg ag_Nd rfl rfl (S.blk 0) (Nd.len _) (by rw [Nd.len]; decide) (Nd.one _) (store_all (Nd.len _)) fun w10 B hw10 zw10 => ?_
 replace S : St A N w w10 [oB b9 T_Nd (Nd.C r5.1), oB b4 T_Nd (Nd.C Nd.z), oB b2 T_Checker (Checker.C (⟨a_0⟩ : Checker))] [oT a_0 a0.t] := S.store 0 B hw10
 clear B
 refine wd (does_as_b rfl) ?_
 refine wl_nil ?_
 refine wc_seq (wc_seq (wc_region ?_))
 refine wd (does_fieldAddr fl_Nd_kind rfl (o' := 0) rfl) ?_
 refine wd (does_load on_api_Kind rfl ((S.blk 0).cell (Nd.get_kind _))) ?_
 refine wd (does_mv_i rfl) ?_
 refine wd (does_ne rfl rfl) ?_
 refine wl_nil ?_
 refine wc_if rfl (fun hc11 => ?_) (fun hc11 => ?_)
 ·replace H := if_t hc11 H
  refine wc_seq (wc_region ?_)
  refine wd (does_load_agg ag_Nd rfl ((S.blk 0).all _ (Nd.len _)) (Nd.len _)) ?_
  refine wd (Does.to (v' := .agg (Refusal.C (⟨130, SlV.nil⟩ : Refusal)).toArray) (does_buildv (vs := [(0, .int .i64 130)]) bu_Refusal (consP rfl rfl) (Bld.one rfl rfl (by rw [Refusal.len]; decide) (Refusal.set_code _ _) Bld.nil)) rfl) ?_
  refine wl_box_agg rfl (by decide) fun b13 w12 hw12 => ?_
  replace S : St A N w w12 [oB b13 T_Refusal (Refusal.C (⟨130, SlV.nil⟩ : Refusal)), oB b9 T_Nd (Nd.C r5.1), oB b4 T_Nd (Nd.C Nd.z), oB b2 T_Checker (Checker.C (⟨a_0⟩ : Checker))] [oT a_0 a0.t] := S.new hw12
  refine wd (does_makeInterface rfl) ?_
  replace S := S.nil T_int 1 IC
  replace S := S.front 1
  replace S : St A N w w12 [oE (.iface T_P_Refusal (.pointer (some ⟨b13, 0, none⟩))) (some (130, ([] : List Int))), oB b9 T_Nd (Nd.C r5.1), oB b4 T_Nd (Nd.C Nd.z), oB b2 T_Checker (Checker.C (⟨a_0⟩ : Checker))] [oT a_0 a0.t] := S.mkE
  refine wl_store_agg ag_Nd rfl rfl (S.blk 2) (Nd.len _) (by rw [Nd.len]; decide) (Nd.one _) (store_all (Nd.len _)) fun w14 B hw14 zw14 => ?_
  replace S : St A N w w14 [oB b4 T_Nd (Nd.C r5.1), oE (.iface T_P_Refusal (.pointer (some ⟨b13, 0, none⟩))) (some (130, ([] : List Int))), oB b9 T_Nd (Nd.C r5.1), oB b2 T_Checker (Checker.C (⟨a_0⟩ : Checker))] [oT a_0 a0.t] := S.store 2 B hw14
  clear B
  refine wd (does_assign rfl) ?_
  refine wl_nil ?_
  refine wc_ret ?_
  refine ⟨_, (rets2 (retOne_agg ag_Nd rfl ((S.blk 0).all _ (Nd.len _)) (Nd.len _)) (retOne_tmp rfl)), ?_⟩
  replace S : St A N w w14 [oE (.iface T_P_Refusal (.pointer (some ⟨b13, 0, none⟩))) (some (130, ([] : List Int)))] [] := S.arr [1] []
  obtain rfl := Option.some.inj H
  exact ⟨(.iface T_P_Refusal (.pointer (some ⟨b13, 0, none⟩))), rfl, S⟩
 replace H := if_f hc11 H
 refine wc_skip ?_
 refine wc_seq (wc_region ?_)
 refine wd (does_load_agg ag_Nd rfl ((S.blk 0).all _ (Nd.len _)) (Nd.len _)) ?_
 refine wl_store_agg ag_Nd rfl rfl (S.blk 1) (Nd.len _) (by rw [Nd.len]; decide) (Nd.one _) (store_all (Nd.len _)) fun w15 B hw15 zw15 => ?_
 replace S : St A N w w15 [oB b4 T_Nd (Nd.C r5.1), oB b9 T_Nd (Nd.C r5.1), oB b2 T_Checker (Checker.C (⟨a_0⟩ : Checker))] [oT a_0 a0.t] := S.store 1 B hw15
 clear B
 refine wd (does_assign rfl) ?_
 refine wl_nil ?_
 refine wc_ret ?_
 replace S : St A N w w15 [oE .nilIface none, oB b4 T_Nd (Nd.C r5.1), oB b9 T_Nd (Nd.C r5.1), oB b2 T_Checker (Checker.C (⟨a_0⟩ : Checker))] [oT a_0 a0.t] := S.nilE
 refine ⟨_, (rets2 (retOne_agg ag_Nd rfl ((S.blk 1).all _ (Nd.len _)) (Nd.len _)) (retOne_tmp rfl)), ?_⟩
 replace S : St A N w w15 [oE .nilIface none] [] := S.arr [0] []
 obtain rfl := Option.some.inj H
 exact ⟨.nilIface, rfl, S⟩
theorem types_checker_part_gst {rec_types_checker_told : PChecker → PTerm → (List (ByteArray × Int)) → Option (Int × (Option (Int × List Int)))} (hrec_types_checker_told : ∀ {A : Nat → Prop} {N : Oth} {w : World} {a0 : PChecker} {a_0 : Option Addr} {a1 : PTerm} {s_1 : SlV} {a2 : List (ByteArray × Int)} {a_2 : Option Addr} (S : St A N w w [] [oT a_0 a0.t, oDTerm s_1 a1.sub, fScope a_2 a2, oEt]) {r : Int × (Option (Int × List Int))} (H : rec_types_checker_told a0 a1 a2 = some r), Calls PP F_types_checker_told #[.agg (Checker.C (⟨a_0⟩ : Checker)).toArray, .agg (Term.C (⟨a1.kind, a1.name, a1.other, a1.form, s_1⟩ : Term)).toArray, .pointer a_2] w fun e w' => ∃ v, e = .returned v ∧ (∃ vo0 : Value, v = .tuple #[.int .i64 r.1, vo0] ∧ St A N w w' [oE vo0 r.2] [])) {A : Nat → Prop} {N : Oth} {w : World} {a0 : PChecker} {a_0 : Option Addr} {a1 : PTerm} {s_1 : SlV} {a2 : Int} {a3 : List (ByteArray × Int)} {a_3 : Option Addr} (S : St A N w w [] [oT a_0 a0.t, oDTerm s_1 a1.sub, fScope a_3 a3, oEt]) {r : Int × (Option (Int × List Int))} (H : types_checker_part.g rec_types_checker_told a0 a1 a2 a3 = some r) :
  Calls PP F_types_checker_part #[.agg (Checker.C (⟨a_0⟩ : Checker)).toArray, .agg (Term.C (⟨a1.kind, a1.name, a1.other, a1.form, s_1⟩ : Term)).toArray, .int .i64 a2, .pointer a_3] w fun e w' => ∃ v, e = .returned v ∧ (∃ vo0 : Value, v = .tuple #[.int .i64 r.1, vo0] ∧ St A N w w' [oE vo0 r.2] []) := by
 unfold types_checker_part.g at H
 refine calls_of_wc (n := 27) fn_types_checker_part rfl rfl (by simp) ?_
 refine wc_seq (wc_region ?_)
 refine wl_box_agg rfl (by decide) fun b2 w1 hw1 => ?_
 replace S : St A N w w1 [oB b2 T_Checker (Checker.C (⟨a_0⟩ : Checker))] [oT a_0 a0.t, oDTerm s_1 a1.sub, fScope a_3 a3, oEt] := S.new hw1
 refine wl_box_agg rfl (by decide) fun b4 w3 hw3 => ?_
 replace S : St A N w w3 [oB b4 T_Term (Term.C (⟨a1.kind, a1.name, a1.other, a1.form, s_1⟩ : Term)), oB b2 T_Checker (Checker.C (⟨a_0⟩ : Checker))] [oT a_0 a0.t, oDTerm s_1 a1.sub, fScope a_3 a3, oEt] := S.new hw3
 refine wd (does_as_i rfl) ?_
 refine wd (does_assign rfl) ?_
 refine wl_nil ?_
 refine wc_seq ?_
 refine wc_ws hmix fun w10 K => ?_
 replace S := S.ext K
 clear K
 obtain ⟨hi11, H⟩ := chk_ex H
 obtain ⟨s12, hc13, S⟩ := S.viewTerm 1 (inb_ex hi11)
 replace S : St A N w w10 [oB b4 T_Term (Term.C (⟨a1.kind, a1.name, a1.other, a1.form, s_1⟩ : Term)), oB b2 T_Checker (Checker.C (⟨a_0⟩ : Checker))] [oDTerm s12 ((at_ PTerm.z a1.sub a2).sub), oT a_0 a0.t, oDTerm s_1 a1.sub, fScope a_3 a3, oEt] := S
 replace S : St A N w w10 [oB b4 T_Term (Term.C (⟨a1.kind, a1.name, a1.other, a1.form, s_1⟩ : Term)), oB b2 T_Checker (Checker.C (⟨a_0⟩ : Checker))] [oT a_0 a0.t, oDTerm s_1 a1.sub, fScope a_3 a3, oEt, oDTerm s12 ((at_ PTerm.z a1.sub a2).sub)] := S.zs [1, 2, 3, 4, 0]
 refine ws_semi 0 7 [] (by kernel_rfl) (by decide) (by kernel_rfl)
  (V := fun i v u => match i with
  | _ => True) ?_ ?_
 ·intro i v u u' hi hx hv
  match i, hv with
  | _, _ => exact trivial
 refine wm_does (fun v K => does_load_agg ag_Checker rfl (((S.ext K).blk 1).all _ (Checker.len _)) (Checker.len _)) rfl ?_
 refine wm_does (fun v K => does_fieldAddr fl_Term_sub rfl (o' := 4) rfl) rfl ?_
 refine wm_does (fun v K => does_load on_L_api_Term rfl (((S.ext K).blk 0).cell (Term.get_sub _))) rfl ?_
 refine wm_does (fun v K => does_mv_i rfl) rfl ?_
 refine wm_does (fun v K => does_indexF sl_L_api_Term rfl rfl ((S.ext K).onZ 1) (inb_ex hi11).1 (inb_ex hi11).2) rfl ?_
 refine wm_does (fun v K => does_load_agg ag_Term rfl (hc13.chg K (fun x => x)) (Term.len _)) rfl ?_
 refine wm_does (fun v K => does_mv_p rfl) rfl ?_
 refine wm_nil fun g w14 K hV => ?_
 replace S := S.ext K
 clear K hV
 refine ws_chain 7 9 (by kernel_rfl) (by decide) ?_
 obtain ⟨r16, er16, H⟩ := bind_ex H
 obtain ⟨B18, MB18, SB18, back⟩ := S.calln 0 ((.z 0 rfl (.z 4 rfl (.z 2 rfl (.z 3 rfl .nil)))))
 refine wl_call (does_call ca_types_checker_told) (by decide) (hrec_types_checker_told (a0 := a0) (a1 := (at_ PTerm.z a1.sub a2)) SB18 er16) ?_
 rintro _ w17 ⟨v19, rfl, S2⟩
 replace S : St A N w w17 [oE v19 r16.2, oB b4 T_Term (Term.C (⟨a1.kind, a1.name, a1.other, a1.form, s_1⟩ : Term)), oB b2 T_Checker (Checker.C (⟨a_0⟩ : Checker))] [oT a_0 a0.t, oDTerm s_1 a1.sub, fScope a_3 a3, oEt, oDTerm s12 ((at_ PTerm.z a1.sub a2).sub)] := back _ _ _ _ S2 rfl
 clear back S2 SB18
 refine wd (does_mv_t rfl) ?_
 refine wl_nil ⟨rfl, ?_⟩
 refine ws_semi 9 12 [] (by kernel_rfl) (by decide) (by kernel_rfl)
  (V := fun i v u => match i with
  | _ => True) ?_ ?_
 ·intro i v u u' hi hx hv
  match i, hv with
  | _, _ => exact trivial
 refine wm_does (fun v K => does_extract rfl rfl) rfl ?_
 refine wm_does (fun v K => does_extract rfl rfl) rfl ?_
 refine wm_does (fun v K => does_as_i rfl) rfl ?_
 refine wm_nil fun g w20 K hV => ?_
 replace S := S.ext K
 clear K hV
 refine ws_tail 12 (by kernel_rfl) (by decide) ?_
 refine wd (does_assign rfl) ?_
 refine wl_nil ?_
 refine wc_seq (wc_region ?_)
 refine wd (does_mv_i rfl) ?_
 refine wd (does_mv_i rfl) ?_
 refine wd (does_move rfl) ?_
 obtain ⟨r22, er22, H⟩ := bind_ex H
 obtain ⟨B24, MB24, SB24, back⟩ := S.calln 1 ((.z 3 rfl .nil))
 refine wl_call (does_call ca_types_at) (by decide) (types_at_st (a1 := r16.2) SB24 er22) ?_
 rintro v25 w23 ⟨_, rfl, S2⟩
 replace S : St A N w w23 [oE v25 r22, oB b4 T_Term (Term.C (⟨a1.kind, a1.name, a1.other, a1.form, s_1⟩ : Term)), oB b2 T_Checker (Checker.C (⟨a_0⟩ : Checker))] [oT a_0 a0.t, oDTerm s_1 a1.sub, fScope a_3 a3, oEt, oDTerm s12 ((at_ PTerm.z a1.sub a2).sub)] := back _ _ _ _ S2 rfl
 clear back S2 SB24
 refine wd (does_as_i rfl) ?_
 refine wd (does_assign rfl) ?_
 refine wl_nil ?_
 refine wc_ret ?_
 refine ⟨_, (rets2 (retOne_tmp rfl) (retOne_tmp rfl)), ?_⟩
 replace S : St A N w w23 [oE v25 r22] [] := S.arr [0] []
 obtain rfl := Option.some.inj H
 exact ⟨v25, rfl, S⟩
theorem types_checker_check_gst {rec_types_checker_checked : PChecker → PTerm → (List (ByteArray × Int)) → Int → Option (Option (Int × List Int))} (hrec_types_checker_checked : ∀ {A : Nat → Prop} {N : Oth} {w : World} {a0 : PChecker} {a_0 : Option Addr} {a1 : PTerm} {s_1 : SlV} {a2 : List (ByteArray × Int)} {a_2 : Option Addr} {a3 : Int} (S : St A N w w [] [oT a_0 a0.t, oDTerm s_1 a1.sub, fScope a_2 a2, oEt]) {r : (Option (Int × List Int))} (H : rec_types_checker_checked a0 a1 a2 a3 = some r), Calls PP F_types_checker_checked #[.agg (Checker.C (⟨a_0⟩ : Checker)).toArray, .agg (Term.C (⟨a1.kind, a1.name, a1.other, a1.form, s_1⟩ : Term)).toArray, .pointer a_2, .int .i64 a3] w fun e w' => ∃ v, e = .returned v ∧ (∃ vo0 : Value, v = vo0 ∧ St A N w w' [oE vo0 r] [])) {A : Nat → Prop} {N : Oth} {w : World} {a0 : PChecker} {a_0 : Option Addr} {a1 : PTerm} {s_1 : SlV} {a2 : Int} {a3 : List (ByteArray × Int)} {a_3 : Option Addr} {a4 : Int} (S : St A N w w [] [oT a_0 a0.t, oDTerm s_1 a1.sub, fScope a_3 a3, oEt]) {r : (Option (Int × List Int))} (H : types_checker_check.g rec_types_checker_checked a0 a1 a2 a3 a4 = some r) :
  Calls PP F_types_checker_check #[.agg (Checker.C (⟨a_0⟩ : Checker)).toArray, .agg (Term.C (⟨a1.kind, a1.name, a1.other, a1.form, s_1⟩ : Term)).toArray, .int .i64 a2, .pointer a_3, .int .i64 a4] w fun e w' => ∃ v, e = .returned v ∧ (∃ vo0 : Value, v = vo0 ∧ St A N w w' [oE vo0 r] []) := by
 unfold types_checker_check.g at H
 refine calls_of_wc (n := 22) fn_types_checker_check rfl rfl (by simp) ?_
 refine wc_seq (wc_region ?_)
 refine wl_box_agg rfl (by decide) fun b2 w1 hw1 => ?_
 replace S : St A N w w1 [oB b2 T_Checker (Checker.C (⟨a_0⟩ : Checker))] [oT a_0 a0.t, oDTerm s_1 a1.sub, fScope a_3 a3, oEt] := S.new hw1
 refine wl_box_agg rfl (by decide) fun b4 w3 hw3 => ?_
 replace S : St A N w w3 [oB b4 T_Term (Term.C (⟨a1.kind, a1.name, a1.other, a1.form, s_1⟩ : Term)), oB b2 T_Checker (Checker.C (⟨a_0⟩ : Checker))] [oT a_0 a0.t, oDTerm s_1 a1.sub, fScope a_3 a3, oEt] := S.new hw3
 refine wd (does_assign rfl) ?_
 refine wl_nil ?_
 refine wc_seq ?_
 obtain ⟨hi5, H⟩ := chk_ex H
 obtain ⟨s6, hc7, S⟩ := S.viewTerm 1 (inb_ex hi5)
 replace S : St A N w w3 [oB b4 T_Term (Term.C (⟨a1.kind, a1.name, a1.other, a1.form, s_1⟩ : Term)), oB b2 T_Checker (Checker.C (⟨a_0⟩ : Checker))] [oDTerm s6 ((at_ PTerm.z a1.sub a2).sub), oT a_0 a0.t, oDTerm s_1 a1.sub, fScope a_3 a3, oEt] := S
 replace S : St A N w w3 [oB b4 T_Term (Term.C (⟨a1.kind, a1.name, a1.other, a1.form, s_1⟩ : Term)), oB b2 T_Checker (Checker.C (⟨a_0⟩ : Checker))] [oT a_0 a0.t, oDTerm s_1 a1.sub, fScope a_3 a3, oEt, oDTerm s6 ((at_ PTerm.z a1.sub a2).sub)] := S.zs [1, 2, 3, 4, 0]
 obtain ⟨r8, er8, H⟩ := bind_ex H
 refine wc_semi 10 [9]
  (fun i v u => match i with
  | 9 => ∃ v9 : Value, v = v9 ∧ ∃ F, (oE v9 r8).holds u F ∧ ∀ i, F i → w3.heap.size ≤ i
  | _ => True) hmix (by kernel_rfl) (by kernel_rfl) ?_ ?_
 ·intro i v u u' hi hx hv
  match i, hv with
  | 9, ⟨b, e1, F, hb, hl⟩ => exact ⟨b, e1, F, OA.loc _ hb hx (fun _ _ x => x), hl⟩
  | 0, _ => exact trivial
  | 1, _ => exact trivial
  | 2, _ => exact trivial
  | 3, _ => exact trivial
  | 4, _ => exact trivial
  | 5, _ => exact trivial
  | 6, _ => exact trivial
  | 7, _ => exact trivial
  | 8, _ => exact trivial
  | _ + 10, _ => exact trivial
 refine wm_does (fun v K => does_mv_i rfl) rfl ?_
 refine wm_does (fun v K => does_load_agg ag_Checker rfl (((S.ext K).blk 1).all _ (Checker.len _)) (Checker.len _)) rfl ?_
 refine wm_does (fun v K => does_fieldAddr fl_Term_sub rfl (o' := 4) rfl) rfl ?_
 refine wm_does (fun v K => does_load on_L_api_Term rfl (((S.ext K).blk 0).cell (Term.get_sub _))) rfl ?_
 refine wm_does (fun v K => does_mv_i rfl) rfl ?_
 refine wm_does (fun v K => does_indexF sl_L_api_Term rfl rfl ((S.ext K).onZ 1) (inb_ex hi5).1 (inb_ex hi5).2) rfl ?_
 refine wm_does (fun v K => does_load_agg ag_Term rfl (hc7.chg K (fun x => x)) (Term.len _)) rfl ?_
 refine wm_does (fun v K => does_mv_p rfl) rfl ?_
 refine wm_does (fun v K => does_mv_i rfl) rfl ?_
 refine wm_newcall (fun g v K G => (have ⟨M, SS⟩ := (S.ext K).lend ((.z 0 rfl (.z 4 rfl (.z 2 rfl (.z 3 rfl .nil))))); ⟨_, _, does_callg ca_types_checker_checked (cons2 rfl (cons2 rfl (cons2 rfl (cons2 rfl rfl)))), newc (hrec_types_checker_checked (a0 := a0) (a1 := (at_ PTerm.z a1.sub a2)) SS er8) fun _ _ ⟨v9, hv, h⟩ => ⟨h.frame, v9, hv, h.newP.elim fun F hF => ⟨F, hF.1, fun i hi => by have := hF.2 i hi; have := K.size; omega⟩⟩⟩)) rfl ?_
 refine wm_nil fun g w10 K hV => ?_
 obtain ⟨v9, hv119, F9, hb9, hf9⟩ := hV 9 rfl (by decide)
 replace S : St A N w w10 [oE v9 r8, oB b4 T_Term (Term.C (⟨a1.kind, a1.name, a1.other, a1.form, s_1⟩ : Term)), oB b2 T_Checker (Checker.C (⟨a_0⟩ : Checker))] [oT a_0 a0.t, oDTerm s_1 a1.sub, fScope a_3 a3, oEt, oDTerm s6 ((at_ PTerm.z a1.sub a2).sub)] := S.add (b := oE v9 r8) K hb9 hf9
 clear K hV
 obtain ⟨r12, er12, H⟩ := bind_ex H
 obtain ⟨B14, MB14, SB14, back⟩ := S.calln 1 ((.z 3 rfl .nil))
 refine wl_call (does_callg ca_types_at (cons2 rfl (cons2 hv119 rfl))) (by decide) (types_at_st (a1 := r8) SB14 er12) ?_
 rintro v15 w13 ⟨_, rfl, S2⟩
 replace S : St A N w w13 [oE v15 r12, oB b4 T_Term (Term.C (⟨a1.kind, a1.name, a1.other, a1.form, s_1⟩ : Term)), oB b2 T_Checker (Checker.C (⟨a_0⟩ : Checker))] [oT a_0 a0.t, oDTerm s_1 a1.sub, fScope a_3 a3, oEt, oDTerm s6 ((at_ PTerm.z a1.sub a2).sub)] := back _ _ _ _ S2 rfl
 clear back S2 SB14
 refine wd (does_assign rfl) ?_
 refine wl_nil ?_
 refine wc_ret ?_
 refine ⟨_, (rets1 (retOne_tmp rfl)), ?_⟩
 replace S : St A N w w13 [oE v15 r12] [] := S.arr [0] []
 obtain rfl := Option.some.inj H
 exact ⟨v15, rfl, S⟩
theorem types_checker_head_gst {rec_types_checker_told : PChecker → PTerm → (List (ByteArray × Int)) → Option (Int × (Option (Int × List Int)))} (hrec_types_checker_told : ∀ {A : Nat → Prop} {N : Oth} {w : World} {a0 : PChecker} {a_0 : Option Addr} {a1 : PTerm} {s_1 : SlV} {a2 : List (ByteArray × Int)} {a_2 : Option Addr} (S : St A N w w [] [oT a_0 a0.t, oDTerm s_1 a1.sub, fScope a_2 a2, oEt]) {r : Int × (Option (Int × List Int))} (H : rec_types_checker_told a0 a1 a2 = some r), Calls PP F_types_checker_told #[.agg (Checker.C (⟨a_0⟩ : Checker)).toArray, .agg (Term.C (⟨a1.kind, a1.name, a1.other, a1.form, s_1⟩ : Term)).toArray, .pointer a_2] w fun e w' => ∃ v, e = .returned v ∧ (∃ vo0 : Value, v = .tuple #[.int .i64 r.1, vo0] ∧ St A N w w' [oE vo0 r.2] [])) {A : Nat → Prop} {N : Oth} {w : World} {a0 : PChecker} {a_0 : Option Addr} {a1 : PTerm} {s_1 : SlV} {a2 : List (ByteArray × Int)} {a_2 : Option Addr} {a3 : Int} (S : St A N w w [] [oT a_0 a0.t, oDTerm s_1 a1.sub, fScope a_2 a2, oEt]) {r : Nd × (Option (Int × List Int))} (H : types_checker_head.g rec_types_checker_told a0 a1 a2 a3 = some r) :
  Calls PP F_types_checker_head #[.agg (Checker.C (⟨a_0⟩ : Checker)).toArray, .agg (Term.C (⟨a1.kind, a1.name, a1.other, a1.form, s_1⟩ : Term)).toArray, .pointer a_2, .int .i64 a3] w fun e w' => ∃ v, e = .returned v ∧ (∃ vo0 : Value, v = .tuple #[.agg (Nd.C r.1).toArray, vo0] ∧ St A N w w' [oE vo0 r.2] []) := by
 unfold types_checker_head.g at H
 refine calls_of_wc (n := 29) fn_types_checker_head rfl rfl (by simp) ?_
 refine wc_seq (wc_region ?_)
 refine wl_box_agg rfl (by decide) fun b2 w1 hw1 => ?_
 replace S : St A N w w1 [oB b2 T_Checker (Checker.C (⟨a_0⟩ : Checker))] [oT a_0 a0.t, oDTerm s_1 a1.sub, fScope a_2 a2, oEt] := S.new hw1
 refine wl_box_agg rfl (by decide) fun b4 w3 hw3 => ?_
 replace S : St A N w w3 [oB b4 T_Term (Term.C (⟨a1.kind, a1.name, a1.other, a1.form, s_1⟩ : Term)), oB b2 T_Checker (Checker.C (⟨a_0⟩ : Checker))] [oT a_0 a0.t, oDTerm s_1 a1.sub, fScope a_2 a2, oEt] := S.new hw3
 refine wl_alloc ze_Nd (by decide) fun b6 w5 hw5 => ?_
 replace S : St A N w w5 [oB b6 T_Nd (Nd.C Nd.z), oB b4 T_Term (Term.C (⟨a1.kind, a1.name, a1.other, a1.form, s_1⟩ : Term)), oB b2 T_Checker (Checker.C (⟨a_0⟩ : Checker))] [oT a_0 a0.t, oDTerm s_1 a1.sub, fScope a_2 a2, oEt] := S.new hw5
 refine wd (does_assign rfl) ?_
 refine wl_nil ?_
 refine wc_seq (wc_region ?_)
 refine wd (does_load_agg ag_Checker rfl ((S.blk 2).all _ (Checker.len _)) (Checker.len _)) ?_
 refine wd (does_load_agg ag_Term rfl ((S.blk 1).all _ (Term.len _)) (Term.len _)) ?_
 refine wd (does_mv_p rfl) ?_
 obtain ⟨r7, er7, H⟩ := bind_ex H
 obtain ⟨B9, MB9, SB9, back⟩ := S.calln 0 ((.z 0 rfl (.z 1 rfl (.z 2 rfl (.z 3 rfl .nil)))))
 refine wl_call (does_call ca_types_checker_part) (by decide) (types_checker_part_gst hrec_types_checker_told (a0 := a0) (a1 := a1) SB9 er7) ?_
 rintro _ w8 ⟨v10, rfl, S2⟩
 replace S : St A N w w8 [oE v10 r7.2, oB b6 T_Nd (Nd.C Nd.z), oB b4 T_Term (Term.C (⟨a1.kind, a1.name, a1.other, a1.form, s_1⟩ : Term)), oB b2 T_Checker (Checker.C (⟨a_0⟩ : Checker))] [oT a_0 a0.t, oDTerm s_1 a1.sub, fScope a_2 a2, oEt] := back _ _ _ _ S2 rfl
 clear back S2 SB9
 refine wd (does_mv_t rfl) ?_
 refine wd (does_extract rfl rfl) ?_
 refine wd (does_extract rfl rfl) ?_
 refine wd (does_as_i rfl) ?_
 refine wd (does_assign rfl) ?_
 refine wl_nil ?_
 refine wc_seq (wc_seq (wc_region ?_))
 refine wd (does_move rfl) ?_
 refine wd (does_neE if_error rfl rfl (S.onO 0)) ?_
 refine wl_nil ?_
 refine wc_if rfl (fun hc11 => ?_) (fun hc11 => ?_)
 ·replace H := if_t hc11 H
  refine wc_seq (wc_region ?_)
  refine wd (does_build bu_Nd Bld.nil) ?_
  refine wd (does_move rfl) ?_
  refine wl_store_agg ag_Nd rfl rfl (S.blk 1) (Nd.len _) (by rw [Nd.len]; decide) (Nd.one _) (store_all (Nd.len _)) fun w12 B hw12 zw12 => ?_
  replace S : St A N w w12 [oB b6 T_Nd (Nd.C Nd.z), oE v10 r7.2, oB b4 T_Term (Term.C (⟨a1.kind, a1.name, a1.other, a1.form, s_1⟩ : Term)), oB b2 T_Checker (Checker.C (⟨a_0⟩ : Checker))] [oT a_0 a0.t, oDTerm s_1 a1.sub, fScope a_2 a2, oEt] := S.store 1 B hw12
  clear B
  refine wd (does_assign rfl) ?_
  refine wl_nil ?_
  refine wc_ret ?_
  refine ⟨_, (rets2 (retOne_agg ag_Nd rfl ((S.blk 0).all _ (Nd.len _)) (Nd.len _)) (retOne_tmp rfl)), ?_⟩
  replace S : St A N w w12 [oE v10 r7.2] [] := S.arr [1] []
  obtain rfl := Option.some.inj H
  exact ⟨v10, rfl, S⟩
 replace H := if_f hc11 H
 refine wc_skip ?_
 refine wc_seq (wc_region ?_)
 refine wd (does_load_agg ag_Checker rfl ((S.blk 3).all _ (Checker.len _)) (Checker.len _)) ?_
 refine wd (does_mv_i rfl) ?_
 refine wd (does_mv_i rfl) ?_
 obtain ⟨r13, er13, H⟩ := bind_ex H
 obtain ⟨B15, MB15, SB15, back⟩ := S.calln 0 ((.z 0 rfl .nil))
 refine wl_call (does_call ca_types_checker_node) (by decide) (types_checker_node_st (a0 := a0) SB15 er13) ?_
 rintro _ w14 ⟨v16, rfl, S2⟩
 replace S : St A N w w14 [oE v16 r13.2, oE v10 r7.2, oB b6 T_Nd (Nd.C Nd.z), oB b4 T_Term (Term.C (⟨a1.kind, a1.name, a1.other, a1.form, s_1⟩ : Term)), oB b2 T_Checker (Checker.C (⟨a_0⟩ : Checker))] [oT a_0 a0.t, oDTerm s_1 a1.sub, fScope a_2 a2, oEt] := back _ _ _ _ S2 rfl
 clear back S2 SB15
 refine wd (does_extract rfl rfl) ?_
 refine wd (does_extract rfl rfl) ?_
 refine wl_store_agg ag_Nd rfl rfl (S.blk 2) (Nd.len _) (by rw [Nd.len]; decide) (Nd.one _) (store_all (Nd.len _)) fun w17 B hw17 zw17 => ?_
 replace S : St A N w w17 [oB b6 T_Nd (Nd.C r13.1), oE v16 r13.2, oE v10 r7.2, oB b4 T_Term (Term.C (⟨a1.kind, a1.name, a1.other, a1.form, s_1⟩ : Term)), oB b2 T_Checker (Checker.C (⟨a_0⟩ : Checker))] [oT a_0 a0.t, oDTerm s_1 a1.sub, fScope a_2 a2, oEt] := S.store 2 B hw17
 clear B
 refine wd (does_assign rfl) ?_
 refine wl_nil ?_
 refine wc_ret ?_
 refine ⟨_, (rets2 (retOne_agg ag_Nd rfl ((S.blk 0).all _ (Nd.len _)) (Nd.len _)) (retOne_tmp rfl)), ?_⟩
 replace S : St A N w w17 [oE v16 r13.2] [] := S.arr [1] []
 obtain rfl := Option.some.inj H
 exact ⟨v16, rfl, S⟩
theorem types_checker_told_gst {rec_types_checker_told : PChecker → PTerm → (List (ByteArray × Int)) → Option (Int × (Option (Int × List Int)))} (hrec_types_checker_told : ∀ {A : Nat → Prop} {N : Oth} {w : World} {a0 : PChecker} {a_0 : Option Addr} {a1 : PTerm} {s_1 : SlV} {a2 : List (ByteArray × Int)} {a_2 : Option Addr} (S : St A N w w [] [oT a_0 a0.t, oDTerm s_1 a1.sub, fScope a_2 a2, oEt]) {r : Int × (Option (Int × List Int))} (H : rec_types_checker_told a0 a1 a2 = some r), Calls PP F_types_checker_told #[.agg (Checker.C (⟨a_0⟩ : Checker)).toArray, .agg (Term.C (⟨a1.kind, a1.name, a1.other, a1.form, s_1⟩ : Term)).toArray, .pointer a_2] w fun e w' => ∃ v, e = .returned v ∧ (∃ vo0 : Value, v = .tuple #[.int .i64 r.1, vo0] ∧ St A N w w' [oE vo0 r.2] [])) {rec_types_checker_checked : PChecker → PTerm → (List (ByteArray × Int)) → Int → Option (Option (Int × List Int))} (hrec_types_checker_checked : ∀ {A : Nat → Prop} {N : Oth} {w : World} {a0 : PChecker} {a_0 : Option Addr} {a1 : PTerm} {s_1 : SlV} {a2 : List (ByteArray × Int)} {a_2 : Option Addr} {a3 : Int} (S : St A N w w [] [oT a_0 a0.t, oDTerm s_1 a1.sub, fScope a_2 a2, oEt]) {r : (Option (Int × List Int))} (H : rec_types_checker_checked a0 a1 a2 a3 = some r), Calls PP F_types_checker_checked #[.agg (Checker.C (⟨a_0⟩ : Checker)).toArray, .agg (Term.C (⟨a1.kind, a1.name, a1.other, a1.form, s_1⟩ : Term)).toArray, .pointer a_2, .int .i64 a3] w fun e w' => ∃ v, e = .returned v ∧ (∃ vo0 : Value, v = vo0 ∧ St A N w w' [oE vo0 r] [])) {A : Nat → Prop} {N : Oth} {w : World} {a0 : PChecker} {a_0 : Option Addr} {a1 : PTerm} {s_1 : SlV} {a2 : List (ByteArray × Int)} {a_2 : Option Addr} (S : St A N w w [] [oT a_0 a0.t, oDTerm s_1 a1.sub, fScope a_2 a2, oEt]) {r : Int × (Option (Int × List Int))} (H : types_checker_told.g rec_types_checker_told rec_types_checker_checked a0 a1 a2 = some r) :
  Calls PP F_types_checker_told #[.agg (Checker.C (⟨a_0⟩ : Checker)).toArray, .agg (Term.C (⟨a1.kind, a1.name, a1.other, a1.form, s_1⟩ : Term)).toArray, .pointer a_2] w fun e w' => ∃ v, e = .returned v ∧ (∃ vo0 : Value, v = .tuple #[.int .i64 r.1, vo0] ∧ St A N w w' [oE vo0 r.2] []) := by
 unfold types_checker_told.g at H
 refine calls_of_wc (n := 175) fn_types_checker_told rfl rfl (by simp) ?_
 refine wc_seq (wc_region ?_)
 refine wl_box_agg rfl (by decide) fun b2 w1 hw1 => ?_
 replace S : St A N w w1 [oB b2 T_Checker (Checker.C (⟨a_0⟩ : Checker))] [oT a_0 a0.t, oDTerm s_1 a1.sub, fScope a_2 a2, oEt] := S.new hw1
 refine wl_box_agg rfl (by decide) fun b4 w3 hw3 => ?_
 replace S : St A N w w3 [oB b4 T_Term (Term.C (⟨a1.kind, a1.name, a1.other, a1.form, s_1⟩ : Term)), oB b2 T_Checker (Checker.C (⟨a_0⟩ : Checker))] [oT a_0 a0.t, oDTerm s_1 a1.sub, fScope a_2 a2, oEt] := S.new hw3
 refine wd (does_as_i rfl) ?_
 refine wd (does_assign rfl) ?_
 refine wl_nil ?_
 refine wc_seq (wc_seq (wc_region ?_))
 refine wd (does_fieldAddr fl_Term_kind rfl (o' := 0) rfl) ?_
 refine wd (does_load on_api_TermKind rfl ((S.blk 0).cell (Term.get_kind _))) ?_
 refine wl_nil ?_
 refine wc_block ?_
 refine wc_seq (wc_region ?_)
 refine wd (does_eq rfl rfl) ?_
 refine wd (does_as_b rfl) ?_
 refine wl_nil ?_
 refine wc_if rfl (fun hc5 => ?_) (fun hc5 => ?_)
 ·replace H := if_t hc5 H
  refine wc_seq (wc_region ?_)
  refine wd (does_mv_p rfl) ?_
  refine wd (does_fieldAddr fl_Term_name rfl (o' := 1) rfl) ?_
  refine wd (does_load on_string rfl ((S.blk 0).cell (Term.get_name _))) ?_
  obtain ⟨r6, er6, H⟩ := bind_ex H
  obtain ⟨B8, MB8, SB8, back⟩ := S.calln 0 ((.z 2 rfl .nil))
  refine wl_call (does_call ca_types_scope_find) (by decide) (types_scope_find_st SB8 er6) ?_
  rintro _ w7 ⟨v9, rfl, S2⟩
  replace S : St A N w w7 [oE v9 r6.2, oB b4 T_Term (Term.C (⟨a1.kind, a1.name, a1.other, a1.form, s_1⟩ : Term)), oB b2 T_Checker (Checker.C (⟨a_0⟩ : Checker))] [oT a_0 a0.t, oDTerm s_1 a1.sub, fScope a_2 a2, oEt] := back _ _ _ _ S2 rfl
  clear back S2 SB8
  refine wd (does_extract rfl rfl) ?_
  refine wd (does_extract rfl rfl) ?_
  refine wd (does_as_i rfl) ?_
  refine wd (does_assign rfl) ?_
  refine wl_nil ?_
  refine wc_ret ?_
  refine ⟨_, (rets2 (retOne_tmp rfl) (retOne_tmp rfl)), ?_⟩
  replace S : St A N w w7 [oE v9 r6.2] [] := S.arr [0] []
  obtain rfl := Option.some.inj H
  exact ⟨v9, rfl, S⟩
 replace H := if_f hc5 H
 refine wc_seq (wc_region ?_)
 refine wd (does_eq rfl rfl) ?_
 refine wd (does_as_b rfl) ?_
 refine wl_nil ?_
 refine wc_if rfl (fun hc10 => ?_) (fun hc10 => ?_)
 ·replace H := if_t hc10 H
  refine wc_seq (wc_region ?_)
  refine wd (does_load_agg ag_Checker rfl ((S.blk 1).all _ (Checker.len _)) (Checker.len _)) ?_
  refine wd (does_load_agg ag_Term rfl ((S.blk 0).all _ (Term.len _)) (Term.len _)) ?_
  refine wd (does_mv_p rfl) ?_
  obtain ⟨r11, er11, H⟩ := bind_ex H
  obtain ⟨B13, MB13, SB13, back⟩ := S.calln 0 ((.z 0 rfl (.z 1 rfl (.z 2 rfl (.z 3 rfl .nil)))))
  refine wl_call (does_call ca_types_checker_head) (by decide) (types_checker_head_gst hrec_types_checker_told (a0 := a0) (a1 := a1) SB13 er11) ?_
  rintro _ w12 ⟨v14, rfl, S2⟩
  replace S : St A N w w12 [oE v14 r11.2, oB b4 T_Term (Term.C (⟨a1.kind, a1.name, a1.other, a1.form, s_1⟩ : Term)), oB b2 T_Checker (Checker.C (⟨a_0⟩ : Checker))] [oT a_0 a0.t, oDTerm s_1 a1.sub, fScope a_2 a2, oEt] := back _ _ _ _ S2 rfl
  clear back S2 SB13
  refine wd (does_mv_t rfl) ?_
  refine wd (does_extract rfl rfl) ?_
  refine wd (does_extract rfl rfl) ?_
  refine wl_alloc ze_Nd (by decide) fun b16 w15 hw15 => ?_
  replace S : St A N w w15 [oB b16 T_Nd (Nd.C Nd.z), oE v14 r11.2, oB b4 T_Term (Term.C (⟨a1.kind, a1.name, a1.other, a1.form, s_1⟩ : Term)), oB b2 T_Checker (Checker.C (⟨a_0⟩ : Checker))] [oT a_0 a0.t, oDTerm s_1 a1.sub, fScope a_2 a2, oEt] := S.new hw15
  refine wl_store_agg ag_Nd rfl rfl (S.blk 0) (Nd.len _) (by rw [Nd.len]; decide) (Nd.one _) (store_all (Nd.len _)) fun w17 B hw17 zw17 => ?_
  replace S : St A N w w17 [oB b16 T_Nd (Nd.C r11.1), oE v14 r11.2, oB b4 T_Term (Term.C (⟨a1.kind, a1.name, a1.other, a1.form, s_1⟩ : Term)), oB b2 T_Checker (Checker.C (⟨a_0⟩ : Checker))] [oT a_0 a0.t, oDTerm s_1 a1.sub, fScope a_2 a2, oEt] := S.store 0 B hw17
  clear B
  refine wd (does_assign rfl) ?_
  refine wl_nil ?_
  refine wc_seq (wc_seq (wc_region ?_))
  refine wd (does_move rfl) ?_
  refine wd (does_neE if_error rfl rfl (S.onO 1)) ?_
  refine wl_nil ?_
  refine wc_if rfl (fun hc18 => ?_) (fun hc18 => ?_)
  ·replace H := if_t hc18 H
   refine wc_seq (wc_region ?_)
   refine wd (does_move rfl) ?_
   refine wd (does_as_i rfl) ?_
   refine wd (does_assign rfl) ?_
   refine wl_nil ?_
   refine wc_ret ?_
   refine ⟨_, (rets2 (retOne_tmp rfl) (retOne_tmp rfl)), ?_⟩
   replace S : St A N w w17 [oE v14 r11.2] [] := S.arr [1] []
   obtain rfl := Option.some.inj H
   exact ⟨v14, rfl, S⟩
  replace H := if_f hc18 H
  refine wc_skip ?_
  refine wc_seq ?_
  obtain ⟨r19, er19, H⟩ := bind_ex H
  refine wc_semi 8 [7]
   (fun i v u => match i with
   | 7 => ∃ v20 : Value, v = v20 ∧ ∃ F, (oE v20 r19).holds u F ∧ ∀ i, F i → w17.heap.size ≤ i
   | _ => True) hmix (by kernel_rfl) (by kernel_rfl) ?_ ?_
  ·intro i v u u' hi hx hv
   match i, hv with
   | 7, ⟨b, e1, F, hb, hl⟩ => exact ⟨b, e1, F, OA.loc _ hb hx (fun _ _ x => x), hl⟩
   | 0, _ => exact trivial
   | 1, _ => exact trivial
   | 2, _ => exact trivial
   | 3, _ => exact trivial
   | 4, _ => exact trivial
   | 5, _ => exact trivial
   | 6, _ => exact trivial
   | _ + 8, _ => exact trivial
  refine wm_does (fun v K => does_fieldAddr fl_Nd_r rfl (o' := 3) rfl) rfl ?_
  refine wm_does (fun v K => does_load on_int rfl (((S.ext K).blk 0).cell (Nd.get_r _))) rfl ?_
  refine wm_does (fun v K => does_load_agg ag_Checker rfl (((S.ext K).blk 3).all _ (Checker.len _)) (Checker.len _)) rfl ?_
  refine wm_does (fun v K => does_load_agg ag_Term rfl (((S.ext K).blk 2).all _ (Term.len _)) (Term.len _)) rfl ?_
  refine wm_does (fun v K => does_mv_p rfl) rfl ?_
  refine wm_does (fun v K => does_fieldAddr fl_Nd_l rfl (o' := 2) rfl) rfl ?_
  refine wm_does (fun v K => does_load on_int rfl (((S.ext K).blk 0).cell (Nd.get_l _))) rfl ?_
  refine wm_newcall (fun g v K G => (have ⟨M, SS⟩ := (S.ext K).lend ((.z 0 rfl (.z 1 rfl (.z 2 rfl (.z 3 rfl .nil))))); ⟨_, _, does_callg ca_types_checker_check (cons2 rfl (cons2 rfl (cons2 rfl (cons2 rfl (cons2 rfl rfl))))), newc (types_checker_check_gst hrec_types_checker_checked (a0 := a0) (a1 := a1) SS er19) fun _ _ ⟨v20, hv, h⟩ => ⟨h.frame, v20, hv, h.newP.elim fun F hF => ⟨F, hF.1, fun i hi => by have := hF.2 i hi; have := K.size; omega⟩⟩⟩)) rfl ?_
  refine wm_nil fun g w21 K hV => ?_
  obtain ⟨v20, hv227, F7, hb7, hf7⟩ := hV 7 rfl (by decide)
  replace S : St A N w w21 [oE v20 r19, oB b16 T_Nd (Nd.C r11.1), oE v14 r11.2, oB b4 T_Term (Term.C (⟨a1.kind, a1.name, a1.other, a1.form, s_1⟩ : Term)), oB b2 T_Checker (Checker.C (⟨a_0⟩ : Checker))] [oT a_0 a0.t, oDTerm s_1 a1.sub, fScope a_2 a2, oEt] := S.add (b := oE v20 r19) K hb7 hf7
  clear K hV
  refine wd (does_as_i rfl) ?_
  refine wd (does_assign hv227) ?_
  refine wl_nil ?_
  refine wc_ret ?_
  refine ⟨_, (rets2 (retOne_tmp rfl) (retOne_tmp rfl)), ?_⟩
  replace S : St A N w w21 [oE v20 r19] [] := S.arr [0] []
  obtain rfl := Option.some.inj H
  exact ⟨v20, rfl, S⟩
 replace H := if_f hc10 H
 refine wc_seq (wc_region ?_)
 refine wd (does_eq rfl rfl) ?_
 refine wd (does_as_b rfl) ?_
 refine wl_nil ?_
 refine wc_if rfl (fun hc23 => ?_) (fun hc23 => ?_)
 ·replace H := if_t hc23 H
  refine wc_seq (wc_region ?_)
  refine wd (does_load_agg ag_Checker rfl ((S.blk 1).all _ (Checker.len _)) (Checker.len _)) ?_
  refine wd (does_load_agg ag_Term rfl ((S.blk 0).all _ (Term.len _)) (Term.len _)) ?_
  refine wd (does_mv_p rfl) ?_
  obtain ⟨r24, er24, H⟩ := bind_ex H
  obtain ⟨B26, MB26, SB26, back⟩ := S.calln 0 ((.z 0 rfl (.z 1 rfl (.z 2 rfl (.z 3 rfl .nil)))))
  refine wl_call (does_call ca_types_checker_head) (by decide) (types_checker_head_gst hrec_types_checker_told (a0 := a0) (a1 := a1) SB26 er24) ?_
  rintro _ w25 ⟨v27, rfl, S2⟩
  replace S : St A N w w25 [oE v27 r24.2, oB b4 T_Term (Term.C (⟨a1.kind, a1.name, a1.other, a1.form, s_1⟩ : Term)), oB b2 T_Checker (Checker.C (⟨a_0⟩ : Checker))] [oT a_0 a0.t, oDTerm s_1 a1.sub, fScope a_2 a2, oEt] := back _ _ _ _ S2 rfl
  clear back S2 SB26
  refine wd (does_mv_t rfl) ?_
  refine wd (does_extract rfl rfl) ?_
  refine wd (does_extract rfl rfl) ?_
  refine wl_alloc ze_Nd (by decide) fun b29 w28 hw28 => ?_
  replace S : St A N w w28 [oB b29 T_Nd (Nd.C Nd.z), oE v27 r24.2, oB b4 T_Term (Term.C (⟨a1.kind, a1.name, a1.other, a1.form, s_1⟩ : Term)), oB b2 T_Checker (Checker.C (⟨a_0⟩ : Checker))] [oT a_0 a0.t, oDTerm s_1 a1.sub, fScope a_2 a2, oEt] := S.new hw28
  refine wl_store_agg ag_Nd rfl rfl (S.blk 0) (Nd.len _) (by rw [Nd.len]; decide) (Nd.one _) (store_all (Nd.len _)) fun w30 B hw30 zw30 => ?_
  replace S : St A N w w30 [oB b29 T_Nd (Nd.C r24.1), oE v27 r24.2, oB b4 T_Term (Term.C (⟨a1.kind, a1.name, a1.other, a1.form, s_1⟩ : Term)), oB b2 T_Checker (Checker.C (⟨a_0⟩ : Checker))] [oT a_0 a0.t, oDTerm s_1 a1.sub, fScope a_2 a2, oEt] := S.store 0 B hw30
  clear B
  refine wd (does_assign rfl) ?_
  refine wl_nil ?_
  refine wc_seq (wc_region ?_)
  refine wd (does_fieldAddr fl_Nd_l rfl (o' := 2) rfl) ?_
  refine wd (does_load on_int rfl ((S.blk 0).cell (Nd.get_l _))) ?_
  refine wd (does_move rfl) ?_
  refine wd (does_as_i rfl) ?_
  refine wd (does_assign rfl) ?_
  refine wl_nil ?_
  refine wc_ret ?_
  refine ⟨_, (rets2 (retOne_tmp rfl) (retOne_tmp rfl)), ?_⟩
  replace S : St A N w w30 [oE v27 r24.2] [] := S.arr [1] []
  obtain rfl := Option.some.inj H
  exact ⟨v27, rfl, S⟩
 replace H := if_f hc23 H
 refine wc_seq (wc_region ?_)
 refine wd (does_eq rfl rfl) ?_
 refine wd (does_as_b rfl) ?_
 refine wl_nil ?_
 refine wc_if rfl (fun hc31 => ?_) (fun hc31 => ?_)
 ·replace H := if_t hc31 H
  refine wc_seq (wc_region ?_)
  refine wd (does_load_agg ag_Checker rfl ((S.blk 1).all _ (Checker.len _)) (Checker.len _)) ?_
  refine wd (does_load_agg ag_Term rfl ((S.blk 0).all _ (Term.len _)) (Term.len _)) ?_
  refine wd (does_mv_p rfl) ?_
  obtain ⟨r32, er32, H⟩ := bind_ex H
  obtain ⟨B34, MB34, SB34, back⟩ := S.calln 0 ((.z 0 rfl (.z 1 rfl (.z 2 rfl (.z 3 rfl .nil)))))
  refine wl_call (does_call ca_types_checker_head) (by decide) (types_checker_head_gst hrec_types_checker_told (a0 := a0) (a1 := a1) SB34 er32) ?_
  rintro _ w33 ⟨v35, rfl, S2⟩
  replace S : St A N w w33 [oE v35 r32.2, oB b4 T_Term (Term.C (⟨a1.kind, a1.name, a1.other, a1.form, s_1⟩ : Term)), oB b2 T_Checker (Checker.C (⟨a_0⟩ : Checker))] [oT a_0 a0.t, oDTerm s_1 a1.sub, fScope a_2 a2, oEt] := back _ _ _ _ S2 rfl
  clear back S2 SB34
  refine wd (does_mv_t rfl) ?_
  refine wd (does_extract rfl rfl) ?_
  refine wd (does_extract rfl rfl) ?_
  refine wl_alloc ze_Nd (by decide) fun b37 w36 hw36 => ?_
  replace S : St A N w w36 [oB b37 T_Nd (Nd.C Nd.z), oE v35 r32.2, oB b4 T_Term (Term.C (⟨a1.kind, a1.name, a1.other, a1.form, s_1⟩ : Term)), oB b2 T_Checker (Checker.C (⟨a_0⟩ : Checker))] [oT a_0 a0.t, oDTerm s_1 a1.sub, fScope a_2 a2, oEt] := S.new hw36
  refine wl_store_agg ag_Nd rfl rfl (S.blk 0) (Nd.len _) (by rw [Nd.len]; decide) (Nd.one _) (store_all (Nd.len _)) fun w38 B hw38 zw38 => ?_
  replace S : St A N w w38 [oB b37 T_Nd (Nd.C r32.1), oE v35 r32.2, oB b4 T_Term (Term.C (⟨a1.kind, a1.name, a1.other, a1.form, s_1⟩ : Term)), oB b2 T_Checker (Checker.C (⟨a_0⟩ : Checker))] [oT a_0 a0.t, oDTerm s_1 a1.sub, fScope a_2 a2, oEt] := S.store 0 B hw38
  clear B
  refine wd (does_assign rfl) ?_
  refine wl_nil ?_
  refine wc_seq (wc_region ?_)
  refine wd (does_fieldAddr fl_Nd_r rfl (o' := 3) rfl) ?_
  refine wd (does_load on_int rfl ((S.blk 0).cell (Nd.get_r _))) ?_
  refine wd (does_move rfl) ?_
  refine wd (does_as_i rfl) ?_
  refine wd (does_assign rfl) ?_
  refine wl_nil ?_
  refine wc_ret ?_
  refine ⟨_, (rets2 (retOne_tmp rfl) (retOne_tmp rfl)), ?_⟩
  replace S : St A N w w38 [oE v35 r32.2] [] := S.arr [1] []
  obtain rfl := Option.some.inj H
  exact ⟨v35, rfl, S⟩
 replace H := if_f hc31 H
 refine wc_seq (wc_region ?_)
 refine wd (does_eq rfl rfl) ?_
 refine wd (does_as_b rfl) ?_
 refine wl_nil ?_
 refine wc_if rfl (fun hc39 => ?_) (fun hc39 => ?_)
 ·replace H := if_t hc39 H
  refine wc_seq (wc_seq (wc_region ?_))
  refine wd (does_fieldAddr fl_Checker_t rfl (o' := 0) rfl) ?_
  refine wd (does_load on_dictum_formula_has rfl ((S.blk 1).cell (Checker.get_t _))) ?_
  refine wd (does_fieldAddr fl_Term_form rfl (o' := 3) rfl) ?_
  refine wd (does_load on_int rfl ((S.blk 0).cell (Term.get_form _))) ?_
  obtain ⟨r40, er40, H⟩ := bind_ex H
  obtain ⟨B42, MB42, SB42, back⟩ := S.calln 0 ((.z 0 rfl .nil))
  refine wl_call (does_call ca_formula_Table_Node) (by decide) (formula_Table_Node_st SB42 er40) ?_
  rintro _ w41 ⟨rfl, S2⟩
  replace S : St A N w w41 [oB b4 T_Term (Term.C (⟨a1.kind, a1.name, a1.other, a1.form, s_1⟩ : Term)), oB b2 T_Checker (Checker.C (⟨a_0⟩ : Checker))] [oT a_0 a0.t, oDTerm s_1 a1.sub, fScope a_2 a2, oEt] := back _ _ _ _ S2 rfl
  clear back S2 SB42
  refine wd (does_mv_t rfl) ?_
  refine wd (does_extract rfl rfl) ?_
  refine wd (does_extract rfl rfl) ?_
  refine wl_alloc ze_Nd (by decide) fun b44 w43 hw43 => ?_
  replace S : St A N w w43 [oB b44 T_Nd (Nd.C Nd.z), oB b4 T_Term (Term.C (⟨a1.kind, a1.name, a1.other, a1.form, s_1⟩ : Term)), oB b2 T_Checker (Checker.C (⟨a_0⟩ : Checker))] [oT a_0 a0.t, oDTerm s_1 a1.sub, fScope a_2 a2, oEt] := S.new hw43
  refine wl_store_agg ag_Nd rfl rfl (S.blk 0) (Nd.len _) (by rw [Nd.len]; decide) (Nd.one _) (store_all (Nd.len _)) fun w45 B hw45 zw45 => ?_
  replace S : St A N w w45 [oB b44 T_Nd (Nd.C r40.1), oB b4 T_Term (Term.C (⟨a1.kind, a1.name, a1.other, a1.form, s_1⟩ : Term)), oB b2 T_Checker (Checker.C (⟨a_0⟩ : Checker))] [oT a_0 a0.t, oDTerm s_1 a1.sub, fScope a_2 a2, oEt] := S.store 0 B hw45
  clear B
  refine wd (does_as_b rfl) ?_
  refine wl_nil ?_
  refine wc_seq (wc_region ?_)
  refine wd (does_mv_b rfl) ?_
  refine wd (does_not rfl) ?_
  refine wl_nil ?_
  refine wc_if rfl (fun hc46 => ?_) (fun hc46 => ?_)
  ·replace H := if_t hc46 H
   refine wc_seq (wc_region ?_)
   refine wd (Does.to (v' := .agg (Refusal.C (⟨31, SlV.nil⟩ : Refusal)).toArray) (does_buildv (vs := [(0, .int .i64 31)]) bu_Refusal (consP rfl rfl) (Bld.one rfl rfl (by rw [Refusal.len]; decide) (Refusal.set_code _ _) Bld.nil)) rfl) ?_
   refine wl_box_agg rfl (by decide) fun b48 w47 hw47 => ?_
   replace S : St A N w w47 [oB b48 T_Refusal (Refusal.C (⟨31, SlV.nil⟩ : Refusal)), oB b44 T_Nd (Nd.C r40.1), oB b4 T_Term (Term.C (⟨a1.kind, a1.name, a1.other, a1.form, s_1⟩ : Term)), oB b2 T_Checker (Checker.C (⟨a_0⟩ : Checker))] [oT a_0 a0.t, oDTerm s_1 a1.sub, fScope a_2 a2, oEt] := S.new hw47
   refine wd (does_makeInterface rfl) ?_
   replace S := S.nil T_int 1 IC
   replace S := S.front 1
   replace S : St A N w w47 [oE (.iface T_P_Refusal (.pointer (some ⟨b48, 0, none⟩))) (some (31, ([] : List Int))), oB b44 T_Nd (Nd.C r40.1), oB b4 T_Term (Term.C (⟨a1.kind, a1.name, a1.other, a1.form, s_1⟩ : Term)), oB b2 T_Checker (Checker.C (⟨a_0⟩ : Checker))] [oT a_0 a0.t, oDTerm s_1 a1.sub, fScope a_2 a2, oEt] := S.mkE
   refine wd (does_as_i rfl) ?_
   refine wd (does_assign rfl) ?_
   refine wl_nil ?_
   refine wc_ret ?_
   refine ⟨_, (rets2 (retOne_tmp rfl) (retOne_tmp rfl)), ?_⟩
   replace S : St A N w w47 [oE (.iface T_P_Refusal (.pointer (some ⟨b48, 0, none⟩))) (some (31, ([] : List Int)))] [] := S.arr [0] []
   obtain rfl := Option.some.inj H
   exact ⟨(.iface T_P_Refusal (.pointer (some ⟨b48, 0, none⟩))), rfl, S⟩
  replace H := if_f hc46 H
  refine wc_skip ?_
  refine wc_seq ?_
  obtain ⟨r49, er49, H⟩ := bind_ex H
  refine wc_semi 8 [7]
   (fun i v u => match i with
   | 7 => ∃ v50 : Value, v = v50 ∧ ∃ F, (oE v50 r49).holds u F ∧ ∀ i, F i → w45.heap.size ≤ i
   | _ => True) hmix (by kernel_rfl) (by kernel_rfl) ?_ ?_
  ·intro i v u u' hi hx hv
   match i, hv with
   | 7, ⟨b, e1, F, hb, hl⟩ => exact ⟨b, e1, F, OA.loc _ hb hx (fun _ _ x => x), hl⟩
   | 0, _ => exact trivial
   | 1, _ => exact trivial
   | 2, _ => exact trivial
   | 3, _ => exact trivial
   | 4, _ => exact trivial
   | 5, _ => exact trivial
   | 6, _ => exact trivial
   | _ + 8, _ => exact trivial
  refine wm_does (fun v K => does_fieldAddr fl_Term_form rfl (o' := 3) rfl) rfl ?_
  refine wm_does (fun v K => does_load on_int rfl (((S.ext K).blk 1).cell (Term.get_form _))) rfl ?_
  refine wm_does (fun v K => does_load_agg ag_Checker rfl (((S.ext K).blk 2).all _ (Checker.len _)) (Checker.len _)) rfl ?_
  refine wm_does (fun v K => does_load_agg ag_Term rfl (((S.ext K).blk 1).all _ (Term.len _)) (Term.len _)) rfl ?_
  refine wm_does (fun v K => does_mv_p rfl) rfl ?_
  refine wm_does (fun v K => does_fieldAddr fl_Term_form rfl (o' := 3) rfl) rfl ?_
  refine wm_does (fun v K => does_load on_int rfl (((S.ext K).blk 1).cell (Term.get_form _))) rfl ?_
  refine wm_newcall (fun g v K G => (have ⟨M, SS⟩ := (S.ext K).lend ((.z 0 rfl (.z 1 rfl (.z 2 rfl (.z 3 rfl .nil))))); ⟨_, _, does_callg ca_types_checker_check (cons2 rfl (cons2 rfl (cons2 rfl (cons2 rfl (cons2 rfl rfl))))), newc (types_checker_check_gst hrec_types_checker_checked (a0 := a0) (a1 := a1) SS er49) fun _ _ ⟨v50, hv, h⟩ => ⟨h.frame, v50, hv, h.newP.elim fun F hF => ⟨F, hF.1, fun i hi => by have := hF.2 i hi; have := K.size; omega⟩⟩⟩)) rfl ?_
  refine wm_nil fun g w51 K hV => ?_
  obtain ⟨v50, hv527, F7, hb7, hf7⟩ := hV 7 rfl (by decide)
  replace S : St A N w w51 [oE v50 r49, oB b44 T_Nd (Nd.C r40.1), oB b4 T_Term (Term.C (⟨a1.kind, a1.name, a1.other, a1.form, s_1⟩ : Term)), oB b2 T_Checker (Checker.C (⟨a_0⟩ : Checker))] [oT a_0 a0.t, oDTerm s_1 a1.sub, fScope a_2 a2, oEt] := S.add (b := oE v50 r49) K hb7 hf7
  clear K hV
  refine wd (does_as_i rfl) ?_
  refine wd (does_assign hv527) ?_
  refine wl_nil ?_
  refine wc_ret ?_
  refine ⟨_, (rets2 (retOne_tmp rfl) (retOne_tmp rfl)), ?_⟩
  replace S : St A N w w51 [oE v50 r49] [] := S.arr [0] []
  obtain rfl := Option.some.inj H
  exact ⟨v50, rfl, S⟩
 replace H := if_f hc39 H
 refine wc_seq (wc_region ?_)
 refine wd (does_eq rfl rfl) ?_
 refine wd (does_as_b rfl) ?_
 refine wl_nil ?_
 refine wc_if rfl (fun hc53 => ?_) (fun hc53 => ?_)
 ·replace H := if_t hc53 H
  refine wc_seq (wc_region ?_)
  refine wd (does_load_agg ag_Checker rfl ((S.blk 1).all _ (Checker.len _)) (Checker.len _)) ?_
  refine wd (does_load_agg ag_Term rfl ((S.blk 0).all _ (Term.len _)) (Term.len _)) ?_
  refine wd (does_mv_p rfl) ?_
  obtain ⟨r54, er54, H⟩ := bind_ex H
  obtain ⟨B56, MB56, SB56, back⟩ := S.calln 0 ((.z 0 rfl (.z 1 rfl (.z 2 rfl (.z 3 rfl .nil)))))
  refine wl_call (does_call ca_types_checker_part) (by decide) (types_checker_part_gst hrec_types_checker_told (a0 := a0) (a1 := a1) SB56 er54) ?_
  rintro _ w55 ⟨v57, rfl, S2⟩
  replace S : St A N w w55 [oE v57 r54.2, oB b4 T_Term (Term.C (⟨a1.kind, a1.name, a1.other, a1.form, s_1⟩ : Term)), oB b2 T_Checker (Checker.C (⟨a_0⟩ : Checker))] [oT a_0 a0.t, oDTerm s_1 a1.sub, fScope a_2 a2, oEt] := back _ _ _ _ S2 rfl
  clear back S2 SB56
  refine wd (does_mv_t rfl) ?_
  refine wd (does_extract rfl rfl) ?_
  refine wd (does_extract rfl rfl) ?_
  refine wd (does_as_i rfl) ?_
  refine wd (does_assign rfl) ?_
  refine wl_nil ?_
  refine wc_seq (wc_seq (wc_region ?_))
  refine wd (does_move rfl) ?_
  refine wd (does_neE if_error rfl rfl (S.onO 0)) ?_
  refine wl_nil ?_
  refine wc_if rfl (fun hc58 => ?_) (fun hc58 => ?_)
  ·replace H := if_t hc58 H
   refine wc_seq (wc_region ?_)
   refine wd (does_move rfl) ?_
   refine wd (does_as_i rfl) ?_
   refine wd (does_assign rfl) ?_
   refine wl_nil ?_
   refine wc_ret ?_
   refine ⟨_, (rets2 (retOne_tmp rfl) (retOne_tmp rfl)), ?_⟩
   replace S : St A N w w55 [oE v57 r54.2] [] := S.arr [0] []
   obtain rfl := Option.some.inj H
   exact ⟨v57, rfl, S⟩
  replace H := if_f hc58 H
  refine wc_skip ?_
  refine wc_seq ?_
  refine wc_ws hmix fun w62 K => ?_
  replace S := S.ext K
  clear K
  refine ws_semi 0 7 [6] (by kernel_rfl) (by decide) (by kernel_rfl)
   (V := fun i v u => match i with
   | 6 => ∃ b : Nat, v = Value.pointer (some ⟨b, 0, none⟩) ∧ Blk u b T_Scope (Scope.C ⟨a1.name, r54.1, a_2⟩) ∧ w62.heap.size ≤ b
   | _ => True) ?_ ?_
  ·intro i v u u' hi hx hv
   match i, hv with
   | 6, ⟨b, e1, hb, hl⟩ => exact ⟨b, e1, hb.ext hx, hl⟩
   | 0, _ => exact trivial
   | 1, _ => exact trivial
   | 2, _ => exact trivial
   | 3, _ => exact trivial
   | 4, _ => exact trivial
   | 5, _ => exact trivial
   | _ + 7, _ => exact trivial
  refine wm_does (fun v K => does_load_agg ag_Checker rfl (((S.ext K).blk 2).all _ (Checker.len _)) (Checker.len _)) rfl ?_
  refine wm_does (fun v K => does_load_agg ag_Term rfl (((S.ext K).blk 1).all _ (Term.len _)) (Term.len _)) rfl ?_
  refine wm_does (fun v K => does_mv_p rfl) rfl ?_
  refine wm_does (fun v K => does_fieldAddr fl_Term_name rfl (o' := 1) rfl) rfl ?_
  refine wm_does (fun v K => does_load on_string rfl (((S.ext K).blk 1).cell (Term.get_name _))) rfl ?_
  refine wm_does (fun v K => does_mv_i rfl) rfl ?_
  refine wm_newcall (fun g v K G => ⟨_, _, does_callg ca_types_scope_with (cons2 rfl (cons2 rfl (cons2 rfl rfl))), newc (types_scope_with_ok _ _ _ _) fun _ _ ⟨b, hv, hx, hb, hl⟩ => ⟨hx, b, hv, hb, by have := K.size; omega⟩⟩) rfl ?_
  refine wm_nil fun g w64 K hV => ?_
  obtain ⟨b63, hv656, hb6, hf6⟩ := hV 6 rfl (by decide)
  replace S : St A N w w64 [oB b63 T_Scope (Scope.C ⟨a1.name, r54.1, a_2⟩), oE v57 r54.2, oB b4 T_Term (Term.C (⟨a1.kind, a1.name, a1.other, a1.form, s_1⟩ : Term)), oB b2 T_Checker (Checker.C (⟨a_0⟩ : Checker))] [oT a_0 a0.t, oDTerm s_1 a1.sub, fScope a_2 a2, oEt] := S.newAt K hb6 hf6
  replace S : St A N w w64 [oE v57 r54.2, oB b4 T_Term (Term.C (⟨a1.kind, a1.name, a1.other, a1.form, s_1⟩ : Term)), oB b2 T_Checker (Checker.C (⟨a_0⟩ : Checker))] [fScope (some ⟨b63, 0, none⟩) ((a1.name, r54.1) :: a2), oT a_0 a0.t, oDTerm s_1 a1.sub, fScope a_2 a2, oEt] := S.pushScope 0 2
  clear K hV
  refine ws_chain 7 8 (by kernel_rfl) (by decide) ?_
  obtain ⟨r66, er66, H⟩ := bind_ex H
  obtain ⟨B68, MB68, SB68, back⟩ := S.calln 0 ((.z 1 rfl (.z 2 rfl (.z 0 rfl (.z 4 rfl .nil)))))
  refine wl_call (does_callg ca_types_checker_part (cons2 rfl (cons2 rfl (cons2 rfl (cons2 hv656 rfl))))) (by decide) (types_checker_part_gst hrec_types_checker_told (a0 := a0) (a1 := a1) SB68 er66) ?_
  rintro _ w67 ⟨v69, rfl, S2⟩
  replace S : St A N w w67 [oE v69 r66.2, oE v57 r54.2, oB b4 T_Term (Term.C (⟨a1.kind, a1.name, a1.other, a1.form, s_1⟩ : Term)), oB b2 T_Checker (Checker.C (⟨a_0⟩ : Checker))] [fScope (some ⟨b63, 0, none⟩) ((a1.name, r54.1) :: a2), oT a_0 a0.t, oDTerm s_1 a1.sub, fScope a_2 a2, oEt] := back _ _ _ _ S2 rfl
  clear back S2 SB68
  refine wl_nil ⟨rfl, ?_⟩
  refine ws_semi 8 10 [] (by kernel_rfl) (by decide) (by kernel_rfl)
   (V := fun i v u => match i with
   | _ => True) ?_ ?_
  ·intro i v u u' hi hx hv
   match i, hv with
   | _, _ => exact trivial
  refine wm_does (fun v K => does_extract rfl rfl) rfl ?_
  refine wm_does (fun v K => does_extract rfl rfl) rfl ?_
  refine wm_nil fun g w70 K hV => ?_
  replace S := S.ext K
  clear K hV
  refine ws_tail 10 (by kernel_rfl) (by decide) ?_
  refine wd (does_as_i rfl) ?_
  refine wd (does_assign rfl) ?_
  refine wl_nil ?_
  refine wc_ret ?_
  refine ⟨_, (rets2 (retOne_tmp rfl) (retOne_tmp rfl)), ?_⟩
  replace S : St A N w w70 [oE v69 r66.2] [] := S.arr [0] []
  obtain rfl := Option.some.inj H
  exact ⟨v69, rfl, S⟩
 replace H := if_f hc53 H
 refine wc_seq (wc_region ?_)
 refine wd (does_eq rfl rfl) ?_
 refine wd (does_as_b rfl) ?_
 refine wl_nil ?_
 refine wc_if rfl (fun hc72 => ?_) (fun hc72 => ?_)
 ·replace H := if_t hc72 H
  refine wc_seq (wc_region ?_)
  refine wd (does_load_agg ag_Checker rfl ((S.blk 1).all _ (Checker.len _)) (Checker.len _)) ?_
  refine wd (does_load_agg ag_Term rfl ((S.blk 0).all _ (Term.len _)) (Term.len _)) ?_
  refine wd (does_mv_p rfl) ?_
  obtain ⟨r73, er73, H⟩ := bind_ex H
  obtain ⟨B75, MB75, SB75, back⟩ := S.calln 0 ((.z 0 rfl (.z 1 rfl (.z 2 rfl (.z 3 rfl .nil)))))
  refine wl_call (does_call ca_types_checker_head) (by decide) (types_checker_head_gst hrec_types_checker_told (a0 := a0) (a1 := a1) SB75 er73) ?_
  rintro _ w74 ⟨v76, rfl, S2⟩
  replace S : St A N w w74 [oE v76 r73.2, oB b4 T_Term (Term.C (⟨a1.kind, a1.name, a1.other, a1.form, s_1⟩ : Term)), oB b2 T_Checker (Checker.C (⟨a_0⟩ : Checker))] [oT a_0 a0.t, oDTerm s_1 a1.sub, fScope a_2 a2, oEt] := back _ _ _ _ S2 rfl
  clear back S2 SB75
  refine wd (does_mv_t rfl) ?_
  refine wd (does_extract rfl rfl) ?_
  refine wd (does_extract rfl rfl) ?_
  refine wl_alloc ze_Nd (by decide) fun b78 w77 hw77 => ?_
  replace S : St A N w w77 [oB b78 T_Nd (Nd.C Nd.z), oE v76 r73.2, oB b4 T_Term (Term.C (⟨a1.kind, a1.name, a1.other, a1.form, s_1⟩ : Term)), oB b2 T_Checker (Checker.C (⟨a_0⟩ : Checker))] [oT a_0 a0.t, oDTerm s_1 a1.sub, fScope a_2 a2, oEt] := S.new hw77
  refine wl_store_agg ag_Nd rfl rfl (S.blk 0) (Nd.len _) (by rw [Nd.len]; decide) (Nd.one _) (store_all (Nd.len _)) fun w79 B hw79 zw79 => ?_
  replace S : St A N w w79 [oB b78 T_Nd (Nd.C r73.1), oE v76 r73.2, oB b4 T_Term (Term.C (⟨a1.kind, a1.name, a1.other, a1.form, s_1⟩ : Term)), oB b2 T_Checker (Checker.C (⟨a_0⟩ : Checker))] [oT a_0 a0.t, oDTerm s_1 a1.sub, fScope a_2 a2, oEt] := S.store 0 B hw79
  clear B
  refine wd (does_assign rfl) ?_
  refine wl_nil ?_
  refine wc_seq (wc_seq (wc_region ?_))
  refine wd (does_move rfl) ?_
  refine wd (does_neE if_error rfl rfl (S.onO 1)) ?_
  refine wl_nil ?_
  refine wc_if rfl (fun hc80 => ?_) (fun hc80 => ?_)
  ·replace H := if_t hc80 H
   refine wc_seq (wc_region ?_)
   refine wd (does_move rfl) ?_
   refine wd (does_as_i rfl) ?_
   refine wd (does_assign rfl) ?_
   refine wl_nil ?_
   refine wc_ret ?_
   refine ⟨_, (rets2 (retOne_tmp rfl) (retOne_tmp rfl)), ?_⟩
   replace S : St A N w w79 [oE v76 r73.2] [] := S.arr [1] []
   obtain rfl := Option.some.inj H
   exact ⟨v76, rfl, S⟩
  replace H := if_f hc80 H
  refine wc_skip ?_
  refine wc_seq ?_
  refine wc_ws hmix fun w84 K => ?_
  replace S := S.ext K
  clear K
  refine ws_semi 0 8 [7] (by kernel_rfl) (by decide) (by kernel_rfl)
   (V := fun i v u => match i with
   | 7 => ∃ b : Nat, v = Value.pointer (some ⟨b, 0, none⟩) ∧ Blk u b T_Scope (Scope.C ⟨a1.name, r73.1.l, a_2⟩) ∧ w84.heap.size ≤ b
   | _ => True) ?_ ?_
  ·intro i v u u' hi hx hv
   match i, hv with
   | 7, ⟨b, e1, hb, hl⟩ => exact ⟨b, e1, hb.ext hx, hl⟩
   | 0, _ => exact trivial
   | 1, _ => exact trivial
   | 2, _ => exact trivial
   | 3, _ => exact trivial
   | 4, _ => exact trivial
   | 5, _ => exact trivial
   | 6, _ => exact trivial
   | _ + 8, _ => exact trivial
  refine wm_does (fun v K => does_load_agg ag_Checker rfl (((S.ext K).blk 3).all _ (Checker.len _)) (Checker.len _)) rfl ?_
  refine wm_does (fun v K => does_load_agg ag_Term rfl (((S.ext K).blk 2).all _ (Term.len _)) (Term.len _)) rfl ?_
  refine wm_does (fun v K => does_mv_p rfl) rfl ?_
  refine wm_does (fun v K => does_fieldAddr fl_Term_name rfl (o' := 1) rfl) rfl ?_
  refine wm_does (fun v K => does_load on_string rfl (((S.ext K).blk 2).cell (Term.get_name _))) rfl ?_
  refine wm_does (fun v K => does_fieldAddr fl_Nd_l rfl (o' := 2) rfl) rfl ?_
  refine wm_does (fun v K => does_load on_int rfl (((S.ext K).blk 0).cell (Nd.get_l _))) rfl ?_
  refine wm_newcall (fun g v K G => ⟨_, _, does_callg ca_types_scope_with (cons2 rfl (cons2 rfl (cons2 rfl rfl))), newc (types_scope_with_ok _ _ _ _) fun _ _ ⟨b, hv, hx, hb, hl⟩ => ⟨hx, b, hv, hb, by have := K.size; omega⟩⟩) rfl ?_
  refine wm_nil fun g w86 K hV => ?_
  obtain ⟨b85, hv877, hb7, hf7⟩ := hV 7 rfl (by decide)
  replace S : St A N w w86 [oB b85 T_Scope (Scope.C ⟨a1.name, r73.1.l, a_2⟩), oB b78 T_Nd (Nd.C r73.1), oE v76 r73.2, oB b4 T_Term (Term.C (⟨a1.kind, a1.name, a1.other, a1.form, s_1⟩ : Term)), oB b2 T_Checker (Checker.C (⟨a_0⟩ : Checker))] [oT a_0 a0.t, oDTerm s_1 a1.sub, fScope a_2 a2, oEt] := S.newAt K hb7 hf7
  replace S : St A N w w86 [oB b78 T_Nd (Nd.C r73.1), oE v76 r73.2, oB b4 T_Term (Term.C (⟨a1.kind, a1.name, a1.other, a1.form, s_1⟩ : Term)), oB b2 T_Checker (Checker.C (⟨a_0⟩ : Checker))] [fScope (some ⟨b85, 0, none⟩) ((a1.name, r73.1.l) :: a2), oT a_0 a0.t, oDTerm s_1 a1.sub, fScope a_2 a2, oEt] := S.pushScope 0 2
  clear K hV
  refine ws_chain 8 10 (by kernel_rfl) (by decide) ?_
  obtain ⟨r88, er88, H⟩ := bind_ex H
  obtain ⟨B90, MB90, SB90, back⟩ := S.calln 0 ((.z 1 rfl (.z 2 rfl (.z 0 rfl (.z 4 rfl .nil)))))
  refine wl_call (does_callg ca_types_checker_part (cons2 rfl (cons2 rfl (cons2 rfl (cons2 hv877 rfl))))) (by decide) (types_checker_part_gst hrec_types_checker_told (a0 := a0) (a1 := a1) SB90 er88) ?_
  rintro _ w89 ⟨v91, rfl, S2⟩
  replace S : St A N w w89 [oE v91 r88.2, oB b78 T_Nd (Nd.C r73.1), oE v76 r73.2, oB b4 T_Term (Term.C (⟨a1.kind, a1.name, a1.other, a1.form, s_1⟩ : Term)), oB b2 T_Checker (Checker.C (⟨a_0⟩ : Checker))] [fScope (some ⟨b85, 0, none⟩) ((a1.name, r73.1.l) :: a2), oT a_0 a0.t, oDTerm s_1 a1.sub, fScope a_2 a2, oEt] := back _ _ _ _ S2 rfl
  clear back S2 SB90
  refine wd (does_mv_t rfl) ?_
  refine wl_nil ⟨rfl, ?_⟩
  refine ws_semi 10 13 [] (by kernel_rfl) (by decide) (by kernel_rfl)
   (V := fun i v u => match i with
   | _ => True) ?_ ?_
  ·intro i v u u' hi hx hv
   match i, hv with
   | _, _ => exact trivial
  refine wm_does (fun v K => does_extract rfl rfl) rfl ?_
  refine wm_does (fun v K => does_extract rfl rfl) rfl ?_
  refine wm_does (fun v K => does_as_i rfl) rfl ?_
  refine wm_nil fun g w92 K hV => ?_
  replace S := S.ext K
  clear K hV
  refine ws_tail 13 (by kernel_rfl) (by decide) ?_
  refine wd (does_assign rfl) ?_
  refine wl_nil ?_
  refine wc_seq (wc_seq (wc_region ?_))
  refine wd (does_move rfl) ?_
  refine wd (does_neE if_error rfl rfl (S.onO 0)) ?_
  refine wl_nil ?_
  refine wc_if rfl (fun hc94 => ?_) (fun hc94 => ?_)
  ·replace H := if_t hc94 H
   refine wc_seq (wc_region ?_)
   refine wd (does_move rfl) ?_
   refine wd (does_as_i rfl) ?_
   refine wd (does_assign rfl) ?_
   refine wl_nil ?_
   refine wc_ret ?_
   refine ⟨_, (rets2 (retOne_tmp rfl) (retOne_tmp rfl)), ?_⟩
   replace S : St A N w w92 [oE v91 r88.2] [] := S.arr [0] []
   obtain rfl := Option.some.inj H
   exact ⟨v91, rfl, S⟩
  replace H := if_f hc94 H
  refine wc_skip ?_
  refine wc_seq ?_
  refine wc_ws hmix fun w98 K => ?_
  replace S := S.ext K
  clear K
  refine ws_semi 0 8 [7] (by kernel_rfl) (by decide) (by kernel_rfl)
   (V := fun i v u => match i with
   | 7 => ∃ b : Nat, v = Value.pointer (some ⟨b, 0, none⟩) ∧ Blk u b T_Scope (Scope.C ⟨a1.other, r73.1.r, a_2⟩) ∧ w98.heap.size ≤ b
   | _ => True) ?_ ?_
  ·intro i v u u' hi hx hv
   match i, hv with
   | 7, ⟨b, e1, hb, hl⟩ => exact ⟨b, e1, hb.ext hx, hl⟩
   | 0, _ => exact trivial
   | 1, _ => exact trivial
   | 2, _ => exact trivial
   | 3, _ => exact trivial
   | 4, _ => exact trivial
   | 5, _ => exact trivial
   | 6, _ => exact trivial
   | _ + 8, _ => exact trivial
  refine wm_does (fun v K => does_load_agg ag_Checker rfl (((S.ext K).blk 4).all _ (Checker.len _)) (Checker.len _)) rfl ?_
  refine wm_does (fun v K => does_load_agg ag_Term rfl (((S.ext K).blk 3).all _ (Term.len _)) (Term.len _)) rfl ?_
  refine wm_does (fun v K => does_mv_p rfl) rfl ?_
  refine wm_does (fun v K => does_fieldAddr fl_Term_other rfl (o' := 2) rfl) rfl ?_
  refine wm_does (fun v K => does_load on_string rfl (((S.ext K).blk 3).cell (Term.get_other _))) rfl ?_
  refine wm_does (fun v K => does_fieldAddr fl_Nd_r rfl (o' := 3) rfl) rfl ?_
  refine wm_does (fun v K => does_load on_int rfl (((S.ext K).blk 1).cell (Nd.get_r _))) rfl ?_
  refine wm_newcall (fun g v K G => ⟨_, _, does_callg ca_types_scope_with (cons2 rfl (cons2 rfl (cons2 rfl rfl))), newc (types_scope_with_ok _ _ _ _) fun _ _ ⟨b, hv, hx, hb, hl⟩ => ⟨hx, b, hv, hb, by have := K.size; omega⟩⟩) rfl ?_
  refine wm_nil fun g w100 K hV => ?_
  obtain ⟨b99, hv1017, hb7, hf7⟩ := hV 7 rfl (by decide)
  replace S : St A N w w100 [oB b99 T_Scope (Scope.C ⟨a1.other, r73.1.r, a_2⟩), oE v91 r88.2, oB b78 T_Nd (Nd.C r73.1), oE v76 r73.2, oB b4 T_Term (Term.C (⟨a1.kind, a1.name, a1.other, a1.form, s_1⟩ : Term)), oB b2 T_Checker (Checker.C (⟨a_0⟩ : Checker))] [fScope (some ⟨b85, 0, none⟩) ((a1.name, r73.1.l) :: a2), oT a_0 a0.t, oDTerm s_1 a1.sub, fScope a_2 a2, oEt] := S.newAt K hb7 hf7
  replace S : St A N w w100 [oE v91 r88.2, oB b78 T_Nd (Nd.C r73.1), oE v76 r73.2, oB b4 T_Term (Term.C (⟨a1.kind, a1.name, a1.other, a1.form, s_1⟩ : Term)), oB b2 T_Checker (Checker.C (⟨a_0⟩ : Checker))] [fScope (some ⟨b99, 0, none⟩) ((a1.other, r73.1.r) :: a2), fScope (some ⟨b85, 0, none⟩) ((a1.name, r73.1.l) :: a2), oT a_0 a0.t, oDTerm s_1 a1.sub, fScope a_2 a2, oEt] := S.pushScope 0 3
  clear K hV
  refine ws_chain 8 10 (by kernel_rfl) (by decide) ?_
  obtain ⟨r102, er102, H⟩ := bind_ex H
  obtain ⟨B104, MB104, SB104, back⟩ := S.calln 0 ((.z 2 rfl (.z 3 rfl (.z 0 rfl (.z 5 rfl .nil)))))
  refine wl_call (does_callg ca_types_checker_part (cons2 rfl (cons2 rfl (cons2 rfl (cons2 hv1017 rfl))))) (by decide) (types_checker_part_gst hrec_types_checker_told (a0 := a0) (a1 := a1) SB104 er102) ?_
  rintro _ w103 ⟨v105, rfl, S2⟩
  replace S : St A N w w103 [oE v105 r102.2, oE v91 r88.2, oB b78 T_Nd (Nd.C r73.1), oE v76 r73.2, oB b4 T_Term (Term.C (⟨a1.kind, a1.name, a1.other, a1.form, s_1⟩ : Term)), oB b2 T_Checker (Checker.C (⟨a_0⟩ : Checker))] [fScope (some ⟨b99, 0, none⟩) ((a1.other, r73.1.r) :: a2), fScope (some ⟨b85, 0, none⟩) ((a1.name, r73.1.l) :: a2), oT a_0 a0.t, oDTerm s_1 a1.sub, fScope a_2 a2, oEt] := back _ _ _ _ S2 rfl
  clear back S2 SB104
  refine wd (does_mv_t rfl) ?_
  refine wl_nil ⟨rfl, ?_⟩
  refine ws_semi 10 13 [] (by kernel_rfl) (by decide) (by kernel_rfl)
   (V := fun i v u => match i with
   | _ => True) ?_ ?_
  ·intro i v u u' hi hx hv
   match i, hv with
   | _, _ => exact trivial
  refine wm_does (fun v K => does_extract rfl rfl) rfl ?_
  refine wm_does (fun v K => does_extract rfl rfl) rfl ?_
  refine wm_does (fun v K => does_as_i rfl) rfl ?_
  refine wm_nil fun g w106 K hV => ?_
  replace S := S.ext K
  clear K hV
  refine ws_tail 13 (by kernel_rfl) (by decide) ?_
  refine wd (does_assign rfl) ?_
  refine wl_nil ?_
  refine wc_seq (wc_seq (wc_region ?_))
  refine wd (does_move rfl) ?_
  refine wd (does_eqE if_error rfl rfl (S.onO 0)) ?_
  refine wd (does_mv_b rfl) ?_
  refine wl_guard (j := 2) (pol := true) rfl rfl rfl (by decide) (fun hg => does_mv_i rfl) (by decide) ?_
  refine wl_guard (j := 2) (pol := true) rfl rfl rfl (by decide) (fun hg => does_mv_i rfl) (by decide) ?_
  refine wl_guard (j := 2) (pol := true) rfl rfl rfl (by decide) (fun hg => does_ne (gv_yes hg) (gv_yes hg)) (by decide) ?_
  refine wd (does_and rfl (fun hp => (gv_yes (and_1 hp)))) ?_
  refine wl_nil ?_
  refine wc_if rfl (fun hc108 => ?_) (fun hc108 => ?_)
  ·replace H := if_t hc108 H
   refine wc_region ?_
   refine wd (Does.to (v' := .agg (Refusal.C (⟨130, SlV.nil⟩ : Refusal)).toArray) (does_buildv (vs := [(0, .int .i64 130)]) bu_Refusal (consP rfl rfl) (Bld.one rfl rfl (by rw [Refusal.len]; decide) (Refusal.set_code _ _) Bld.nil)) rfl) ?_
   refine wl_box_agg rfl (by decide) fun b110 w109 hw109 => ?_
   replace S : St A N w w109 [oB b110 T_Refusal (Refusal.C (⟨130, SlV.nil⟩ : Refusal)), oE v105 r102.2, oE v91 r88.2, oB b78 T_Nd (Nd.C r73.1), oE v76 r73.2, oB b4 T_Term (Term.C (⟨a1.kind, a1.name, a1.other, a1.form, s_1⟩ : Term)), oB b2 T_Checker (Checker.C (⟨a_0⟩ : Checker))] [fScope (some ⟨b99, 0, none⟩) ((a1.other, r73.1.r) :: a2), fScope (some ⟨b85, 0, none⟩) ((a1.name, r73.1.l) :: a2), oT a_0 a0.t, oDTerm s_1 a1.sub, fScope a_2 a2, oEt] := S.new hw109
   refine wd (does_makeInterface rfl) ?_
   replace S := S.nil T_int 1 IC
   replace S := S.front 1
   replace S : St A N w w109 [oE (.iface T_P_Refusal (.pointer (some ⟨b110, 0, none⟩))) (some (130, ([] : List Int))), oE v105 r102.2, oE v91 r88.2, oB b78 T_Nd (Nd.C r73.1), oE v76 r73.2, oB b4 T_Term (Term.C (⟨a1.kind, a1.name, a1.other, a1.form, s_1⟩ : Term)), oB b2 T_Checker (Checker.C (⟨a_0⟩ : Checker))] [fScope (some ⟨b99, 0, none⟩) ((a1.other, r73.1.r) :: a2), fScope (some ⟨b85, 0, none⟩) ((a1.name, r73.1.l) :: a2), oT a_0 a0.t, oDTerm s_1 a1.sub, fScope a_2 a2, oEt] := S.mkE
   refine wd (does_assign rfl) ?_
   refine wl_nil ?_
   refine wc_seq (wc_region ?_)
   refine wd (does_mv_i rfl) ?_
   refine wd (does_move rfl) ?_
   refine wd (does_as_i rfl) ?_
   refine wd (does_assign rfl) ?_
   refine wl_nil ?_
   refine wc_ret ?_
   refine ⟨_, (rets2 (retOne_tmp rfl) (retOne_tmp rfl)), ?_⟩
   replace S : St A N w w109 [oE (.iface T_P_Refusal (.pointer (some ⟨b110, 0, none⟩))) (some (130, ([] : List Int)))] [] := S.arr [0] []
   obtain rfl := Option.some.inj H
   exact ⟨(.iface T_P_Refusal (.pointer (some ⟨b110, 0, none⟩))), rfl, S⟩
  ·replace H := if_f hc108 H
   refine wc_skip ?_
   refine wc_seq (wc_region ?_)
   refine wd (does_mv_i rfl) ?_
   refine wd (does_move rfl) ?_
   refine wd (does_as_i rfl) ?_
   refine wd (does_assign rfl) ?_
   refine wl_nil ?_
   refine wc_ret ?_
   refine ⟨_, (rets2 (retOne_tmp rfl) (retOne_tmp rfl)), ?_⟩
   replace S : St A N w w106 [oE v105 r102.2] [] := S.arr [0] []
   obtain rfl := Option.some.inj H
   exact ⟨v105, rfl, S⟩
 replace H := if_f hc72 H
 refine wc_skip ?_
 refine wc_seq (wc_region ?_)
 refine wd (Does.to (v' := .agg (Refusal.C (⟨132, SlV.nil⟩ : Refusal)).toArray) (does_buildv (vs := [(0, .int .i64 132)]) bu_Refusal (consP rfl rfl) (Bld.one rfl rfl (by rw [Refusal.len]; decide) (Refusal.set_code _ _) Bld.nil)) rfl) ?_
 refine wl_box_agg rfl (by decide) fun b112 w111 hw111 => ?_
 replace S : St A N w w111 [oB b112 T_Refusal (Refusal.C (⟨132, SlV.nil⟩ : Refusal)), oB b4 T_Term (Term.C (⟨a1.kind, a1.name, a1.other, a1.form, s_1⟩ : Term)), oB b2 T_Checker (Checker.C (⟨a_0⟩ : Checker))] [oT a_0 a0.t, oDTerm s_1 a1.sub, fScope a_2 a2, oEt] := S.new hw111
 refine wd (does_makeInterface rfl) ?_
 replace S := S.nil T_int 1 IC
 replace S := S.front 1
 replace S : St A N w w111 [oE (.iface T_P_Refusal (.pointer (some ⟨b112, 0, none⟩))) (some (132, ([] : List Int))), oB b4 T_Term (Term.C (⟨a1.kind, a1.name, a1.other, a1.form, s_1⟩ : Term)), oB b2 T_Checker (Checker.C (⟨a_0⟩ : Checker))] [oT a_0 a0.t, oDTerm s_1 a1.sub, fScope a_2 a2, oEt] := S.mkE
 refine wd (does_as_i rfl) ?_
 refine wd (does_assign rfl) ?_
 refine wl_nil ?_
 refine wc_ret ?_
 refine ⟨_, (rets2 (retOne_tmp rfl) (retOne_tmp rfl)), ?_⟩
 replace S : St A N w w111 [oE (.iface T_P_Refusal (.pointer (some ⟨b112, 0, none⟩))) (some (132, ([] : List Int)))] [] := S.arr [0] []
 obtain rfl := Option.some.inj H
 exact ⟨(.iface T_P_Refusal (.pointer (some ⟨b112, 0, none⟩))), rfl, S⟩
theorem types_checker_checked_gst {rec_types_checker_told : PChecker → PTerm → (List (ByteArray × Int)) → Option (Int × (Option (Int × List Int)))} (hrec_types_checker_told : ∀ {A : Nat → Prop} {N : Oth} {w : World} {a0 : PChecker} {a_0 : Option Addr} {a1 : PTerm} {s_1 : SlV} {a2 : List (ByteArray × Int)} {a_2 : Option Addr} (S : St A N w w [] [oT a_0 a0.t, oDTerm s_1 a1.sub, fScope a_2 a2, oEt]) {r : Int × (Option (Int × List Int))} (H : rec_types_checker_told a0 a1 a2 = some r), Calls PP F_types_checker_told #[.agg (Checker.C (⟨a_0⟩ : Checker)).toArray, .agg (Term.C (⟨a1.kind, a1.name, a1.other, a1.form, s_1⟩ : Term)).toArray, .pointer a_2] w fun e w' => ∃ v, e = .returned v ∧ (∃ vo0 : Value, v = .tuple #[.int .i64 r.1, vo0] ∧ St A N w w' [oE vo0 r.2] [])) {rec_types_checker_checked : PChecker → PTerm → (List (ByteArray × Int)) → Int → Option (Option (Int × List Int))} (hrec_types_checker_checked : ∀ {A : Nat → Prop} {N : Oth} {w : World} {a0 : PChecker} {a_0 : Option Addr} {a1 : PTerm} {s_1 : SlV} {a2 : List (ByteArray × Int)} {a_2 : Option Addr} {a3 : Int} (S : St A N w w [] [oT a_0 a0.t, oDTerm s_1 a1.sub, fScope a_2 a2, oEt]) {r : (Option (Int × List Int))} (H : rec_types_checker_checked a0 a1 a2 a3 = some r), Calls PP F_types_checker_checked #[.agg (Checker.C (⟨a_0⟩ : Checker)).toArray, .agg (Term.C (⟨a1.kind, a1.name, a1.other, a1.form, s_1⟩ : Term)).toArray, .pointer a_2, .int .i64 a3] w fun e w' => ∃ v, e = .returned v ∧ (∃ vo0 : Value, v = vo0 ∧ St A N w w' [oE vo0 r] [])) {A : Nat → Prop} {N : Oth} {w : World} {a0 : PChecker} {a_0 : Option Addr} {a1 : PTerm} {s_1 : SlV} {a2 : List (ByteArray × Int)} {a_2 : Option Addr} {a3 : Int} (S : St A N w w [] [oT a_0 a0.t, oDTerm s_1 a1.sub, fScope a_2 a2, oEt]) {r : (Option (Int × List Int))} (H : types_checker_checked.g rec_types_checker_told rec_types_checker_checked a0 a1 a2 a3 = some r) :
  Calls PP F_types_checker_checked #[.agg (Checker.C (⟨a_0⟩ : Checker)).toArray, .agg (Term.C (⟨a1.kind, a1.name, a1.other, a1.form, s_1⟩ : Term)).toArray, .pointer a_2, .int .i64 a3] w fun e w' => ∃ v, e = .returned v ∧ (∃ vo0 : Value, v = vo0 ∧ St A N w w' [oE vo0 r] []) := by
 unfold types_checker_checked.g at H
 refine calls_of_wc (n := 186) fn_types_checker_checked rfl rfl (by simp) ?_
 refine wc_seq (wc_region ?_)
 refine wl_box_agg rfl (by decide) fun b2 w1 hw1 => ?_
 replace S : St A N w w1 [oB b2 T_Checker (Checker.C (⟨a_0⟩ : Checker))] [oT a_0 a0.t, oDTerm s_1 a1.sub, fScope a_2 a2, oEt] := S.new hw1
 refine wl_box_agg rfl (by decide) fun b4 w3 hw3 => ?_
 replace S : St A N w w3 [oB b4 T_Term (Term.C (⟨a1.kind, a1.name, a1.other, a1.form, s_1⟩ : Term)), oB b2 T_Checker (Checker.C (⟨a_0⟩ : Checker))] [oT a_0 a0.t, oDTerm s_1 a1.sub, fScope a_2 a2, oEt] := S.new hw3
 refine wd (does_assign rfl) ?_
 refine wl_nil ?_
 refine wc_seq (wc_seq (wc_region ?_))
 refine wd (does_fieldAddr fl_Term_kind rfl (o' := 0) rfl) ?_
 refine wd (does_load on_api_TermKind rfl ((S.blk 0).cell (Term.get_kind _))) ?_
 refine wl_nil ?_
 refine wc_block ?_
 refine wc_seq (wc_region ?_)
 refine wd (does_eq rfl rfl) ?_
 refine wd (does_as_b rfl) ?_
 refine wl_nil ?_
 refine wc_if rfl (fun hc5 => ?_) (fun hc5 => ?_)
 ·replace H := if_t hc5 H
  refine wc_seq (wc_region ?_)
  refine wd (does_load_agg ag_Checker rfl ((S.blk 1).all _ (Checker.len _)) (Checker.len _)) ?_
  refine wd (does_mv_i rfl) ?_
  obtain ⟨r6, er6, H⟩ := bind_ex H
  obtain ⟨B8, MB8, SB8, back⟩ := S.calln 0 ((.z 0 rfl .nil))
  refine wl_call (does_call ca_types_checker_node) (by decide) (types_checker_node_st (a0 := a0) SB8 er6) ?_
  rintro _ w7 ⟨v9, rfl, S2⟩
  replace S : St A N w w7 [oE v9 r6.2, oB b4 T_Term (Term.C (⟨a1.kind, a1.name, a1.other, a1.form, s_1⟩ : Term)), oB b2 T_Checker (Checker.C (⟨a_0⟩ : Checker))] [oT a_0 a0.t, oDTerm s_1 a1.sub, fScope a_2 a2, oEt] := back _ _ _ _ S2 rfl
  clear back S2 SB8
  refine wd (does_mv_t rfl) ?_
  refine wd (does_extract rfl rfl) ?_
  refine wd (does_extract rfl rfl) ?_
  refine wl_alloc ze_Nd (by decide) fun b11 w10 hw10 => ?_
  replace S : St A N w w10 [oB b11 T_Nd (Nd.C Nd.z), oE v9 r6.2, oB b4 T_Term (Term.C (⟨a1.kind, a1.name, a1.other, a1.form, s_1⟩ : Term)), oB b2 T_Checker (Checker.C (⟨a_0⟩ : Checker))] [oT a_0 a0.t, oDTerm s_1 a1.sub, fScope a_2 a2, oEt] := S.new hw10
  refine wl_store_agg ag_Nd rfl rfl (S.blk 0) (Nd.len _) (by rw [Nd.len]; decide) (Nd.one _) (store_all (Nd.len _)) fun w12 B hw12 zw12 => ?_
  replace S : St A N w w12 [oB b11 T_Nd (Nd.C r6.1), oE v9 r6.2, oB b4 T_Term (Term.C (⟨a1.kind, a1.name, a1.other, a1.form, s_1⟩ : Term)), oB b2 T_Checker (Checker.C (⟨a_0⟩ : Checker))] [oT a_0 a0.t, oDTerm s_1 a1.sub, fScope a_2 a2, oEt] := S.store 0 B hw12
  clear B
  refine wd (does_assign rfl) ?_
  refine wl_nil ?_
  refine wc_seq (wc_seq (wc_region ?_))
  refine wd (does_move rfl) ?_
  refine wd (does_neE if_error rfl rfl (S.onO 1)) ?_
  refine wl_nil ?_
  refine wc_if rfl (fun hc13 => ?_) (fun hc13 => ?_)
  ·replace H := if_t hc13 H
   refine wc_seq (wc_region ?_)
   refine wd (does_move rfl) ?_
   refine wd (does_assign rfl) ?_
   refine wl_nil ?_
   refine wc_ret ?_
   refine ⟨_, (rets1 (retOne_tmp rfl)), ?_⟩
   replace S : St A N w w12 [oE v9 r6.2] [] := S.arr [1] []
   obtain rfl := Option.some.inj H
   exact ⟨v9, rfl, S⟩
  replace H := if_f hc13 H
  refine wc_skip ?_
  refine wc_seq ?_
  refine wc_semi 10 [7]
   (fun i v u => match i with
   | 7 => ∃ b : Nat, v = Value.pointer (some ⟨b, 0, none⟩) ∧ Blk u b T_Scope (Scope.C ⟨a1.name, r6.1.l, a_2⟩) ∧ w12.heap.size ≤ b
   | _ => True) hmix (by kernel_rfl) (by kernel_rfl) ?_ ?_
  ·intro i v u u' hi hx hv
   match i, hv with
   | 7, ⟨b, e1, hb, hl⟩ => exact ⟨b, e1, hb.ext hx, hl⟩
   | 0, _ => exact trivial
   | 1, _ => exact trivial
   | 2, _ => exact trivial
   | 3, _ => exact trivial
   | 4, _ => exact trivial
   | 5, _ => exact trivial
   | 6, _ => exact trivial
   | _ + 8, _ => exact trivial
  refine wm_does (fun v K => does_load_agg ag_Checker rfl (((S.ext K).blk 3).all _ (Checker.len _)) (Checker.len _)) rfl ?_
  refine wm_does (fun v K => does_load_agg ag_Term rfl (((S.ext K).blk 2).all _ (Term.len _)) (Term.len _)) rfl ?_
  refine wm_does (fun v K => does_mv_p rfl) rfl ?_
  refine wm_does (fun v K => does_fieldAddr fl_Term_name rfl (o' := 1) rfl) rfl ?_
  refine wm_does (fun v K => does_load on_string rfl (((S.ext K).blk 2).cell (Term.get_name _))) rfl ?_
  refine wm_does (fun v K => does_fieldAddr fl_Nd_l rfl (o' := 2) rfl) rfl ?_
  refine wm_does (fun v K => does_load on_int rfl (((S.ext K).blk 0).cell (Nd.get_l _))) rfl ?_
  refine wm_newcall (fun g v K G => ⟨_, _, does_callg ca_types_scope_with (cons2 rfl (cons2 rfl (cons2 rfl rfl))), newc (types_scope_with_ok _ _ _ _) fun _ _ ⟨b, hv, hx, hb, hl⟩ => ⟨hx, b, hv, hb, by have := K.size; omega⟩⟩) rfl ?_
  refine wm_does (fun v K => does_fieldAddr fl_Nd_r rfl (o' := 3) rfl) rfl ?_
  refine wm_does (fun v K => does_load on_int rfl (((S.ext K).blk 0).cell (Nd.get_r _))) rfl ?_
  refine wm_nil fun g w15 K hV => ?_
  obtain ⟨b14, hv167, hb7, hf7⟩ := hV 7 rfl (by decide)
  replace S : St A N w w15 [oB b14 T_Scope (Scope.C ⟨a1.name, r6.1.l, a_2⟩), oB b11 T_Nd (Nd.C r6.1), oE v9 r6.2, oB b4 T_Term (Term.C (⟨a1.kind, a1.name, a1.other, a1.form, s_1⟩ : Term)), oB b2 T_Checker (Checker.C (⟨a_0⟩ : Checker))] [oT a_0 a0.t, oDTerm s_1 a1.sub, fScope a_2 a2, oEt] := S.newAt K hb7 hf7
  replace S : St A N w w15 [oB b11 T_Nd (Nd.C r6.1), oE v9 r6.2, oB b4 T_Term (Term.C (⟨a1.kind, a1.name, a1.other, a1.form, s_1⟩ : Term)), oB b2 T_Checker (Checker.C (⟨a_0⟩ : Checker))] [fScope (some ⟨b14, 0, none⟩) ((a1.name, r6.1.l) :: a2), oT a_0 a0.t, oDTerm s_1 a1.sub, fScope a_2 a2, oEt] := S.pushScope 0 2
  clear K hV
  obtain ⟨r17, er17, H⟩ := bind_ex H
  obtain ⟨B19, MB19, SB19, back⟩ := S.calln 0 ((.z 1 rfl (.z 2 rfl (.z 0 rfl (.z 4 rfl .nil)))))
  refine wl_call (does_callg ca_types_checker_check (cons2 rfl (cons2 rfl (cons2 rfl (cons2 hv167 (cons2 rfl rfl)))))) (by decide) (types_checker_check_gst hrec_types_checker_checked (a0 := a0) (a1 := a1) SB19 er17) ?_
  rintro v20 w18 ⟨_, rfl, S2⟩
  replace S : St A N w w18 [oE v20 r17, oB b11 T_Nd (Nd.C r6.1), oE v9 r6.2, oB b4 T_Term (Term.C (⟨a1.kind, a1.name, a1.other, a1.form, s_1⟩ : Term)), oB b2 T_Checker (Checker.C (⟨a_0⟩ : Checker))] [fScope (some ⟨b14, 0, none⟩) ((a1.name, r6.1.l) :: a2), oT a_0 a0.t, oDTerm s_1 a1.sub, fScope a_2 a2, oEt] := back _ _ _ _ S2 rfl
  clear back S2 SB19
  refine wd (does_assign rfl) ?_
  refine wl_nil ?_
  refine wc_ret ?_
  refine ⟨_, (rets1 (retOne_tmp rfl)), ?_⟩
  replace S : St A N w w18 [oE v20 r17] [] := S.arr [0] []
  obtain rfl := Option.some.inj H
  exact ⟨v20, rfl, S⟩
 replace H := if_f hc5 H
 refine wc_seq (wc_region ?_)
 refine wd (does_eq rfl rfl) ?_
 refine wd (does_as_b rfl) ?_
 refine wl_nil ?_
 refine wc_if rfl (fun hc21 => ?_) (fun hc21 => ?_)
 ·replace H := if_t hc21 H
  refine wc_seq (wc_region ?_)
  refine wd (does_load_agg ag_Checker rfl ((S.blk 1).all _ (Checker.len _)) (Checker.len _)) ?_
  refine wd (does_mv_i rfl) ?_
  obtain ⟨r22, er22, H⟩ := bind_ex H
  obtain ⟨B24, MB24, SB24, back⟩ := S.calln 0 ((.z 0 rfl .nil))
  refine wl_call (does_call ca_types_checker_node) (by decide) (types_checker_node_st (a0 := a0) SB24 er22) ?_
  rintro _ w23 ⟨v25, rfl, S2⟩
  replace S : St A N w w23 [oE v25 r22.2, oB b4 T_Term (Term.C (⟨a1.kind, a1.name, a1.other, a1.form, s_1⟩ : Term)), oB b2 T_Checker (Checker.C (⟨a_0⟩ : Checker))] [oT a_0 a0.t, oDTerm s_1 a1.sub, fScope a_2 a2, oEt] := back _ _ _ _ S2 rfl
  clear back S2 SB24
  refine wd (does_mv_t rfl) ?_
  refine wd (does_extract rfl rfl) ?_
  refine wd (does_extract rfl rfl) ?_
  refine wl_alloc ze_Nd (by decide) fun b27 w26 hw26 => ?_
  replace S : St A N w w26 [oB b27 T_Nd (Nd.C Nd.z), oE v25 r22.2, oB b4 T_Term (Term.C (⟨a1.kind, a1.name, a1.other, a1.form, s_1⟩ : Term)), oB b2 T_Checker (Checker.C (⟨a_0⟩ : Checker))] [oT a_0 a0.t, oDTerm s_1 a1.sub, fScope a_2 a2, oEt] := S.new hw26
  refine wl_store_agg ag_Nd rfl rfl (S.blk 0) (Nd.len _) (by rw [Nd.len]; decide) (Nd.one _) (store_all (Nd.len _)) fun w28 B hw28 zw28 => ?_
  replace S : St A N w w28 [oB b27 T_Nd (Nd.C r22.1), oE v25 r22.2, oB b4 T_Term (Term.C (⟨a1.kind, a1.name, a1.other, a1.form, s_1⟩ : Term)), oB b2 T_Checker (Checker.C (⟨a_0⟩ : Checker))] [oT a_0 a0.t, oDTerm s_1 a1.sub, fScope a_2 a2, oEt] := S.store 0 B hw28
  clear B
  refine wd (does_assign rfl) ?_
  refine wl_nil ?_
  refine wc_seq (wc_seq (wc_region ?_))
  refine wd (does_move rfl) ?_
  refine wd (does_neE if_error rfl rfl (S.onO 1)) ?_
  refine wl_nil ?_
  refine wc_if rfl (fun hc29 => ?_) (fun hc29 => ?_)
  ·replace H := if_t hc29 H
   refine wc_seq (wc_region ?_)
   refine wd (does_move rfl) ?_
   refine wd (does_assign rfl) ?_
   refine wl_nil ?_
   refine wc_ret ?_
   refine ⟨_, (rets1 (retOne_tmp rfl)), ?_⟩
   replace S : St A N w w28 [oE v25 r22.2] [] := S.arr [1] []
   obtain rfl := Option.some.inj H
   exact ⟨v25, rfl, S⟩
  replace H := if_f hc29 H
  refine wc_skip ?_
  refine wc_seq (wc_seq (wc_region ?_))
  refine wd (does_load_agg ag_Checker rfl ((S.blk 3).all _ (Checker.len _)) (Checker.len _)) ?_
  refine wd (does_load_agg ag_Term rfl ((S.blk 2).all _ (Term.len _)) (Term.len _)) ?_
  refine wd (does_mv_p rfl) ?_
  refine wd (does_fieldAddr fl_Nd_l rfl (o' := 2) rfl) ?_
  refine wd (does_load on_int rfl ((S.blk 0).cell (Nd.get_l _))) ?_
  obtain ⟨r30, er30, H⟩ := bind_ex H
  obtain ⟨B32, MB32, SB32, back⟩ := S.calln 0 ((.z 0 rfl (.z 1 rfl (.z 2 rfl (.z 3 rfl .nil)))))
  refine wl_call (does_call ca_types_checker_check) (by decide) (types_checker_check_gst hrec_types_checker_checked (a0 := a0) (a1 := a1) SB32 er30) ?_
  rintro v33 w31 ⟨_, rfl, S2⟩
  replace S : St A N w w31 [oE v33 r30, oB b27 T_Nd (Nd.C r22.1), oE v25 r22.2, oB b4 T_Term (Term.C (⟨a1.kind, a1.name, a1.other, a1.form, s_1⟩ : Term)), oB b2 T_Checker (Checker.C (⟨a_0⟩ : Checker))] [oT a_0 a0.t, oDTerm s_1 a1.sub, fScope a_2 a2, oEt] := back _ _ _ _ S2 rfl
  clear back S2 SB32
  refine wd (does_assign rfl) ?_
  refine wl_nil ?_
  refine wc_seq (wc_region ?_)
  refine wd (does_move rfl) ?_
  refine wd (does_neE if_error rfl rfl (S.onO 0)) ?_
  refine wl_nil ?_
  refine wc_if rfl (fun hc34 => ?_) (fun hc34 => ?_)
  ·replace H := if_t hc34 H
   refine wc_seq (wc_region ?_)
   refine wd (does_move rfl) ?_
   refine wd (does_assign rfl) ?_
   refine wl_nil ?_
   refine wc_ret ?_
   refine ⟨_, (rets1 (retOne_tmp rfl)), ?_⟩
   replace S : St A N w w31 [oE v33 r30] [] := S.arr [0] []
   obtain rfl := Option.some.inj H
   exact ⟨v33, rfl, S⟩
  replace H := if_f hc34 H
  refine wc_skip ?_
  refine wc_seq (wc_region ?_)
  refine wd (does_load_agg ag_Checker rfl ((S.blk 4).all _ (Checker.len _)) (Checker.len _)) ?_
  refine wd (does_load_agg ag_Term rfl ((S.blk 3).all _ (Term.len _)) (Term.len _)) ?_
  refine wd (does_mv_p rfl) ?_
  refine wd (does_fieldAddr fl_Nd_r rfl (o' := 3) rfl) ?_
  refine wd (does_load on_int rfl ((S.blk 1).cell (Nd.get_r _))) ?_
  obtain ⟨r35, er35, H⟩ := bind_ex H
  obtain ⟨B37, MB37, SB37, back⟩ := S.calln 0 ((.z 0 rfl (.z 1 rfl (.z 2 rfl (.z 3 rfl .nil)))))
  refine wl_call (does_call ca_types_checker_check) (by decide) (types_checker_check_gst hrec_types_checker_checked (a0 := a0) (a1 := a1) SB37 er35) ?_
  rintro v38 w36 ⟨_, rfl, S2⟩
  replace S : St A N w w36 [oE v38 r35, oE v33 r30, oB b27 T_Nd (Nd.C r22.1), oE v25 r22.2, oB b4 T_Term (Term.C (⟨a1.kind, a1.name, a1.other, a1.form, s_1⟩ : Term)), oB b2 T_Checker (Checker.C (⟨a_0⟩ : Checker))] [oT a_0 a0.t, oDTerm s_1 a1.sub, fScope a_2 a2, oEt] := back _ _ _ _ S2 rfl
  clear back S2 SB37
  refine wd (does_assign rfl) ?_
  refine wl_nil ?_
  refine wc_ret ?_
  refine ⟨_, (rets1 (retOne_tmp rfl)), ?_⟩
  replace S : St A N w w36 [oE v38 r35] [] := S.arr [0] []
  obtain rfl := Option.some.inj H
  exact ⟨v38, rfl, S⟩
 replace H := if_f hc21 H
 refine wc_seq (wc_seq (wc_region ?_))
 refine wd (does_eq rfl rfl) ?_
 refine wd (does_as_b rfl) ?_
 refine wl_nil ?_
 obtain ⟨o39, e39, Ho39⟩ := bind_ex H
 replace H := e39; clear e39
 refine wc_cutq [75, 77] (fun fr W => fr 75 = .bool o39 ∧ St A N w W [oB b4 T_Term (Term.C (⟨a1.kind, a1.name, a1.other, a1.form, s_1⟩ : Term)), oB b2 T_Checker (Checker.C (⟨a_0⟩ : Checker))] [oT a_0 a0.t, oDTerm s_1 a1.sub, fScope a_2 a2, oEt]) ?_ ?_
 ·refine wc_if rfl (fun hc40 => ?_) (fun hc40 => ?_)
  ·replace H := if_t hc40 H
   refine wc_skip ?_
   obtain rfl := Option.some.inj H
   exact ⟨rfl, (Dif.refl _ _), rfl, S⟩
  ·replace H := if_f hc40 H
   refine wc_region ?_
   refine wd (does_eq rfl rfl) ?_
   refine wd (does_as_b rfl) ?_
   refine wl_nil ?_
   obtain rfl := Option.some.inj H
   exact ⟨rfl, (((Dif.refl _ _).upd rfl _).upd rfl _), rfl, S⟩
 rintro g41 u42 ⟨p39_75, S⟩
 have H := Ho39
 refine wc_if p39_75 (fun hc43 => ?_) (fun hc43 => ?_)
 ·replace H := if_t hc43 H
  refine wc_seq (wc_region ?_)
  refine wd (does_load_agg ag_Checker rfl ((S.blk 1).all _ (Checker.len _)) (Checker.len _)) ?_
  refine wd (does_mv_i rfl) ?_
  obtain ⟨r44, er44, H⟩ := bind_ex H
  obtain ⟨B46, MB46, SB46, back⟩ := S.calln 0 ((.z 0 rfl .nil))
  refine wl_call (does_call ca_types_checker_node) (by decide) (types_checker_node_st (a0 := a0) SB46 er44) ?_
  rintro _ w45 ⟨v47, rfl, S2⟩
  replace S : St A N w w45 [oE v47 r44.2, oB b4 T_Term (Term.C (⟨a1.kind, a1.name, a1.other, a1.form, s_1⟩ : Term)), oB b2 T_Checker (Checker.C (⟨a_0⟩ : Checker))] [oT a_0 a0.t, oDTerm s_1 a1.sub, fScope a_2 a2, oEt] := back _ _ _ _ S2 rfl
  clear back S2 SB46
  refine wd (does_mv_t rfl) ?_
  refine wd (does_extract rfl rfl) ?_
  refine wd (does_extract rfl rfl) ?_
  refine wl_alloc ze_Nd (by decide) fun b49 w48 hw48 => ?_
  replace S : St A N w w48 [oB b49 T_Nd (Nd.C Nd.z), oE v47 r44.2, oB b4 T_Term (Term.C (⟨a1.kind, a1.name, a1.other, a1.form, s_1⟩ : Term)), oB b2 T_Checker (Checker.C (⟨a_0⟩ : Checker))] [oT a_0 a0.t, oDTerm s_1 a1.sub, fScope a_2 a2, oEt] := S.new hw48
  refine wl_store_agg ag_Nd rfl rfl (S.blk 0) (Nd.len _) (by rw [Nd.len]; decide) (Nd.one _) (store_all (Nd.len _)) fun w50 B hw50 zw50 => ?_
  replace S : St A N w w50 [oB b49 T_Nd (Nd.C r44.1), oE v47 r44.2, oB b4 T_Term (Term.C (⟨a1.kind, a1.name, a1.other, a1.form, s_1⟩ : Term)), oB b2 T_Checker (Checker.C (⟨a_0⟩ : Checker))] [oT a_0 a0.t, oDTerm s_1 a1.sub, fScope a_2 a2, oEt] := S.store 0 B hw50
  clear B
  refine wd (does_assign rfl) ?_
  refine wl_nil ?_
  refine wc_seq (wc_seq (wc_region ?_))
  refine wd (does_move rfl) ?_
  refine wd (does_neE if_error rfl rfl (S.onO 1)) ?_
  refine wl_nil ?_
  refine wc_if rfl (fun hc51 => ?_) (fun hc51 => ?_)
  ·replace H := if_t hc51 H
   refine wc_seq (wc_region ?_)
   refine wd (does_move rfl) ?_
   refine wd (does_assign rfl) ?_
   refine wl_nil ?_
   refine wc_ret ?_
   refine ⟨_, (rets1 (retOne_tmp rfl)), ?_⟩
   replace S : St A N w w50 [oE v47 r44.2] [] := S.arr [1] []
   obtain rfl := Option.some.inj H
   exact ⟨v47, rfl, S⟩
  replace H := if_f hc51 H
  refine wc_skip ?_
  refine wc_seq (wc_seq (wc_region ?_))
  refine wd (does_fieldAddr fl_Term_kind rfl (o' := 0) rfl) ?_
  refine wd (does_load on_api_TermKind rfl ((S.blk 2).cell (Term.get_kind _))) ?_
  refine wd (does_eq rfl rfl) ?_
  refine wl_nil ?_
  refine wc_if rfl (fun hc52 => ?_) (fun hc52 => ?_)
  ·replace H := if_t hc52 H
   refine wc_seq (wc_region ?_)
   refine wd (does_load_agg ag_Checker rfl ((S.blk 3).all _ (Checker.len _)) (Checker.len _)) ?_
   refine wd (does_load_agg ag_Term rfl ((S.blk 2).all _ (Term.len _)) (Term.len _)) ?_
   refine wd (does_mv_p rfl) ?_
   refine wd (does_fieldAddr fl_Nd_l rfl (o' := 2) rfl) ?_
   refine wd (does_load on_int rfl ((S.blk 0).cell (Nd.get_l _))) ?_
   obtain ⟨r53, er53, H⟩ := bind_ex H
   obtain ⟨B55, MB55, SB55, back⟩ := S.calln 0 ((.z 0 rfl (.z 1 rfl (.z 2 rfl (.z 3 rfl .nil)))))
   refine wl_call (does_call ca_types_checker_check) (by decide) (types_checker_check_gst hrec_types_checker_checked (a0 := a0) (a1 := a1) SB55 er53) ?_
   rintro v56 w54 ⟨_, rfl, S2⟩
   replace S : St A N w w54 [oE v56 r53, oB b49 T_Nd (Nd.C r44.1), oE v47 r44.2, oB b4 T_Term (Term.C (⟨a1.kind, a1.name, a1.other, a1.form, s_1⟩ : Term)), oB b2 T_Checker (Checker.C (⟨a_0⟩ : Checker))] [oT a_0 a0.t, oDTerm s_1 a1.sub, fScope a_2 a2, oEt] := back _ _ _ _ S2 rfl
   clear back S2 SB55
   refine wd (does_assign rfl) ?_
   refine wl_nil ?_
   refine wc_ret ?_
   refine ⟨_, (rets1 (retOne_tmp rfl)), ?_⟩
   replace S : St A N w w54 [oE v56 r53] [] := S.arr [0] []
   obtain rfl := Option.some.inj H
   exact ⟨v56, rfl, S⟩
  replace H := if_f hc52 H
  refine wc_skip ?_
  refine wc_seq (wc_region ?_)
  refine wd (does_load_agg ag_Checker rfl ((S.blk 3).all _ (Checker.len _)) (Checker.len _)) ?_
  refine wd (does_load_agg ag_Term rfl ((S.blk 2).all _ (Term.len _)) (Term.len _)) ?_
  refine wd (does_mv_p rfl) ?_
  refine wd (does_fieldAddr fl_Nd_r rfl (o' := 3) rfl) ?_
  refine wd (does_load on_int rfl ((S.blk 0).cell (Nd.get_r _))) ?_
  obtain ⟨r57, er57, H⟩ := bind_ex H
  obtain ⟨B59, MB59, SB59, back⟩ := S.calln 0 ((.z 0 rfl (.z 1 rfl (.z 2 rfl (.z 3 rfl .nil)))))
  refine wl_call (does_call ca_types_checker_check) (by decide) (types_checker_check_gst hrec_types_checker_checked (a0 := a0) (a1 := a1) SB59 er57) ?_
  rintro v60 w58 ⟨_, rfl, S2⟩
  replace S : St A N w w58 [oE v60 r57, oB b49 T_Nd (Nd.C r44.1), oE v47 r44.2, oB b4 T_Term (Term.C (⟨a1.kind, a1.name, a1.other, a1.form, s_1⟩ : Term)), oB b2 T_Checker (Checker.C (⟨a_0⟩ : Checker))] [oT a_0 a0.t, oDTerm s_1 a1.sub, fScope a_2 a2, oEt] := back _ _ _ _ S2 rfl
  clear back S2 SB59
  refine wd (does_assign rfl) ?_
  refine wl_nil ?_
  refine wc_ret ?_
  refine ⟨_, (rets1 (retOne_tmp rfl)), ?_⟩
  replace S : St A N w w58 [oE v60 r57] [] := S.arr [0] []
  obtain rfl := Option.some.inj H
  exact ⟨v60, rfl, S⟩
 replace H := if_f hc43 H
 refine wc_seq (wc_region ?_)
 refine wd (does_eq rfl rfl) ?_
 refine wd (does_as_b rfl) ?_
 refine wl_nil ?_
 refine wc_if rfl (fun hc61 => ?_) (fun hc61 => ?_)
 ·replace H := if_t hc61 H
  refine wc_seq (wc_region ?_)
  refine wd (does_load_agg ag_Checker rfl ((S.blk 1).all _ (Checker.len _)) (Checker.len _)) ?_
  refine wd (does_load_agg ag_Term rfl ((S.blk 0).all _ (Term.len _)) (Term.len _)) ?_
  refine wd (does_mv_p rfl) ?_
  obtain ⟨r62, er62, H⟩ := bind_ex H
  obtain ⟨B64, MB64, SB64, back⟩ := S.calln 0 ((.z 0 rfl (.z 1 rfl (.z 2 rfl (.z 3 rfl .nil)))))
  refine wl_call (does_call ca_types_checker_head) (by decide) (types_checker_head_gst hrec_types_checker_told (a0 := a0) (a1 := a1) SB64 er62) ?_
  rintro _ w63 ⟨v65, rfl, S2⟩
  replace S : St A N w w63 [oE v65 r62.2, oB b4 T_Term (Term.C (⟨a1.kind, a1.name, a1.other, a1.form, s_1⟩ : Term)), oB b2 T_Checker (Checker.C (⟨a_0⟩ : Checker))] [oT a_0 a0.t, oDTerm s_1 a1.sub, fScope a_2 a2, oEt] := back _ _ _ _ S2 rfl
  clear back S2 SB64
  refine wd (does_mv_t rfl) ?_
  refine wd (does_extract rfl rfl) ?_
  refine wd (does_extract rfl rfl) ?_
  refine wl_alloc ze_Nd (by decide) fun b67 w66 hw66 => ?_
  replace S : St A N w w66 [oB b67 T_Nd (Nd.C Nd.z), oE v65 r62.2, oB b4 T_Term (Term.C (⟨a1.kind, a1.name, a1.other, a1.form, s_1⟩ : Term)), oB b2 T_Checker (Checker.C (⟨a_0⟩ : Checker))] [oT a_0 a0.t, oDTerm s_1 a1.sub, fScope a_2 a2, oEt] := S.new hw66
  refine wl_store_agg ag_Nd rfl rfl (S.blk 0) (Nd.len _) (by rw [Nd.len]; decide) (Nd.one _) (store_all (Nd.len _)) fun w68 B hw68 zw68 => ?_
  replace S : St A N w w68 [oB b67 T_Nd (Nd.C r62.1), oE v65 r62.2, oB b4 T_Term (Term.C (⟨a1.kind, a1.name, a1.other, a1.form, s_1⟩ : Term)), oB b2 T_Checker (Checker.C (⟨a_0⟩ : Checker))] [oT a_0 a0.t, oDTerm s_1 a1.sub, fScope a_2 a2, oEt] := S.store 0 B hw68
  clear B
  refine wd (does_assign rfl) ?_
  refine wl_nil ?_
  refine wc_seq (wc_seq (wc_region ?_))
  refine wd (does_move rfl) ?_
  refine wd (does_neE if_error rfl rfl (S.onO 1)) ?_
  refine wl_nil ?_
  refine wc_if rfl (fun hc69 => ?_) (fun hc69 => ?_)
  ·replace H := if_t hc69 H
   refine wc_seq (wc_region ?_)
   refine wd (does_move rfl) ?_
   refine wd (does_assign rfl) ?_
   refine wl_nil ?_
   refine wc_ret ?_
   refine ⟨_, (rets1 (retOne_tmp rfl)), ?_⟩
   replace S : St A N w w68 [oE v65 r62.2] [] := S.arr [1] []
   obtain rfl := Option.some.inj H
   exact ⟨v65, rfl, S⟩
  replace H := if_f hc69 H
  refine wc_skip ?_
  refine wc_seq ?_
  refine wc_seq ?_
  refine wc_semi 9 [7]
   (fun i v u => match i with
   | 7 => ∃ b : Nat, v = Value.pointer (some ⟨b, 0, none⟩) ∧ Blk u b T_Scope (Scope.C ⟨a1.name, r62.1.l, a_2⟩) ∧ w68.heap.size ≤ b
   | _ => True) hmix (by kernel_rfl) (by kernel_rfl) ?_ ?_
  ·intro i v u u' hi hx hv
   match i, hv with
   | 7, ⟨b, e1, hb, hl⟩ => exact ⟨b, e1, hb.ext hx, hl⟩
   | 0, _ => exact trivial
   | 1, _ => exact trivial
   | 2, _ => exact trivial
   | 3, _ => exact trivial
   | 4, _ => exact trivial
   | 5, _ => exact trivial
   | 6, _ => exact trivial
   | _ + 8, _ => exact trivial
  refine wm_does (fun v K => does_load_agg ag_Checker rfl (((S.ext K).blk 3).all _ (Checker.len _)) (Checker.len _)) rfl ?_
  refine wm_does (fun v K => does_load_agg ag_Term rfl (((S.ext K).blk 2).all _ (Term.len _)) (Term.len _)) rfl ?_
  refine wm_does (fun v K => does_mv_p rfl) rfl ?_
  refine wm_does (fun v K => does_fieldAddr fl_Term_name rfl (o' := 1) rfl) rfl ?_
  refine wm_does (fun v K => does_load on_string rfl (((S.ext K).blk 2).cell (Term.get_name _))) rfl ?_
  refine wm_does (fun v K => does_fieldAddr fl_Nd_l rfl (o' := 2) rfl) rfl ?_
  refine wm_does (fun v K => does_load on_int rfl (((S.ext K).blk 0).cell (Nd.get_l _))) rfl ?_
  refine wm_newcall (fun g v K G => ⟨_, _, does_callg ca_types_scope_with (cons2 rfl (cons2 rfl (cons2 rfl rfl))), newc (types_scope_with_ok _ _ _ _) fun _ _ ⟨b, hv, hx, hb, hl⟩ => ⟨hx, b, hv, hb, by have := K.size; omega⟩⟩) rfl ?_
  refine wm_does (fun v K => does_mv_i rfl) rfl ?_
  refine wm_nil fun g w71 K hV => ?_
  obtain ⟨b70, hv727, hb7, hf7⟩ := hV 7 rfl (by decide)
  replace S : St A N w w71 [oB b70 T_Scope (Scope.C ⟨a1.name, r62.1.l, a_2⟩), oB b67 T_Nd (Nd.C r62.1), oE v65 r62.2, oB b4 T_Term (Term.C (⟨a1.kind, a1.name, a1.other, a1.form, s_1⟩ : Term)), oB b2 T_Checker (Checker.C (⟨a_0⟩ : Checker))] [oT a_0 a0.t, oDTerm s_1 a1.sub, fScope a_2 a2, oEt] := S.newAt K hb7 hf7
  replace S : St A N w w71 [oB b67 T_Nd (Nd.C r62.1), oE v65 r62.2, oB b4 T_Term (Term.C (⟨a1.kind, a1.name, a1.other, a1.form, s_1⟩ : Term)), oB b2 T_Checker (Checker.C (⟨a_0⟩ : Checker))] [fScope (some ⟨b70, 0, none⟩) ((a1.name, r62.1.l) :: a2), oT a_0 a0.t, oDTerm s_1 a1.sub, fScope a_2 a2, oEt] := S.pushScope 0 2
  clear K hV
  obtain ⟨r73, er73, H⟩ := bind_ex H
  obtain ⟨B75, MB75, SB75, back⟩ := S.calln 0 ((.z 1 rfl (.z 2 rfl (.z 0 rfl (.z 4 rfl .nil)))))
  refine wl_call (does_callg ca_types_checker_check (cons2 rfl (cons2 rfl (cons2 rfl (cons2 hv727 (cons2 rfl rfl)))))) (by decide) (types_checker_check_gst hrec_types_checker_checked (a0 := a0) (a1 := a1) SB75 er73) ?_
  rintro v76 w74 ⟨_, rfl, S2⟩
  replace S : St A N w w74 [oE v76 r73, oB b67 T_Nd (Nd.C r62.1), oE v65 r62.2, oB b4 T_Term (Term.C (⟨a1.kind, a1.name, a1.other, a1.form, s_1⟩ : Term)), oB b2 T_Checker (Checker.C (⟨a_0⟩ : Checker))] [fScope (some ⟨b70, 0, none⟩) ((a1.name, r62.1.l) :: a2), oT a_0 a0.t, oDTerm s_1 a1.sub, fScope a_2 a2, oEt] := back _ _ _ _ S2 rfl
  clear back S2 SB75
  refine wd (does_assign rfl) ?_
  refine wl_nil ?_
  refine wc_seq (wc_region ?_)
  refine wd (does_move rfl) ?_
  refine wd (does_neE if_error rfl rfl (S.onO 0)) ?_
  refine wl_nil ?_
  refine wc_if rfl (fun hc77 => ?_) (fun hc77 => ?_)
  ·replace H := if_t hc77 H
   refine wc_seq (wc_region ?_)
   refine wd (does_move rfl) ?_
   refine wd (does_assign rfl) ?_
   refine wl_nil ?_
   refine wc_ret ?_
   refine ⟨_, (rets1 (retOne_tmp rfl)), ?_⟩
   replace S : St A N w w74 [oE v76 r73] [] := S.arr [0] []
   obtain rfl := Option.some.inj H
   exact ⟨v76, rfl, S⟩
  replace H := if_f hc77 H
  refine wc_skip ?_
  refine wc_seq ?_
  refine wc_semi 9 [7]
   (fun i v u => match i with
   | 7 => ∃ b : Nat, v = Value.pointer (some ⟨b, 0, none⟩) ∧ Blk u b T_Scope (Scope.C ⟨a1.other, r62.1.r, a_2⟩) ∧ w74.heap.size ≤ b
   | _ => True) hmix (by kernel_rfl) (by kernel_rfl) ?_ ?_
  ·intro i v u u' hi hx hv
   match i, hv with
   | 7, ⟨b, e1, hb, hl⟩ => exact ⟨b, e1, hb.ext hx, hl⟩
   | 0, _ => exact trivial
   | 1, _ => exact trivial
   | 2, _ => exact trivial
   | 3, _ => exact trivial
   | 4, _ => exact trivial
   | 5, _ => exact trivial
   | 6, _ => exact trivial
   | _ + 8, _ => exact trivial
  refine wm_does (fun v K => does_load_agg ag_Checker rfl (((S.ext K).blk 4).all _ (Checker.len _)) (Checker.len _)) rfl ?_
  refine wm_does (fun v K => does_load_agg ag_Term rfl (((S.ext K).blk 3).all _ (Term.len _)) (Term.len _)) rfl ?_
  refine wm_does (fun v K => does_mv_p rfl) rfl ?_
  refine wm_does (fun v K => does_fieldAddr fl_Term_other rfl (o' := 2) rfl) rfl ?_
  refine wm_does (fun v K => does_load on_string rfl (((S.ext K).blk 3).cell (Term.get_other _))) rfl ?_
  refine wm_does (fun v K => does_fieldAddr fl_Nd_r rfl (o' := 3) rfl) rfl ?_
  refine wm_does (fun v K => does_load on_int rfl (((S.ext K).blk 1).cell (Nd.get_r _))) rfl ?_
  refine wm_newcall (fun g v K G => ⟨_, _, does_callg ca_types_scope_with (cons2 rfl (cons2 rfl (cons2 rfl rfl))), newc (types_scope_with_ok _ _ _ _) fun _ _ ⟨b, hv, hx, hb, hl⟩ => ⟨hx, b, hv, hb, by have := K.size; omega⟩⟩) rfl ?_
  refine wm_does (fun v K => does_mv_i rfl) rfl ?_
  refine wm_nil fun g w79 K hV => ?_
  obtain ⟨b78, hv807, hb7, hf7⟩ := hV 7 rfl (by decide)
  replace S : St A N w w79 [oB b78 T_Scope (Scope.C ⟨a1.other, r62.1.r, a_2⟩), oE v76 r73, oB b67 T_Nd (Nd.C r62.1), oE v65 r62.2, oB b4 T_Term (Term.C (⟨a1.kind, a1.name, a1.other, a1.form, s_1⟩ : Term)), oB b2 T_Checker (Checker.C (⟨a_0⟩ : Checker))] [fScope (some ⟨b70, 0, none⟩) ((a1.name, r62.1.l) :: a2), oT a_0 a0.t, oDTerm s_1 a1.sub, fScope a_2 a2, oEt] := S.newAt K hb7 hf7
  replace S : St A N w w79 [oE v76 r73, oB b67 T_Nd (Nd.C r62.1), oE v65 r62.2, oB b4 T_Term (Term.C (⟨a1.kind, a1.name, a1.other, a1.form, s_1⟩ : Term)), oB b2 T_Checker (Checker.C (⟨a_0⟩ : Checker))] [fScope (some ⟨b78, 0, none⟩) ((a1.other, r62.1.r) :: a2), fScope (some ⟨b70, 0, none⟩) ((a1.name, r62.1.l) :: a2), oT a_0 a0.t, oDTerm s_1 a1.sub, fScope a_2 a2, oEt] := S.pushScope 0 3
  clear K hV
  obtain ⟨r81, er81, H⟩ := bind_ex H
  obtain ⟨B83, MB83, SB83, back⟩ := S.calln 0 ((.z 2 rfl (.z 3 rfl (.z 0 rfl (.z 5 rfl .nil)))))
  refine wl_call (does_callg ca_types_checker_check (cons2 rfl (cons2 rfl (cons2 rfl (cons2 hv807 (cons2 rfl rfl)))))) (by decide) (types_checker_check_gst hrec_types_checker_checked (a0 := a0) (a1 := a1) SB83 er81) ?_
  rintro v84 w82 ⟨_, rfl, S2⟩
  replace S : St A N w w82 [oE v84 r81, oE v76 r73, oB b67 T_Nd (Nd.C r62.1), oE v65 r62.2, oB b4 T_Term (Term.C (⟨a1.kind, a1.name, a1.other, a1.form, s_1⟩ : Term)), oB b2 T_Checker (Checker.C (⟨a_0⟩ : Checker))] [fScope (some ⟨b78, 0, none⟩) ((a1.other, r62.1.r) :: a2), fScope (some ⟨b70, 0, none⟩) ((a1.name, r62.1.l) :: a2), oT a_0 a0.t, oDTerm s_1 a1.sub, fScope a_2 a2, oEt] := back _ _ _ _ S2 rfl
  clear back S2 SB83
  refine wd (does_assign rfl) ?_
  refine wl_nil ?_
  refine wc_ret ?_
  refine ⟨_, (rets1 (retOne_tmp rfl)), ?_⟩
  replace S : St A N w w82 [oE v84 r81] [] := S.arr [0] []
  obtain rfl := Option.some.inj H
  exact ⟨v84, rfl, S⟩
 replace H := if_f hc61 H
 refine wc_seq (wc_region ?_)
 refine wd (does_eq rfl rfl) ?_
 refine wd (does_as_b rfl) ?_
 refine wl_nil ?_
 refine wc_if rfl (fun hc85 => ?_) (fun hc85 => ?_)
 ·replace H := if_t hc85 H
  refine wc_seq (wc_region ?_)
  refine wd (does_load_agg ag_Checker rfl ((S.blk 1).all _ (Checker.len _)) (Checker.len _)) ?_
  refine wd (does_load_agg ag_Term rfl ((S.blk 0).all _ (Term.len _)) (Term.len _)) ?_
  refine wd (does_mv_p rfl) ?_
  obtain ⟨r86, er86, H⟩ := bind_ex H
  obtain ⟨B88, MB88, SB88, back⟩ := S.calln 0 ((.z 0 rfl (.z 1 rfl (.z 2 rfl (.z 3 rfl .nil)))))
  refine wl_call (does_call ca_types_checker_head) (by decide) (types_checker_head_gst hrec_types_checker_told (a0 := a0) (a1 := a1) SB88 er86) ?_
  rintro _ w87 ⟨v89, rfl, S2⟩
  replace S : St A N w w87 [oE v89 r86.2, oB b4 T_Term (Term.C (⟨a1.kind, a1.name, a1.other, a1.form, s_1⟩ : Term)), oB b2 T_Checker (Checker.C (⟨a_0⟩ : Checker))] [oT a_0 a0.t, oDTerm s_1 a1.sub, fScope a_2 a2, oEt] := back _ _ _ _ S2 rfl
  clear back S2 SB88
  refine wd (does_mv_t rfl) ?_
  refine wd (does_extract rfl rfl) ?_
  refine wd (does_extract rfl rfl) ?_
  refine wl_alloc ze_Nd (by decide) fun b91 w90 hw90 => ?_
  replace S : St A N w w90 [oB b91 T_Nd (Nd.C Nd.z), oE v89 r86.2, oB b4 T_Term (Term.C (⟨a1.kind, a1.name, a1.other, a1.form, s_1⟩ : Term)), oB b2 T_Checker (Checker.C (⟨a_0⟩ : Checker))] [oT a_0 a0.t, oDTerm s_1 a1.sub, fScope a_2 a2, oEt] := S.new hw90
  refine wl_store_agg ag_Nd rfl rfl (S.blk 0) (Nd.len _) (by rw [Nd.len]; decide) (Nd.one _) (store_all (Nd.len _)) fun w92 B hw92 zw92 => ?_
  replace S : St A N w w92 [oB b91 T_Nd (Nd.C r86.1), oE v89 r86.2, oB b4 T_Term (Term.C (⟨a1.kind, a1.name, a1.other, a1.form, s_1⟩ : Term)), oB b2 T_Checker (Checker.C (⟨a_0⟩ : Checker))] [oT a_0 a0.t, oDTerm s_1 a1.sub, fScope a_2 a2, oEt] := S.store 0 B hw92
  clear B
  refine wd (does_assign rfl) ?_
  refine wl_nil ?_
  refine wc_seq (wc_region ?_)
  refine wd (does_move rfl) ?_
  refine wd (does_assign rfl) ?_
  refine wl_nil ?_
  refine wc_ret ?_
  refine ⟨_, (rets1 (retOne_tmp rfl)), ?_⟩
  replace S : St A N w w92 [oE v89 r86.2] [] := S.arr [1] []
  obtain rfl := Option.some.inj H
  exact ⟨v89, rfl, S⟩
 replace H := if_f hc85 H
 refine wc_seq (wc_region ?_)
 refine wd (does_eq rfl rfl) ?_
 refine wd (does_as_b rfl) ?_
 refine wl_nil ?_
 refine wc_if rfl (fun hc93 => ?_) (fun hc93 => ?_)
 ·replace H := if_t hc93 H
  refine wc_seq (wc_region ?_)
  refine wd (does_load_agg ag_Checker rfl ((S.blk 1).all _ (Checker.len _)) (Checker.len _)) ?_
  refine wd (does_load_agg ag_Term rfl ((S.blk 0).all _ (Term.len _)) (Term.len _)) ?_
  refine wd (does_mv_p rfl) ?_
  obtain ⟨r94, er94, H⟩ := bind_ex H
  obtain ⟨B96, MB96, SB96, back⟩ := S.calln 0 ((.z 0 rfl (.z 1 rfl (.z 2 rfl (.z 3 rfl .nil)))))
  refine wl_call (does_call ca_types_checker_part) (by decide) (types_checker_part_gst hrec_types_checker_told (a0 := a0) (a1 := a1) SB96 er94) ?_
  rintro _ w95 ⟨v97, rfl, S2⟩
  replace S : St A N w w95 [oE v97 r94.2, oB b4 T_Term (Term.C (⟨a1.kind, a1.name, a1.other, a1.form, s_1⟩ : Term)), oB b2 T_Checker (Checker.C (⟨a_0⟩ : Checker))] [oT a_0 a0.t, oDTerm s_1 a1.sub, fScope a_2 a2, oEt] := back _ _ _ _ S2 rfl
  clear back S2 SB96
  refine wd (does_mv_t rfl) ?_
  refine wd (does_extract rfl rfl) ?_
  refine wd (does_extract rfl rfl) ?_
  refine wd (does_as_i rfl) ?_
  refine wd (does_assign rfl) ?_
  refine wl_nil ?_
  refine wc_seq (wc_seq (wc_region ?_))
  refine wd (does_move rfl) ?_
  refine wd (does_neE if_error rfl rfl (S.onO 0)) ?_
  refine wl_nil ?_
  refine wc_if rfl (fun hc98 => ?_) (fun hc98 => ?_)
  ·replace H := if_t hc98 H
   refine wc_seq (wc_region ?_)
   refine wd (does_move rfl) ?_
   refine wd (does_assign rfl) ?_
   refine wl_nil ?_
   refine wc_ret ?_
   refine ⟨_, (rets1 (retOne_tmp rfl)), ?_⟩
   replace S : St A N w w95 [oE v97 r94.2] [] := S.arr [0] []
   obtain rfl := Option.some.inj H
   exact ⟨v97, rfl, S⟩
  replace H := if_f hc98 H
  refine wc_skip ?_
  refine wc_seq ?_
  refine wc_semi 8 [6]
   (fun i v u => match i with
   | 6 => ∃ b : Nat, v = Value.pointer (some ⟨b, 0, none⟩) ∧ Blk u b T_Scope (Scope.C ⟨a1.name, r94.1, a_2⟩) ∧ w95.heap.size ≤ b
   | _ => True) hmix (by kernel_rfl) (by kernel_rfl) ?_ ?_
  ·intro i v u u' hi hx hv
   match i, hv with
   | 6, ⟨b, e1, hb, hl⟩ => exact ⟨b, e1, hb.ext hx, hl⟩
   | 0, _ => exact trivial
   | 1, _ => exact trivial
   | 2, _ => exact trivial
   | 3, _ => exact trivial
   | 4, _ => exact trivial
   | 5, _ => exact trivial
   | _ + 7, _ => exact trivial
  refine wm_does (fun v K => does_load_agg ag_Checker rfl (((S.ext K).blk 2).all _ (Checker.len _)) (Checker.len _)) rfl ?_
  refine wm_does (fun v K => does_load_agg ag_Term rfl (((S.ext K).blk 1).all _ (Term.len _)) (Term.len _)) rfl ?_
  refine wm_does (fun v K => does_mv_p rfl) rfl ?_
  refine wm_does (fun v K => does_fieldAddr fl_Term_name rfl (o' := 1) rfl) rfl ?_
  refine wm_does (fun v K => does_load on_string rfl (((S.ext K).blk 1).cell (Term.get_name _))) rfl ?_
  refine wm_does (fun v K => does_mv_i rfl) rfl ?_
  refine wm_newcall (fun g v K G => ⟨_, _, does_callg ca_types_scope_with (cons2 rfl (cons2 rfl (cons2 rfl rfl))), newc (types_scope_with_ok _ _ _ _) fun _ _ ⟨b, hv, hx, hb, hl⟩ => ⟨hx, b, hv, hb, by have := K.size; omega⟩⟩) rfl ?_
  refine wm_does (fun v K => does_mv_i rfl) rfl ?_
  refine wm_nil fun g w100 K hV => ?_
  obtain ⟨b99, hv1016, hb6, hf6⟩ := hV 6 rfl (by decide)
  replace S : St A N w w100 [oB b99 T_Scope (Scope.C ⟨a1.name, r94.1, a_2⟩), oE v97 r94.2, oB b4 T_Term (Term.C (⟨a1.kind, a1.name, a1.other, a1.form, s_1⟩ : Term)), oB b2 T_Checker (Checker.C (⟨a_0⟩ : Checker))] [oT a_0 a0.t, oDTerm s_1 a1.sub, fScope a_2 a2, oEt] := S.newAt K hb6 hf6
  replace S : St A N w w100 [oE v97 r94.2, oB b4 T_Term (Term.C (⟨a1.kind, a1.name, a1.other, a1.form, s_1⟩ : Term)), oB b2 T_Checker (Checker.C (⟨a_0⟩ : Checker))] [fScope (some ⟨b99, 0, none⟩) ((a1.name, r94.1) :: a2), oT a_0 a0.t, oDTerm s_1 a1.sub, fScope a_2 a2, oEt] := S.pushScope 0 2
  clear K hV
  obtain ⟨r102, er102, H⟩ := bind_ex H
  obtain ⟨B104, MB104, SB104, back⟩ := S.calln 0 ((.z 1 rfl (.z 2 rfl (.z 0 rfl (.z 4 rfl .nil)))))
  refine wl_call (does_callg ca_types_checker_check (cons2 rfl (cons2 rfl (cons2 rfl (cons2 hv1016 (cons2 rfl rfl)))))) (by decide) (types_checker_check_gst hrec_types_checker_checked (a0 := a0) (a1 := a1) SB104 er102) ?_
  rintro v105 w103 ⟨_, rfl, S2⟩
  replace S : St A N w w103 [oE v105 r102, oE v97 r94.2, oB b4 T_Term (Term.C (⟨a1.kind, a1.name, a1.other, a1.form, s_1⟩ : Term)), oB b2 T_Checker (Checker.C (⟨a_0⟩ : Checker))] [fScope (some ⟨b99, 0, none⟩) ((a1.name, r94.1) :: a2), oT a_0 a0.t, oDTerm s_1 a1.sub, fScope a_2 a2, oEt] := back _ _ _ _ S2 rfl
  clear back S2 SB104
  refine wd (does_assign rfl) ?_
  refine wl_nil ?_
  refine wc_ret ?_
  refine ⟨_, (rets1 (retOne_tmp rfl)), ?_⟩
  replace S : St A N w w103 [oE v105 r102] [] := S.arr [0] []
  obtain rfl := Option.some.inj H
  exact ⟨v105, rfl, S⟩
 replace H := if_f hc93 H
 refine wc_skip ?_
 refine wc_seq (wc_region ?_)
 refine wd (does_load_agg ag_Checker rfl ((S.blk 1).all _ (Checker.len _)) (Checker.len _)) ?_
 refine wd (does_load_agg ag_Term rfl ((S.blk 0).all _ (Term.len _)) (Term.len _)) ?_
 refine wd (does_mv_p rfl) ?_
 obtain ⟨r106, er106, H⟩ := bind_ex H
 obtain ⟨B108, MB108, SB108, back⟩ := S.calln 0 ((.z 0 rfl (.z 1 rfl (.z 2 rfl (.z 3 rfl .nil)))))
 refine wl_call (does_call ca_types_checker_told) (by decide) (hrec_types_checker_told (a0 := a0) (a1 := a1) SB108 er106) ?_
 rintro _ w107 ⟨v109, rfl, S2⟩
 replace S : St A N w w107 [oE v109 r106.2, oB b4 T_Term (Term.C (⟨a1.kind, a1.name, a1.other, a1.form, s_1⟩ : Term)), oB b2 T_Checker (Checker.C (⟨a_0⟩ : Checker))] [oT a_0 a0.t, oDTerm s_1 a1.sub, fScope a_2 a2, oEt] := back _ _ _ _ S2 rfl
 clear back S2 SB108
 refine wd (does_mv_t rfl) ?_
 refine wd (does_extract rfl rfl) ?_
 refine wd (does_extract rfl rfl) ?_
 refine wd (does_as_i rfl) ?_
 refine wd (does_assign rfl) ?_
 refine wl_nil ?_
 refine wc_seq (wc_seq (wc_region ?_))
 refine wd (does_move rfl) ?_
 refine wd (does_eqE if_error rfl rfl (S.onO 0)) ?_
 refine wd (does_mv_b rfl) ?_
 refine wl_guard (j := 2) (pol := true) rfl rfl rfl (by decide) (fun hg => does_mv_i rfl) (by decide) ?_
 refine wl_guard (j := 2) (pol := true) rfl rfl rfl (by decide) (fun hg => does_mv_i rfl) (by decide) ?_
 refine wl_guard (j := 2) (pol := true) rfl rfl rfl (by decide) (fun hg => does_ne (gv_yes hg) (gv_yes hg)) (by decide) ?_
 refine wd (does_and rfl (fun hp => (gv_yes (and_1 hp)))) ?_
 refine wl_nil ?_
 refine wc_if rfl (fun hc110 => ?_) (fun hc110 => ?_)
 ·replace H := if_t hc110 H
  refine wc_region ?_
  refine wd (Does.to (v' := .agg (Refusal.C (⟨130, SlV.nil⟩ : Refusal)).toArray) (does_buildv (vs := [(0, .int .i64 130)]) bu_Refusal (consP rfl rfl) (Bld.one rfl rfl (by rw [Refusal.len]; decide) (Refusal.set_code _ _) Bld.nil)) rfl) ?_
  refine wl_box_agg rfl (by decide) fun b112 w111 hw111 => ?_
  replace S : St A N w w111 [oB b112 T_Refusal (Refusal.C (⟨130, SlV.nil⟩ : Refusal)), oE v109 r106.2, oB b4 T_Term (Term.C (⟨a1.kind, a1.name, a1.other, a1.form, s_1⟩ : Term)), oB b2 T_Checker (Checker.C (⟨a_0⟩ : Checker))] [oT a_0 a0.t, oDTerm s_1 a1.sub, fScope a_2 a2, oEt] := S.new hw111
  refine wd (does_makeInterface rfl) ?_
  replace S := S.nil T_int 1 IC
  replace S := S.front 1
  replace S : St A N w w111 [oE (.iface T_P_Refusal (.pointer (some ⟨b112, 0, none⟩))) (some (130, ([] : List Int))), oE v109 r106.2, oB b4 T_Term (Term.C (⟨a1.kind, a1.name, a1.other, a1.form, s_1⟩ : Term)), oB b2 T_Checker (Checker.C (⟨a_0⟩ : Checker))] [oT a_0 a0.t, oDTerm s_1 a1.sub, fScope a_2 a2, oEt] := S.mkE
  refine wd (does_assign rfl) ?_
  refine wl_nil ?_
  refine wc_seq (wc_region ?_)
  refine wd (does_move rfl) ?_
  refine wd (does_assign rfl) ?_
  refine wl_nil ?_
  refine wc_ret ?_
  refine ⟨_, (rets1 (retOne_tmp rfl)), ?_⟩
  replace S : St A N w w111 [oE (.iface T_P_Refusal (.pointer (some ⟨b112, 0, none⟩))) (some (130, ([] : List Int)))] [] := S.arr [0] []
  obtain rfl := Option.some.inj H
  exact ⟨(.iface T_P_Refusal (.pointer (some ⟨b112, 0, none⟩))), rfl, S⟩
 ·replace H := if_f hc110 H
  refine wc_skip ?_
  refine wc_seq (wc_region ?_)
  refine wd (does_move rfl) ?_
  refine wd (does_assign rfl) ?_
  refine wl_nil ?_
  refine wc_ret ?_
  refine ⟨_, (rets1 (retOne_tmp rfl)), ?_⟩
  replace S : St A N w w107 [oE v109 r106.2] [] := S.arr [0] []
  obtain rfl := Option.some.inj H
  exact ⟨v109, rfl, S⟩
theorem types_tc_both : ∀ (k : Nat), (∀ {A : Nat → Prop} {N : Oth} {w : World} {a0 : PChecker} {a_0 : Option Addr} {a1 : PTerm} {s_1 : SlV} {a2 : List (ByteArray × Int)} {a_2 : Option Addr} (S : St A N w w [] [oT a_0 a0.t, oDTerm s_1 a1.sub, fScope a_2 a2, oEt]) {r : Int × (Option (Int × List Int))} (H : types_checker_told.f k a0 a1 a2 = some r), Calls PP F_types_checker_told #[.agg (Checker.C (⟨a_0⟩ : Checker)).toArray, .agg (Term.C (⟨a1.kind, a1.name, a1.other, a1.form, s_1⟩ : Term)).toArray, .pointer a_2] w fun e w' => ∃ v, e = .returned v ∧ (∃ vo0 : Value, v = .tuple #[.int .i64 r.1, vo0] ∧ St A N w w' [oE vo0 r.2] [])) ∧ (∀ {A : Nat → Prop} {N : Oth} {w : World} {a0 : PChecker} {a_0 : Option Addr} {a1 : PTerm} {s_1 : SlV} {a2 : List (ByteArray × Int)} {a_2 : Option Addr} {a3 : Int} (S : St A N w w [] [oT a_0 a0.t, oDTerm s_1 a1.sub, fScope a_2 a2, oEt]) {r : (Option (Int × List Int))} (H : types_checker_checked.f k a0 a1 a2 a3 = some r), Calls PP F_types_checker_checked #[.agg (Checker.C (⟨a_0⟩ : Checker)).toArray, .agg (Term.C (⟨a1.kind, a1.name, a1.other, a1.form, s_1⟩ : Term)).toArray, .pointer a_2, .int .i64 a3] w fun e w' => ∃ v, e = .returned v ∧ (∃ vo0 : Value, v = vo0 ∧ St A N w w' [oE vo0 r] [])) := by
 intro k
 induction k with
 | zero =>
  refine ⟨?_, ?_⟩
  ·intro A N w a0 a_0 a1 s_1 a2 a_2 S r H; cases H
  ·intro A N w a0 a_0 a1 s_1 a2 a_2 a3 S r H; cases H
 | succ k ih =>
  refine ⟨?_, ?_⟩
  ·intro A N w a0 a_0 a1 s_1 a2 a_2 S r H; exact types_checker_told_gst ih.1 ih.2 S H
  ·intro A N w a0 a_0 a1 s_1 a2 a_2 a3 S r H; exact types_checker_checked_gst ih.1 ih.2 S H
theorem types_checker_told_st {A : Nat → Prop} {N : Oth} {w : World} {a0 : PChecker} {a_0 : Option Addr} {a1 : PTerm} {s_1 : SlV} {a2 : List (ByteArray × Int)} {a_2 : Option Addr} (S : St A N w w [] [oT a_0 a0.t, oDTerm s_1 a1.sub, fScope a_2 a2, oEt]) {k : Nat} {r : Int × (Option (Int × List Int))} (H : types_checker_told.f k a0 a1 a2 = some r) :
  Calls PP F_types_checker_told #[.agg (Checker.C (⟨a_0⟩ : Checker)).toArray, .agg (Term.C (⟨a1.kind, a1.name, a1.other, a1.form, s_1⟩ : Term)).toArray, .pointer a_2] w fun e w' => ∃ v, e = .returned v ∧ (∃ vo0 : Value, v = .tuple #[.int .i64 r.1, vo0] ∧ St A N w w' [oE vo0 r.2] []) := by exact (types_tc_both k).1 S H
theorem types_checker_checked_st {A : Nat → Prop} {N : Oth} {w : World} {a0 : PChecker} {a_0 : Option Addr} {a1 : PTerm} {s_1 : SlV} {a2 : List (ByteArray × Int)} {a_2 : Option Addr} {a3 : Int} (S : St A N w w [] [oT a_0 a0.t, oDTerm s_1 a1.sub, fScope a_2 a2, oEt]) {k : Nat} {r : (Option (Int × List Int))} (H : types_checker_checked.f k a0 a1 a2 a3 = some r) :
  Calls PP F_types_checker_checked #[.agg (Checker.C (⟨a_0⟩ : Checker)).toArray, .agg (Term.C (⟨a1.kind, a1.name, a1.other, a1.form, s_1⟩ : Term)).toArray, .pointer a_2, .int .i64 a3] w fun e w' => ∃ v, e = .returned v ∧ (∃ vo0 : Value, v = vo0 ∧ St A N w w' [oE vo0 r] []) := by exact (types_tc_both k).2 S H
theorem types_ahead_st {A : Nat → Prop} {N : Oth} {w : World} {a0 : Tb} {a_0 : Option Addr} {a1 : List Hyp} {s_1 : SlV} {a2 : PTerm} {s_2 : SlV} {a3 : List Int} {s_3 : SlV} (S : St A N w w [oS T_int 1 IC s_3 a3] [oT a_0 a0, fS 2 Hyp.C s_1 a1, oDTerm s_2 a2.sub]) {k : Nat} {r : (List (ByteArray × Int)) × Int} (H : types_ahead.f k a0 a1 a2 a3 = some r) :
  Calls PP F_types_ahead #[.pointer a_0, s_1.v, .agg (Term.C (⟨a2.kind, a2.name, a2.other, a2.form, s_2⟩ : Term)).toArray, s_3.v] w fun e w' => ∃ v, e = .returned v ∧ (∃ ao0 : Option Addr, v = .tuple #[.pointer ao0, .int .i64 r.2] ∧ St A N w w' [] [fScope ao0 r.1]) := by
 unfold types_ahead.f at H
 refine calls_of_wc (n := 63) fn_types_ahead rfl rfl (by simp) ?_
 refine wc_seq (wc_region ?_)
 refine wl_box_agg rfl (by decide) fun b2 w1 hw1 => ?_
 replace S : St A N w w1 [oB b2 T_Term (Term.C (⟨a2.kind, a2.name, a2.other, a2.form, s_2⟩ : Term)), oS T_int 1 IC s_3 a3] [oT a_0 a0, fS 2 Hyp.C s_1 a1, oDTerm s_2 a2.sub] := S.new hw1
 refine wd (does_as_p rfl) ?_
 replace S : St A N w w1 [oB b2 T_Term (Term.C (⟨a2.kind, a2.name, a2.other, a2.form, s_2⟩ : Term)), oS T_int 1 IC s_3 a3] [fScope none ([] : List (ByteArray × Int)), oT a_0 a0, fS 2 Hyp.C s_1 a1, oDTerm s_2 a2.sub] := S.nil_fScopeZ
 refine wd (does_as_i rfl) ?_
 refine wl_nil ?_
 refine wc_seq (wc_seq (wc_region ?_))
 refine wd (does_mv_p rfl) ?_
 obtain ⟨r3, er3, H⟩ := bind_ex H
 obtain ⟨B5, MB5, SB5, back⟩ := S.calln 0 ((.z 1 rfl .nil))
 refine wl_call (does_call ca_formula_Table_Not) (by decide) (formula_Table_Not_neg_st SB5 rfl er3) ?_
 rintro _ w4 ⟨rfl, S2⟩
 replace S : St A N w w4 [oB b2 T_Term (Term.C (⟨a2.kind, a2.name, a2.other, a2.form, s_2⟩ : Term)), oS T_int 1 IC s_3 a3] [fScope none ([] : List (ByteArray × Int)), oT a_0 a0, fS 2 Hyp.C s_1 a1, oDTerm s_2 a2.sub] := back _ _ _ _ S2 rfl
 clear back S2 SB5
 refine wd (does_mv_t rfl) ?_
 refine wd (does_extract rfl rfl) ?_
 refine wd (does_extract rfl rfl) ?_
 refine wd (does_as_i rfl) ?_
 refine wd (does_as_i rfl) ?_
 refine wl_nil ?_
 refine wc_seq (wc_region ?_)
 refine wd (does_mv_i rfl) ?_
 refine wd (does_eq rfl rfl) ?_
 refine wl_nil ?_
 refine wc_if rfl (fun hc6 => ?_) (fun hc6 => ?_)
 ·replace H := if_t hc6 H
  refine wc_seq (wc_region ?_)
  refine wd (does_mv_i rfl) ?_
  refine wd (does_as_p rfl) ?_
  replace S : St A N w w4 [oB b2 T_Term (Term.C (⟨a2.kind, a2.name, a2.other, a2.form, s_2⟩ : Term)), oS T_int 1 IC s_3 a3] [fScope none ([] : List (ByteArray × Int)), fScope none ([] : List (ByteArray × Int)), oT a_0 a0, fS 2 Hyp.C s_1 a1, oDTerm s_2 a2.sub] := S.nil_fScopeZ
  refine wd (does_as_i rfl) ?_
  refine wl_nil ?_
  refine wc_ret ?_
  refine ⟨_, (rets2 (retOne_tmp rfl) (retOne_tmp rfl)), ?_⟩
  replace S : St A N w w4 [] [fScope none ([] : List (ByteArray × Int))] := S.arr [] [0]
  obtain rfl := Option.some.inj H
  exact ⟨none, rfl, S⟩
 replace H := if_f hc6 H
 refine wc_skip ?_
 refine wc_seq (wc_region ?_)
 refine wd (does_as_p rfl) ?_
 replace S : St A N w w4 [oB b2 T_Term (Term.C (⟨a2.kind, a2.name, a2.other, a2.form, s_2⟩ : Term)), oS T_int 1 IC s_3 a3] [fScope none ([] : List (ByteArray × Int)), fScope none ([] : List (ByteArray × Int)), oT a_0 a0, fS 2 Hyp.C s_1 a1, oDTerm s_2 a2.sub] := S.nil_fScopeZ
 refine wl_nil ?_
 refine wc_seq (wc_seq (wc_region ?_))
 refine wd (does_mv_l rfl) ?_
 refine wd (does_lenR sl_L_api_Hyp rfl (S.rd 3)) ?_
 refine wd (does_mv_i rfl) ?_
 refine wl_nil ?_
 obtain ⟨o7, e7, Ho7⟩ := bind_ex H
 clear H
 refine wc_cutq [3, 12, 14, 29, 30, 31, 32, 33, 34, 35, 36, 37, 38, 39, 40, 41, 42, 43, 44] (fun fr W => ∃ s8 : SlV, ∃ a9 : Option Addr, fr 3 = s8.v ∧ fr 12 = .pointer a9 ∧ St A N w W [oB b2 T_Term (Term.C (⟨a2.kind, a2.name, a2.other, a2.form, s_2⟩ : Term)), oS T_int 1 IC s8 o7.1] [fScope a9 o7.2, fScope none ([] : List (ByteArray × Int)), oT a_0 a0, fS 2 Hyp.C s_1 a1, oDTerm s_2 a2.sub]) ?_ ?_
 ·refine wc_block ?_
  refine wc_loopm (α := Nat × Int × (List Int × (List (ByteArray × Int)))) [3, 12, 14, 29, 30, 31, 32, 33, 34, 35, 36, 37, 38, 39, 40, 41, 42, 43, 44] (fun x fr W => (x.1 : Int) = (a1.length : Int) - x.2.1 ∧ 0 ≤ x.2.1 ∧ forS (fun i s => types_ahead.b0 a1 i s.1 s.2) x.1 x.2.1 x.2.2 = some o7 ∧ ∃ s10 : SlV, ∃ a11 : Option Addr, fr 29 = .int .i64 x.2.1 ∧ fr 3 = s10.v ∧ fr 12 = .pointer a11 ∧ St A N w W [oB b2 T_Term (Term.C (⟨a2.kind, a2.name, a2.other, a2.form, s_2⟩ : Term)), oS T_int 1 IC s10 (x.2.2.1)] [fScope a11 (x.2.2.2), fScope none ([] : List (ByteArray × Int)), oT a_0 a0, fS 2 Hyp.C s_1 a1, oDTerm s_2 a2.sub]) (fun x => x.1) (((a1.length : Int) - 0).toNat, 0, (a3, ([] : List (ByteArray × Int)))) ⟨(by dsimp only; have hle := Int.natCast_nonneg (a1.length); omega), (Int.le_refl _), (by dsimp only; exact e7), s_3, none, rfl, rfl, rfl, S⟩ ?_
  rintro ⟨m7, i7, ⟨x7_0, x7_1⟩⟩ g7 u7 ⟨hm7, hl7, e7, s12, a13, q7_i, q7_3, q7_12, S⟩
  try dsimp only at hm7
  try dsimp only at hl7
  try dsimp only at e7
  try dsimp only at S
  try dsimp only at q7_i
  try dsimp only at q7_3
  try dsimp only at q7_12
  refine wc_seq (wc_region ?_)
  refine wd (does_lt q7_i rfl) ?_
  refine wl_nil ?_
  refine wc_seq ?_
  refine wc_if rfl (fun hc14 => ?_) (fun hc14 => ?_)
  rotate_left
  ·refine wc_exit ?_
   have hge : (a1.length : Int) ≤ i7 := Int.not_lt.1 (of_decide_eq_false hc14)
   obtain rfl : m7 = 0 := by omega
   replace e7 := forS_0 e7
   obtain rfl := e7
   exact ⟨rfl, ((Dif.self _ _ _).upd rfl _), s12, a13, q7_3, q7_12, S⟩
  refine wc_skip ?_
  have hlt7 : i7 < (a1.length : Int) := of_decide_eq_true hc14
  obtain ⟨m7, rfl⟩ : ∃ m, m7 = m + 1 := ⟨m7 - 1, by omega⟩
  obtain ⟨q7, H, e7⟩ := forS_s e7
  unfold types_ahead.b0 at H
  try dsimp only at H
  have hb7 := (S.len 3)
  refine wc_seq ?_
  refine wc_block ?_
  refine wc_seq (wc_region ?_)
  refine wd (does_indexR sl_L_api_Hyp rfl q7_i (S.rd 3) (And.intro (show 0 ≤ i7 by omega) (show i7 < (a1.length : Int) from hlt7)).1 (And.intro (show 0 ≤ i7 by omega) (show i7 < (a1.length : Int) from hlt7)).2) ?_
  refine wd (does_load_agg ag_Hyp rfl ((S.rd 3).at (at_some Hyp.z (And.intro (show 0 ≤ i7 by omega) (show i7 < (a1.length : Int) from hlt7)))) (Hyp.len _)) ?_
  refine wl_alloc ze_Hyp (by decide) fun b17 w16 hw16 => ?_
  replace S : St A N w w16 [oB b17 T_Hyp (Hyp.C Hyp.z), oB b2 T_Term (Term.C (⟨a2.kind, a2.name, a2.other, a2.form, s_2⟩ : Term)), oS T_int 1 IC s12 x7_0] [fScope a13 x7_1, fScope none ([] : List (ByteArray × Int)), oT a_0 a0, fS 2 Hyp.C s_1 a1, oDTerm s_2 a2.sub] := S.new hw16
  refine wl_store_agg ag_Hyp rfl rfl (S.blk 0) (Hyp.len _) (by rw [Hyp.len]; decide) (Hyp.one _) (store_all (Hyp.len _)) fun w18 B hw18 zw18 => ?_
  replace S : St A N w w18 [oB b17 T_Hyp (Hyp.C (at_ Hyp.z a1 i7)), oB b2 T_Term (Term.C (⟨a2.kind, a2.name, a2.other, a2.form, s_2⟩ : Term)), oS T_int 1 IC s12 x7_0] [fScope a13 x7_1, fScope none ([] : List (ByteArray × Int)), oT a_0 a0, fS 2 Hyp.C s_1 a1, oDTerm s_2 a2.sub] := S.store 0 B hw18
  clear B
  refine wl_nil ?_
  refine wc_seq (wc_region ?_)
  refine wd (does_mv_l q7_3) ?_
  refine wd (does_fieldAddr fl_Hyp_form rfl (o' := 1) rfl) ?_
  refine wd (does_load on_int rfl ((S.blk 0).cell (Hyp.get_form _))) ?_
  refine wl_lits (C := IC) (l := [(at_ Hyp.z a1 i7).form]) (vs := [.int .i64 ((at_ Hyp.z a1 i7).form)]) sl_L_int el_int.zero rfl rfl (fun _ _ => rfl) (by decide) rfl (by decide) fun b20 w19 s21 hBw19 hw19 => ?_
  replace S : St A N w w19 [oS T_int 1 IC s21 ([(at_ Hyp.z a1 i7).form]), oB b17 T_Hyp (Hyp.C (at_ Hyp.z a1 i7)), oB b2 T_Term (Term.C (⟨a2.kind, a2.name, a2.other, a2.form, s_2⟩ : Term)), oS T_int 1 IC s12 x7_0] [fScope a13 x7_1, fScope none ([] : List (ByteArray × Int)), oT a_0 a0, fS 2 Hyp.C s_1 a1, oDTerm s_2 a2.sub] := S.lit hBw19 hw19 (by simp)
  obtain ⟨ha24, H⟩ := chk_ex H
  have ha24 := of_decide_eq_true ha24
  refine wl_appends (C := IC) sl_L_int el_int rfl rfl (S.sl 3) (S.rdO 0) (by simp) (fun a _ v hv => by rw [List.mem_singleton.1 hv]; rfl) ha24 (by omega) (by decide) fun s23 w22 O hw22 gw22 => ?_
  replace S : St A N w w22 [oS T_int 1 IC s23 (x7_0 ++ [(at_ Hyp.z a1 i7).form]), oS T_int 1 IC s21 ([(at_ Hyp.z a1 i7).form]), oB b17 T_Hyp (Hyp.C (at_ Hyp.z a1 i7)), oB b2 T_Term (Term.C (⟨a2.kind, a2.name, a2.other, a2.form, s_2⟩ : Term))] [fScope a13 x7_1, fScope none ([] : List (ByteArray × Int)), oT a_0 a0, fS 2 Hyp.C s_1 a1, oDTerm s_2 a2.sub] := S.push 3 O (by first | (simp; done) | (simp; omega)) hw22 gw22
  clear O
  refine wd (does_as_l rfl) ?_
  refine wl_nil ?_
  refine wc_region ?_
  refine wd (does_mv_p q7_12) ?_
  refine wd (does_fieldAddr fl_Hyp_name rfl (o' := 0) rfl) ?_
  refine wd (does_load on_string rfl ((S.blk 2).cell (Hyp.get_name _))) ?_
  refine wd (does_fieldAddr fl_Hyp_form rfl (o' := 1) rfl) ?_
  refine wd (does_load on_int rfl ((S.blk 2).cell (Hyp.get_form _))) ?_
  obtain ⟨r25, er25, H⟩ := bind_ex H
  obtain ⟨B27, MB27, SB27, back⟩ := S.sub [0] [] [oS T_int 1 IC s23 (x7_0 ++ [(at_ Hyp.z a1 i7).form]), oS T_int 1 IC s21 ([(at_ Hyp.z a1 i7).form]), oB b17 T_Hyp (Hyp.C (at_ Hyp.z a1 i7)), oB b2 T_Term (Term.C (⟨a2.kind, a2.name, a2.other, a2.form, s_2⟩ : Term))]
  refine wl_call (does_call ca_types_scope_with) (by decide) (types_scope_with_st SB27 er25) ?_
  rintro _ w26 ⟨a28, rfl, S2⟩
  replace S : St A N w w26 [oS T_int 1 IC s23 (x7_0 ++ [(at_ Hyp.z a1 i7).form]), oS T_int 1 IC s21 ([(at_ Hyp.z a1 i7).form]), oB b17 T_Hyp (Hyp.C (at_ Hyp.z a1 i7)), oB b2 T_Term (Term.C (⟨a2.kind, a2.name, a2.other, a2.form, s_2⟩ : Term))] [fScope a28 r25, fScope a13 x7_1, fScope none ([] : List (ByteArray × Int)), oT a_0 a0, fS 2 Hyp.C s_1 a1, oDTerm s_2 a2.sub] := back _ _ _ _ _ S2 rfl rfl
  clear back S2 SB27
  refine wd (does_as_p rfl) ?_
  refine wl_nil ?_
  refine wc_region ?_
  refine wd (does_addc q7_i rfl (c := i7 + 1) rfl (by omega) (by omega)) ?_
  refine wd (does_mv_i rfl) ?_
  refine wl_nil ?_
  replace S : St A N w w26 [oB b2 T_Term (Term.C (⟨a2.kind, a2.name, a2.other, a2.form, s_2⟩ : Term)), oS T_int 1 IC s23 (x7_0 ++ [(at_ Hyp.z a1 i7).form])] [fScope a28 r25, fScope none ([] : List (ByteArray × Int)), oT a_0 a0, fS 2 Hyp.C s_1 a1, oDTerm s_2 a2.sub] := S.arr [3, 0] [0, 2, 3, 4, 5]
  obtain rfl := Option.some.inj H
  exact ⟨rfl, ((((((((((((((((((((Dif.self _ _ _).upd rfl _).upd rfl _).upd rfl _).upd rfl _).upd rfl _).upd rfl _).upd rfl _).upd rfl _).upd rfl _).upd rfl _).upd rfl _).upd rfl _).upd rfl _).upd rfl _).upd rfl _).upd rfl _).upd rfl _).upd rfl _).upd rfl _), (m7, i7 + 1, (x7_0 ++ [(at_ Hyp.z a1 i7).form], r25)), ⟨(by dsimp only; omega), (by dsimp only; omega), e7, s23, a28, rfl, rfl, rfl, S⟩, by dsimp only; omega⟩
 rintro g29 u30 ⟨s8, a9, p7_3, p7_12, S⟩
 have H := Ho7
 refine wc_seq (wc_seq (wc_region ?_))
 refine wd (does_mv_l p7_3) ?_
 refine wd (does_lenR sl_L_int rfl (S.rdO 1)) ?_
 refine wd (does_mv_i rfl) ?_
 refine wl_nil ?_
 obtain ⟨o31, e31, Ho31⟩ := bind_ex H
 clear H
 refine wc_cutq [8, 9, 16, 17, 18, 47, 48, 49, 50, 51, 52, 53, 54, 55, 56, 57, 58, 59] (fun fr W => ∃ s31 : Unit, o31 = .inl s31 ∧ St A N w W [oB b2 T_Term (Term.C (⟨a2.kind, a2.name, a2.other, a2.form, s_2⟩ : Term)), oS T_int 1 IC s8 o7.1] [fScope a9 o7.2, fScope none ([] : List (ByteArray × Int)), oT a_0 a0, fS 2 Hyp.C s_1 a1, oDTerm s_2 a2.sub]) ?_ ?_
 ·refine wc_block ?_
  refine wc_loopm (α := Nat × Int × Unit) [8, 9, 16, 17, 18, 47, 48, 49, 50, 51, 52, 53, 54, 55, 56, 57, 58, 59] (fun x fr W => (x.1 : Int) = (o7.1.length : Int) - x.2.1 ∧ 0 ≤ x.2.1 ∧ forN (fun i s => types_ahead.b1 a0 o7 i) x.1 x.2.1 x.2.2 = some o31 ∧ fr 47 = .int .i64 x.2.1 ∧ St A N w W [oB b2 T_Term (Term.C (⟨a2.kind, a2.name, a2.other, a2.form, s_2⟩ : Term)), oS T_int 1 IC s8 o7.1] [fScope a9 o7.2, fScope none ([] : List (ByteArray × Int)), oT a_0 a0, fS 2 Hyp.C s_1 a1, oDTerm s_2 a2.sub]) (fun x => x.1) (((o7.1.length : Int) - 0).toNat, 0, ()) ⟨(by dsimp only; have hle := Int.natCast_nonneg (o7.1.length); omega), (Int.le_refl _), (by dsimp only; exact e31), rfl, S⟩ ?_
  rintro ⟨m31, i31, _⟩ g31 u31 ⟨hm31, hl31, e31, q31_i, S⟩
  try dsimp only at hm31
  try dsimp only at hl31
  try dsimp only at e31
  try dsimp only at S
  try dsimp only at q31_i
  refine wc_seq (wc_region ?_)
  refine wd (does_lt q31_i rfl) ?_
  refine wl_nil ?_
  refine wc_seq ?_
  refine wc_if rfl (fun hc32 => ?_) (fun hc32 => ?_)
  rotate_left
  ·refine wc_exit ?_
   have hge : (o7.1.length : Int) ≤ i31 := Int.not_lt.1 (of_decide_eq_false hc32)
   obtain rfl : m31 = 0 := by omega
   replace e31 := forN_0 e31
   exact ⟨rfl, ((Dif.self _ _ _).upd rfl _), (), e31, S⟩
  refine wc_skip ?_
  have hlt31 : i31 < (o7.1.length : Int) := of_decide_eq_true hc32
  obtain ⟨m31, rfl⟩ : ∃ m, m31 = m + 1 := ⟨m31 - 1, by omega⟩
  obtain ⟨q31, H, e31⟩ := forN_s e31
  unfold types_ahead.b1 at H
  try dsimp only at H
  have hb31 := (S.lenO 1)
  refine wc_seq ?_
  refine wc_block ?_
  refine wc_seq (wc_region ?_)
  refine wd (does_indexR sl_L_int rfl q31_i (S.rdO 1) (And.intro (show 0 ≤ i31 by omega) (show i31 < (o7.1.length : Int) from hlt31)).1 (And.intro (show 0 ≤ i31 by omega) (show i31 < (o7.1.length : Int) from hlt31)).2) ?_
  refine wd (does_load on_int rfl ((S.rdO 1).one (at_some (0 : Int) (And.intro (show 0 ≤ i31 by omega) (show i31 < (o7.1.length : Int) from hlt31))) rfl)) ?_
  refine wd (does_as_i rfl) ?_
  refine wl_nil ?_
  refine wc_seq (wc_region ?_)
  refine wd (does_mv_p rfl) ?_
  refine wd (does_mv_i rfl) ?_
  obtain ⟨r34, er34, H⟩ := bind_ex H
  obtain ⟨B36, MB36, SB36, back⟩ := S.calln 0 ((.z 2 rfl .nil))
  refine wl_call (does_call ca_formula_Table_Node) (by decide) (formula_Table_Node_st SB36 er34) ?_
  rintro _ w35 ⟨rfl, S2⟩
  replace S : St A N w w35 [oB b2 T_Term (Term.C (⟨a2.kind, a2.name, a2.other, a2.form, s_2⟩ : Term)), oS T_int 1 IC s8 o7.1] [fScope a9 o7.2, fScope none ([] : List (ByteArray × Int)), oT a_0 a0, fS 2 Hyp.C s_1 a1, oDTerm s_2 a2.sub] := back _ _ _ _ S2 rfl
  clear back S2 SB36
  refine wd (does_mv_t rfl) ?_
  refine wd (does_extract rfl rfl) ?_
  refine wd (does_extract rfl rfl) ?_
  refine wl_alloc ze_Nd (by decide) fun b38 w37 hw37 => ?_
  replace S : St A N w w37 [oB b38 T_Nd (Nd.C Nd.z), oB b2 T_Term (Term.C (⟨a2.kind, a2.name, a2.other, a2.form, s_2⟩ : Term)), oS T_int 1 IC s8 o7.1] [fScope a9 o7.2, fScope none ([] : List (ByteArray × Int)), oT a_0 a0, fS 2 Hyp.C s_1 a1, oDTerm s_2 a2.sub] := S.new hw37
  refine wl_store_agg ag_Nd rfl rfl (S.blk 0) (Nd.len _) (by rw [Nd.len]; decide) (Nd.one _) (store_all (Nd.len _)) fun w39 B hw39 zw39 => ?_
  replace S : St A N w w39 [oB b38 T_Nd (Nd.C r34.1), oB b2 T_Term (Term.C (⟨a2.kind, a2.name, a2.other, a2.form, s_2⟩ : Term)), oS T_int 1 IC s8 o7.1] [fScope a9 o7.2, fScope none ([] : List (ByteArray × Int)), oT a_0 a0, fS 2 Hyp.C s_1 a1, oDTerm s_2 a2.sub] := S.store 0 B hw39
  clear B
  refine wd (does_as_b rfl) ?_
  refine wl_nil ?_
  refine wc_seq (wc_region ?_)
  refine wd (does_mv_b rfl) ?_
  refine wd (does_not rfl) ?_
  refine wl_nil ?_
  refine wc_if rfl (fun hc40 => ?_) (fun hc40 => ?_)
  ·replace H := if_t hc40 H
   refine wc_seq (wc_region ?_)
   refine wd (does_as_p rfl) ?_
   replace S : St A N w w39 [oB b38 T_Nd (Nd.C r34.1), oB b2 T_Term (Term.C (⟨a2.kind, a2.name, a2.other, a2.form, s_2⟩ : Term)), oS T_int 1 IC s8 o7.1] [fScope none ([] : List (ByteArray × Int)), fScope a9 o7.2, fScope none ([] : List (ByteArray × Int)), oT a_0 a0, fS 2 Hyp.C s_1 a1, oDTerm s_2 a2.sub] := S.nil_fScopeZ
   refine wd (does_as_i rfl) ?_
   refine wl_nil ?_
   refine wc_ret ?_
   refine ⟨_, (rets2 (retOne_tmp rfl) (retOne_tmp rfl)), ?_⟩
   replace S : St A N w w39 [] [fScope none ([] : List (ByteArray × Int))] := S.arr [] [0]
   obtain rfl := Option.some.inj H
   obtain rfl := e31
   obtain rfl := aft_r Ho31
   exact ⟨none, rfl, S⟩
  replace H := if_f hc40 H
  refine wc_skip ?_
  refine wc_region ?_
  refine wd (does_addc q31_i rfl (c := i31 + 1) rfl (by omega) (by omega)) ?_
  refine wd (does_mv_i rfl) ?_
  refine wl_nil ?_
  replace S : St A N w w39 [oB b2 T_Term (Term.C (⟨a2.kind, a2.name, a2.other, a2.form, s_2⟩ : Term)), oS T_int 1 IC s8 o7.1] [fScope a9 o7.2, fScope none ([] : List (ByteArray × Int)), oT a_0 a0, fS 2 Hyp.C s_1 a1, oDTerm s_2 a2.sub] := S.arr [1, 2] [0, 1, 2, 3, 4]
  obtain rfl := Option.some.inj H
  exact ⟨rfl, (((((((((((((((((Dif.self _ _ _).upd rfl _).upd rfl _).upd rfl _).upd rfl _).upd rfl _).upd rfl _).upd rfl _).upd rfl _).upd rfl _).upd rfl _).upd rfl _).upd rfl _).upd rfl _).upd rfl _).upd rfl _).upd rfl _), (m31, i31 + 1, ()), ⟨(by dsimp only; omega), (by dsimp only; omega), e31, rfl, S⟩, by dsimp only; omega⟩
 rintro g41 u42 ⟨s31, rfl, S⟩
 have H := Ho31
 dsimp only [aft] at H
 refine wc_seq (wc_region ?_)
 refine wd (does_mv_p p7_12) ?_
 refine wd (does_load_agg ag_Term rfl ((S.blk 0).all _ (Term.len _)) (Term.len _)) ?_
 obtain ⟨r43, er43, H⟩ := bind_ex H
 obtain ⟨B45, MB45, SB45, back⟩ := S.calln 0 ((.z 4 rfl .nil))
 refine wl_call (does_call ca_term_Check) (by decide) (term_Check_st (a0 := a2) SB45 er43) ?_
 rintro _ w44 ⟨rfl, S2⟩
 replace S : St A N w w44 [oB b2 T_Term (Term.C (⟨a2.kind, a2.name, a2.other, a2.form, s_2⟩ : Term)), oS T_int 1 IC s8 o7.1] [fScope a9 o7.2, fScope none ([] : List (ByteArray × Int)), oT a_0 a0, fS 2 Hyp.C s_1 a1, oDTerm s_2 a2.sub] := back _ _ _ _ S2 rfl
 clear back S2 SB45
 refine wd (does_as_p rfl) ?_
 refine wd (does_as_i rfl) ?_
 refine wl_nil ?_
 refine wc_ret ?_
 refine ⟨_, (rets2 (retOne_tmp rfl) (retOne_tmp rfl)), ?_⟩
 replace S : St A N w w44 [] [fScope a9 o7.2] := S.arr [] [0]
 obtain rfl := Option.some.inj H
 exact ⟨a9, rfl, S⟩
theorem types_Where_st {A : Nat → Prop} {N : Oth} {w : World} {a0 : Tb} {a_0 : Option Addr} {a1 : List Hyp} {s_1 : SlV} {a2 : PTerm} {s_2 : SlV} {a3 : Int} (S : St A N w w [] [oT a_0 a0, fS 2 Hyp.C s_1 a1, oDTerm s_2 a2.sub, oEt]) {k : Nat} {r : List Int × Int} (H : types_Where.f k a0 a1 a2 a3 = some r) :
  Calls PP F_types_Where #[.pointer a_0, s_1.v, .agg (Term.C (⟨a2.kind, a2.name, a2.other, a2.form, s_2⟩ : Term)).toArray, .int .i64 a3] w fun e w' => ∃ v, e = .returned v ∧ (∃ so0 : SlV, v = .tuple #[so0.v, .int .i64 r.2] ∧ St A N w w' [oS T_int 1 IC so0 r.1] []) := by
 unfold types_Where.f at H
 refine calls_of_wc (n := 33) fn_types_Where rfl rfl (by simp) ?_
 refine wc_seq (wc_region ?_)
 refine wl_box_agg rfl (by decide) fun b2 w1 hw1 => ?_
 replace S : St A N w w1 [oB b2 T_Term (Term.C (⟨a2.kind, a2.name, a2.other, a2.form, s_2⟩ : Term))] [oT a_0 a0, fS 2 Hyp.C s_1 a1, oDTerm s_2 a2.sub, oEt] := S.new hw1
 refine wd (does_as_nil) ?_
 refine wd (does_as_i rfl) ?_
 refine wl_nil ?_
 refine wc_seq (wc_region ?_)
 refine wd (does_mv_p rfl) ?_
 refine wd (does_mv_l rfl) ?_
 refine wd (does_load_agg ag_Term rfl ((S.blk 0).all _ (Term.len _)) (Term.len _)) ?_
 refine wd (does_mv_i rfl) ?_
 refine wl_lits (C := IC) (l := [a3]) (vs := [.int .i64 a3]) sl_L_int el_int.zero rfl rfl (fun _ _ => rfl) (by decide) rfl (by decide) fun b4 w3 s5 hBw3 hw3 => ?_
 replace S : St A N w w3 [oS T_int 1 IC s5 ([a3]), oB b2 T_Term (Term.C (⟨a2.kind, a2.name, a2.other, a2.form, s_2⟩ : Term))] [oT a_0 a0, fS 2 Hyp.C s_1 a1, oDTerm s_2 a2.sub, oEt] := S.lit hBw3 hw3 (by simp)
 obtain ⟨r6, er6, H⟩ := bind_ex H
 obtain ⟨B8, MB8, SB8, back⟩ := S.sub [0, 1, 2] [oS T_int 1 IC s5 ([a3])] [oB b2 T_Term (Term.C (⟨a2.kind, a2.name, a2.other, a2.form, s_2⟩ : Term))]
 refine wl_call (does_call ca_types_ahead) (by decide) (types_ahead_st (a2 := a2) SB8 er6) ?_
 rintro _ w7 ⟨a9, rfl, S2⟩
 replace S : St A N w w7 [oB b2 T_Term (Term.C (⟨a2.kind, a2.name, a2.other, a2.form, s_2⟩ : Term))] [fScope a9 r6.1, oT a_0 a0, fS 2 Hyp.C s_1 a1, oDTerm s_2 a2.sub, oEt] := back _ _ _ _ _ S2 rfl rfl
 clear back S2 SB8
 refine wd (does_mv_t rfl) ?_
 refine wd (does_extract rfl rfl) ?_
 refine wd (does_extract rfl rfl) ?_
 refine wd (does_as_p rfl) ?_
 refine wd (does_as_i rfl) ?_
 refine wl_nil ?_
 refine wc_seq (wc_seq (wc_region ?_))
 refine wd (does_mv_i rfl) ?_
 refine wd (does_ne rfl rfl) ?_
 refine wl_nil ?_
 refine wc_if rfl (fun hc10 => ?_) (fun hc10 => ?_)
 ·replace H := if_t hc10 H
  refine wc_seq (wc_region ?_)
  refine wd (does_mv_i rfl) ?_
  refine wd (does_as_nil) ?_
  refine wd (does_as_i rfl) ?_
  refine wl_nil ?_
  refine wc_ret ?_
  replace S : St A N w w7 [oS T_int 1 IC SlV.nil ([] : List Int), oB b2 T_Term (Term.C (⟨a2.kind, a2.name, a2.other, a2.form, s_2⟩ : Term))] [fScope a9 r6.1, oT a_0 a0, fS 2 Hyp.C s_1 a1, oDTerm s_2 a2.sub, oEt] := S.nil T_int 1 IC
  refine ⟨_, (rets2 (retOne_tmp rfl) (retOne_tmp rfl)), ?_⟩
  replace S : St A N w w7 [oS T_int 1 IC SlV.nil ([] : List Int)] [] := S.arr [0] []
  obtain rfl := Option.some.inj H
  exact ⟨SlV.nil, rfl, S⟩
 replace H := if_f hc10 H
 refine wc_skip ?_
 refine wc_seq (wc_region ?_)
 refine wd (does_mv_p rfl) ?_
 refine wd (Does.to (v' := .agg (Checker.C (⟨a_0⟩ : Checker)).toArray) (does_buildv (vs := [(0, .pointer a_0)]) bu_Checker (consP rfl rfl) (Bld.one rfl rfl (by rw [Checker.len]; decide) (Checker.set_t _ _) Bld.nil)) rfl) ?_
 refine wd (does_load_agg ag_Term rfl ((S.blk 0).all _ (Term.len _)) (Term.len _)) ?_
 refine wd (does_mv_p rfl) ?_
 refine wd (does_mv_i rfl) ?_
 obtain ⟨r11, er11, H⟩ := bind_ex H
 obtain ⟨B13, MB13, SB13, back⟩ := S.calln 0 ((.z 1 rfl (.z 3 rfl (.z 0 rfl (.z 4 rfl .nil)))))
 refine wl_call (does_call ca_types_checker_checked) (by decide) (types_checker_checked_st (a0 := (⟨a0⟩ : PChecker)) (a1 := a2) SB13 er11) ?_
 rintro v14 w12 ⟨_, rfl, S2⟩
 replace S : St A N w w12 [oE v14 r11, oB b2 T_Term (Term.C (⟨a2.kind, a2.name, a2.other, a2.form, s_2⟩ : Term))] [fScope a9 r6.1, oT a_0 a0, fS 2 Hyp.C s_1 a1, oDTerm s_2 a2.sub, oEt] := back _ _ _ _ S2 rfl
 clear back S2 SB13
 obtain ⟨r15, er15, H⟩ := bind_ex H
 obtain ⟨B17, MB17, SB17, back⟩ := S.calln 1 ((.z 4 rfl .nil))
 refine wl_call (does_call ca_types_code) (by decide) (types_code_st (a0 := r11) SB17 er15) ?_
 rintro _ w16 ⟨s18, rfl, S2⟩
 replace S : St A N w w16 [oS T_int 1 IC s18 r15.1, oB b2 T_Term (Term.C (⟨a2.kind, a2.name, a2.other, a2.form, s_2⟩ : Term))] [fScope a9 r6.1, oT a_0 a0, fS 2 Hyp.C s_1 a1, oDTerm s_2 a2.sub, oEt] := back _ _ _ _ S2 rfl
 clear back S2 SB17
 refine wd (does_extract rfl rfl) ?_
 refine wd (does_extract rfl rfl) ?_
 refine wd (does_as_l rfl) ?_
 refine wd (does_as_i rfl) ?_
 refine wl_nil ?_
 refine wc_ret ?_
 refine ⟨_, (rets2 (retOne_tmp rfl) (retOne_tmp rfl)), ?_⟩
 replace S : St A N w w16 [oS T_int 1 IC s18 r15.1] [] := S.arr [0] []
 obtain rfl := Option.some.inj H
 exact ⟨s18, rfl, S⟩
theorem types_Check_st {A : Nat → Prop} {N : Oth} {w : World} {a0 : Tb} {a_0 : Option Addr} {a1 : List Hyp} {s_1 : SlV} {a2 : PTerm} {s_2 : SlV} {a3 : Int} (S : St A N w w [] [oT a_0 a0, fS 2 Hyp.C s_1 a1, oDTerm s_2 a2.sub, oEt]) {k : Nat} {r : Int} (H : types_Check.f k a0 a1 a2 a3 = some r) :
  Calls PP F_types_Check #[.pointer a_0, s_1.v, .agg (Term.C (⟨a2.kind, a2.name, a2.other, a2.form, s_2⟩ : Term)).toArray, .int .i64 a3] w fun e w' => ∃ v, e = .returned v ∧ (v = .int .i64 r ∧ St A N w w' [] []) := by
 unfold types_Check.f at H
 refine calls_of_wc (n := 20) fn_types_Check rfl rfl (by simp) ?_
 refine wc_seq (wc_region ?_)
 refine wl_box_agg rfl (by decide) fun b2 w1 hw1 => ?_
 replace S : St A N w w1 [oB b2 T_Term (Term.C (⟨a2.kind, a2.name, a2.other, a2.form, s_2⟩ : Term))] [oT a_0 a0, fS 2 Hyp.C s_1 a1, oDTerm s_2 a2.sub, oEt] := S.new hw1
 refine wd (does_as_i rfl) ?_
 refine wl_nil ?_
 refine wc_seq (wc_region ?_)
 refine wd (does_mv_p rfl) ?_
 refine wd (does_mv_l rfl) ?_
 refine wd (does_load_agg ag_Term rfl ((S.blk 0).all _ (Term.len _)) (Term.len _)) ?_
 refine wd (does_mv_i rfl) ?_
 obtain ⟨r3, er3, H⟩ := bind_ex H
 obtain ⟨B5, MB5, SB5, back⟩ := S.calln 0 ((.z 0 rfl (.z 1 rfl (.z 2 rfl (.z 3 rfl .nil)))))
 refine wl_call (does_call ca_types_Where) (by decide) (types_Where_st (a2 := a2) SB5 er3) ?_
 rintro _ w4 ⟨s6, rfl, S2⟩
 replace S : St A N w w4 [oS T_int 1 IC s6 r3.1, oB b2 T_Term (Term.C (⟨a2.kind, a2.name, a2.other, a2.form, s_2⟩ : Term))] [oT a_0 a0, fS 2 Hyp.C s_1 a1, oDTerm s_2 a2.sub, oEt] := back _ _ _ _ S2 rfl
 clear back S2 SB5
 refine wd (does_mv_t rfl) ?_
 refine wd (does_extract rfl rfl) ?_
 refine wd (does_extract rfl rfl) ?_
 refine wd (does_as_l rfl) ?_
 refine wd (does_as_i rfl) ?_
 refine wl_nil ?_
 refine wc_seq (wc_region ?_)
 refine wd (does_mv_i rfl) ?_
 refine wd (does_as_i rfl) ?_
 refine wl_nil ?_
 refine wc_ret ?_
 refine ⟨_, (rets1 (retOne_tmp rfl)), ?_⟩
 replace S : St A N w w4 [] [] := S.arr [] []
 obtain rfl := Option.some.inj H
 exact ⟨rfl, S⟩
theorem types_Infer_st {A : Nat → Prop} {N : Oth} {w : World} {a0 : Tb} {a_0 : Option Addr} {a1 : List Hyp} {s_1 : SlV} {a2 : PTerm} {s_2 : SlV} (S : St A N w w [] [oT a_0 a0, fS 2 Hyp.C s_1 a1, oDTerm s_2 a2.sub, oEt]) {k : Nat} {r : Int × Int} (H : types_Infer.f k a0 a1 a2 = some r) :
  Calls PP F_types_Infer #[.pointer a_0, s_1.v, .agg (Term.C (⟨a2.kind, a2.name, a2.other, a2.form, s_2⟩ : Term)).toArray] w fun e w' => ∃ v, e = .returned v ∧ (v = .tuple #[.int .i64 r.1, .int .i64 r.2] ∧ St A N w w' [] []) := by
 unfold types_Infer.f at H
 refine calls_of_wc (n := 39) fn_types_Infer rfl rfl (by simp) ?_
 refine wc_seq (wc_region ?_)
 refine wl_box_agg rfl (by decide) fun b2 w1 hw1 => ?_
 replace S : St A N w w1 [oB b2 T_Term (Term.C (⟨a2.kind, a2.name, a2.other, a2.form, s_2⟩ : Term))] [oT a_0 a0, fS 2 Hyp.C s_1 a1, oDTerm s_2 a2.sub, oEt] := S.new hw1
 refine wd (does_as_i rfl) ?_
 refine wd (does_as_i rfl) ?_
 refine wl_nil ?_
 refine wc_seq (wc_region ?_)
 refine wd (does_mv_p rfl) ?_
 refine wd (does_mv_l rfl) ?_
 refine wd (does_load_agg ag_Term rfl ((S.blk 0).all _ (Term.len _)) (Term.len _)) ?_
 replace S : St A N w w1 [oS T_int 1 IC SlV.nil ([] : List Int), oB b2 T_Term (Term.C (⟨a2.kind, a2.name, a2.other, a2.form, s_2⟩ : Term))] [oT a_0 a0, fS 2 Hyp.C s_1 a1, oDTerm s_2 a2.sub, oEt] := S.nil T_int 1 IC
 obtain ⟨r3, er3, H⟩ := bind_ex H
 obtain ⟨B5, MB5, SB5, back⟩ := S.sub [0, 1, 2] [oS T_int 1 IC SlV.nil ([] : List Int)] [oB b2 T_Term (Term.C (⟨a2.kind, a2.name, a2.other, a2.form, s_2⟩ : Term))]
 refine wl_call (does_callg ca_types_ahead (cons2 rfl (cons2 rfl (cons2 rfl (cons2 SlV.nil_eq rfl))))) (by decide) (types_ahead_st (a2 := a2) SB5 er3) ?_
 rintro _ w4 ⟨a6, rfl, S2⟩
 replace S : St A N w w4 [oB b2 T_Term (Term.C (⟨a2.kind, a2.name, a2.other, a2.form, s_2⟩ : Term))] [fScope a6 r3.1, oT a_0 a0, fS 2 Hyp.C s_1 a1, oDTerm s_2 a2.sub, oEt] := back _ _ _ _ _ S2 rfl rfl
 clear back S2 SB5
 refine wd (does_mv_t rfl) ?_
 refine wd (does_extract rfl rfl) ?_
 refine wd (does_extract rfl rfl) ?_
 refine wd (does_as_p rfl) ?_
 refine wd (does_as_i rfl) ?_
 refine wl_nil ?_
 refine wc_seq (wc_seq (wc_region ?_))
 refine wd (does_mv_i rfl) ?_
 refine wd (does_ne rfl rfl) ?_
 refine wl_nil ?_
 refine wc_if rfl (fun hc7 => ?_) (fun hc7 => ?_)
 ·replace H := if_t hc7 H
  refine wc_seq (wc_region ?_)
  refine wd (does_mv_i rfl) ?_
  refine wd (does_as_i rfl) ?_
  refine wd (does_as_i rfl) ?_
  refine wl_nil ?_
  refine wc_ret ?_
  refine ⟨_, (rets2 (retOne_tmp rfl) (retOne_tmp rfl)), ?_⟩
  replace S : St A N w w4 [] [] := S.arr [] []
  obtain rfl := Option.some.inj H
  exact ⟨rfl, S⟩
 replace H := if_f hc7 H
 refine wc_skip ?_
 refine wc_seq (wc_region ?_)
 refine wd (does_mv_p rfl) ?_
 refine wd (Does.to (v' := .agg (Checker.C (⟨a_0⟩ : Checker)).toArray) (does_buildv (vs := [(0, .pointer a_0)]) bu_Checker (consP rfl rfl) (Bld.one rfl rfl (by rw [Checker.len]; decide) (Checker.set_t _ _) Bld.nil)) rfl) ?_
 refine wd (does_load_agg ag_Term rfl ((S.blk 0).all _ (Term.len _)) (Term.len _)) ?_
 refine wd (does_mv_p rfl) ?_
 obtain ⟨r8, er8, H⟩ := bind_ex H
 obtain ⟨B10, MB10, SB10, back⟩ := S.calln 0 ((.z 1 rfl (.z 3 rfl (.z 0 rfl (.z 4 rfl .nil)))))
 refine wl_call (does_call ca_types_checker_told) (by decide) (types_checker_told_st (a0 := (⟨a0⟩ : PChecker)) (a1 := a2) SB10 er8) ?_
 rintro _ w9 ⟨v11, rfl, S2⟩
 replace S : St A N w w9 [oE v11 r8.2, oB b2 T_Term (Term.C (⟨a2.kind, a2.name, a2.other, a2.form, s_2⟩ : Term))] [fScope a6 r3.1, oT a_0 a0, fS 2 Hyp.C s_1 a1, oDTerm s_2 a2.sub, oEt] := back _ _ _ _ S2 rfl
 clear back S2 SB10
 refine wd (does_mv_t rfl) ?_
 refine wd (does_extract rfl rfl) ?_
 refine wd (does_extract rfl rfl) ?_
 refine wd (does_as_i rfl) ?_
 refine wd (does_assign rfl) ?_
 refine wl_nil ?_
 refine wc_seq (wc_seq (wc_region ?_))
 refine wd (does_move rfl) ?_
 obtain ⟨r12, er12, H⟩ := bind_ex H
 obtain ⟨B14, MB14, SB14, back⟩ := S.calln 1 ((.z 4 rfl .nil))
 refine wl_call (does_call ca_types_code) (by decide) (types_code_st (a0 := r8.2) SB14 er12) ?_
 rintro _ w13 ⟨s15, rfl, S2⟩
 replace S : St A N w w13 [oS T_int 1 IC s15 r12.1, oB b2 T_Term (Term.C (⟨a2.kind, a2.name, a2.other, a2.form, s_2⟩ : Term))] [fScope a6 r3.1, oT a_0 a0, fS 2 Hyp.C s_1 a1, oDTerm s_2 a2.sub, oEt] := back _ _ _ _ S2 rfl
 clear back S2 SB14
 refine wd (does_mv_t rfl) ?_
 refine wd (does_extract rfl rfl) ?_
 refine wd (does_extract rfl rfl) ?_
 refine wd (does_as_i rfl) ?_
 refine wl_nil ?_
 refine wc_seq (wc_region ?_)
 refine wd (does_mv_i rfl) ?_
 refine wd (does_ne rfl rfl) ?_
 refine wl_nil ?_
 refine wc_if rfl (fun hc16 => ?_) (fun hc16 => ?_)
 ·replace H := if_t hc16 H
  refine wc_seq (wc_region ?_)
  refine wd (does_mv_i rfl) ?_
  refine wd (does_as_i rfl) ?_
  refine wd (does_as_i rfl) ?_
  refine wl_nil ?_
  refine wc_ret ?_
  refine ⟨_, (rets2 (retOne_tmp rfl) (retOne_tmp rfl)), ?_⟩
  replace S : St A N w w13 [] [] := S.arr [] []
  obtain rfl := Option.some.inj H
  exact ⟨rfl, S⟩
 replace H := if_f hc16 H
 refine wc_skip ?_
 refine wc_seq (wc_region ?_)
 refine wd (does_mv_i rfl) ?_
 refine wd (does_as_i rfl) ?_
 refine wd (does_as_i rfl) ?_
 refine wl_nil ?_
 refine wc_ret ?_
 refine ⟨_, (rets2 (retOne_tmp rfl) (retOne_tmp rfl)), ?_⟩
 replace S : St A N w w13 [] [] := S.arr [] []
 obtain rfl := Option.some.inj H
 exact ⟨rfl, S⟩
end Go.Proofs.YtjebgcoknpcadaaDoor
end
section
namespace Go.Proofs.YtjebgcoknpcadaaDoor
open Gw Go.RowKit
set_option maxHeartbeats 4000000
set_option maxRecDepth 20000
theorem formula_From_st {A : Nat → Prop} {N : Oth} {w : World} {a0 : List Nd} {s_0 : SlV} (S : St A N w w [] [fS 4 Nd.C s_0 a0]) {r : Tb × Int} (H : formula_From.f a0 = some r) :
  Calls PP F_formula_From #[s_0.v] w fun e w' => ∃ v, e = .returned v ∧ (∃ ao0 : Option Addr, v = .tuple #[.pointer ao0, .int .i64 r.2] ∧ St A N w w' [oT ao0 r.1] []) := by
 unfold formula_From.f at H
 refine calls_of_wc (n := 35) fn_formula_From rfl rfl (by simp) ?_
 refine wc_seq (wc_region ?_)
 replace S : St A N w w [oT none none] [fS 4 Nd.C s_0 a0] := S.add (Ext.refl _) (oT.nil _) (fun _ x => x.elim)
 refine wd (does_as_p rfl) ?_
 refine wd (does_as_i rfl) ?_
 refine wl_nil ?_
 refine wc_seq (wc_region ?_)
 obtain ⟨r1, er1, H⟩ := bind_ex H
 obtain ⟨B3, MB3, SB3, back⟩ := S.calln 0 ((.nil))
 refine wl_call (does_call ca_formula_New) (by decide) (formula_New_st SB3 er1) ?_
 rintro _ w2 ⟨a4, rfl, S2⟩
 replace S : St A N w w2 [oT a4 r1, oT none none] [fS 4 Nd.C s_0 a0] := back _ _ _ _ S2 rfl
 clear back S2 SB3
 refine wd (does_as_p rfl) ?_
 refine wl_nil ?_
 refine wc_seq (wc_seq (wc_region ?_))
 refine wd (does_mv_l rfl) ?_
 refine wd (does_lenR sl_L_api_Node rfl (S.rd 0)) ?_
 refine wd (does_mv_i rfl) ?_
 refine wl_nil ?_
 obtain ⟨o5, e5, Ho5⟩ := bind_ex H
 clear H
 refine wc_cutq [2, 3, 5, 6, 7, 8, 12, 13, 14, 15, 16, 17, 18, 19, 20, 21, 22, 23, 24, 25, 26, 27, 28, 29, 30, 31, 32, 33] (fun fr W => ∃ s5 : Tb, o5 = .inl s5 ∧ St A N w W [oT a4 s5, oT none none] [fS 4 Nd.C s_0 a0]) ?_ ?_
 ·refine wc_block ?_
  refine wc_loopm (α := Nat × Int × Tb) [2, 3, 5, 6, 7, 8, 12, 13, 14, 15, 16, 17, 18, 19, 20, 21, 22, 23, 24, 25, 26, 27, 28, 29, 30, 31, 32, 33] (fun x fr W => (x.1 : Int) = (a0.length : Int) - x.2.1 ∧ 0 ≤ x.2.1 ∧ forN (fun i s => formula_From.b0 a0 i s) x.1 x.2.1 x.2.2 = some o5 ∧ fr 12 = .int .i64 x.2.1 ∧ St A N w W [oT a4 (x.2.2), oT none none] [fS 4 Nd.C s_0 a0]) (fun x => x.1) (((a0.length : Int) - 0).toNat, 0, r1) ⟨(by dsimp only; have hle := Int.natCast_nonneg (a0.length); omega), (Int.le_refl _), (by dsimp only; exact e5), rfl, S⟩ ?_
  rintro ⟨m5, i5, x5_0⟩ g5 u5 ⟨hm5, hl5, e5, q5_i, S⟩
  try dsimp only at hm5
  try dsimp only at hl5
  try dsimp only at e5
  try dsimp only at S
  try dsimp only at q5_i
  refine wc_seq (wc_region ?_)
  refine wd (does_lt q5_i rfl) ?_
  refine wl_nil ?_
  refine wc_seq ?_
  refine wc_if rfl (fun hc6 => ?_) (fun hc6 => ?_)
  rotate_left
  ·refine wc_exit ?_
   have hge : (a0.length : Int) ≤ i5 := Int.not_lt.1 (of_decide_eq_false hc6)
   obtain rfl : m5 = 0 := by omega
   replace e5 := forN_0 e5
   exact ⟨rfl, ((Dif.self _ _ _).upd rfl _), x5_0, e5, S⟩
  refine wc_skip ?_
  have hlt5 : i5 < (a0.length : Int) := of_decide_eq_true hc6
  obtain ⟨m5, rfl⟩ : ∃ m, m5 = m + 1 := ⟨m5 - 1, by omega⟩
  obtain ⟨q5, H, e5⟩ := forN_s e5
  unfold formula_From.b0 at H
  try dsimp only at H
  have hb5 := (S.len 0)
  refine wc_seq ?_
  refine wc_block ?_
  refine wc_seq (wc_region ?_)
  refine wd (does_mv_i q5_i) ?_
  refine wd (does_indexR sl_L_api_Node rfl q5_i (S.rd 0) (And.intro (show 0 ≤ i5 by omega) (show i5 < (a0.length : Int) from hlt5)).1 (And.intro (show 0 ≤ i5 by omega) (show i5 < (a0.length : Int) from hlt5)).2) ?_
  refine wd (does_load_agg ag_Nd rfl ((S.rd 0).at (at_some Nd.z (And.intro (show 0 ≤ i5 by omega) (show i5 < (a0.length : Int) from hlt5)))) (Nd.len _)) ?_
  refine wl_alloc ze_Nd (by decide) fun b9 w8 hw8 => ?_
  replace S : St A N w w8 [oB b9 T_Nd (Nd.C Nd.z), oT a4 x5_0, oT none none] [fS 4 Nd.C s_0 a0] := S.new hw8
  refine wd (does_as_i rfl) ?_
  refine wl_store_agg ag_Nd rfl rfl (S.blk 0) (Nd.len _) (by rw [Nd.len]; decide) (Nd.one _) (store_all (Nd.len _)) fun w10 B hw10 zw10 => ?_
  replace S : St A N w w10 [oB b9 T_Nd (Nd.C (at_ Nd.z a0 i5)), oT a4 x5_0, oT none none] [fS 4 Nd.C s_0 a0] := S.store 0 B hw10
  clear B
  refine wl_nil ?_
  refine wc_seq (wc_region ?_)
  refine wd (does_mv_p rfl) ?_
  refine wd (does_load_agg ag_Nd rfl ((S.blk 0).all _ (Nd.len _)) (Nd.len _)) ?_
  obtain ⟨r11, er11, H⟩ := bind_ex H
  replace S : St A N w w10 [oT a4 x5_0, oB b9 T_Nd (Nd.C (at_ Nd.z a0 i5)), oT none none] [fS 4 Nd.C s_0 a0] := S.front 1
  obtain ⟨B13, MB13, SB13, back⟩ := S.calln 1 ((.nil))
  refine wl_call (does_call ca_formula_Table_Put) (by decide) (formula_Table_Put_st SB13 er11) ?_
  rintro _ w12 ⟨rfl, S2⟩
  replace S : St A N w w12 [oT a4 r11.1, oB b9 T_Nd (Nd.C (at_ Nd.z a0 i5)), oT none none] [fS 4 Nd.C s_0 a0] := back _ _ _ _ S2 rfl
  clear back S2 SB13
  refine wd (does_mv_t rfl) ?_
  refine wd (does_extract rfl rfl) ?_
  refine wd (does_extract rfl rfl) ?_
  refine wd (does_as_i rfl) ?_
  refine wd (does_as_i rfl) ?_
  refine wl_nil ?_
  refine wc_seq (wc_seq (wc_region ?_))
  refine wd (does_mv_i rfl) ?_
  refine wd (does_eq rfl rfl) ?_
  refine wd (does_mv_b rfl) ?_
  refine wl_guard (j := 2) (pol := true) rfl rfl rfl (by decide) (fun hg => does_mv_i rfl) (by decide) ?_
  refine wl_guard (j := 2) (pol := true) rfl rfl rfl (by decide) (fun hg => does_mv_i rfl) (by decide) ?_
  refine wl_guard (j := 2) (pol := true) rfl rfl rfl (by decide) (fun hg => does_ne (gv_yes hg) (gv_yes hg)) (by decide) ?_
  refine wd (does_and rfl (fun hp => (gv_yes (and_1 hp)))) ?_
  refine wl_nil ?_
  refine wc_if rfl (fun hc14 => ?_) (fun hc14 => ?_)
  ·replace H := if_t hc14 H
   refine wc_region ?_
   refine wd (does_as_i rfl) ?_
   refine wl_nil ?_
   refine wc_seq (wc_region ?_)
   refine wd (does_mv_i rfl) ?_
   refine wd (does_ne rfl rfl) ?_
   refine wl_nil ?_
   refine wc_if rfl (fun hc15 => ?_) (fun hc15 => ?_)
   ·replace H := if_t hc15 H
    refine wc_seq (wc_region ?_)
    refine wd (does_mv_i rfl) ?_
    replace S : St A N w w12 [oT none none, oT a4 r11.1, oB b9 T_Nd (Nd.C (at_ Nd.z a0 i5)), oT none none] [fS 4 Nd.C s_0 a0] := S.add (Ext.refl _) (oT.nil _) (fun _ x => x.elim)
    refine wd (does_as_p rfl) ?_
    refine wd (does_as_i rfl) ?_
    refine wl_nil ?_
    refine wc_ret ?_
    refine ⟨_, (rets2 (retOne_tmp rfl) (retOne_tmp rfl)), ?_⟩
    replace S : St A N w w12 [oT none none] [] := S.arr [0] []
    obtain rfl := Option.some.inj H
    obtain rfl := e5
    obtain rfl := aft_r Ho5
    exact ⟨none, rfl, S⟩
   replace H := if_f hc15 H
   refine wc_skip ?_
   refine wc_region ?_
   refine wd (does_addc q5_i rfl (c := i5 + 1) rfl (by omega) (by omega)) ?_
   refine wd (does_mv_i rfl) ?_
   refine wl_nil ?_
   replace S : St A N w w12 [oT a4 r11.1, oT none none] [fS 4 Nd.C s_0 a0] := S.arr [0, 2] [0]
   obtain rfl := Option.some.inj H
   exact ⟨rfl, (((((((((((((((((((((((((((Dif.self _ _ _).upd rfl _).upd rfl _).upd rfl _).upd rfl _).upd rfl _).upd rfl _).upd rfl _).upd rfl _).upd rfl _).upd rfl _).upd rfl _).upd rfl _).upd rfl _).upd rfl _).upd rfl _).upd rfl _).upd rfl _).upd rfl _).upd rfl _).upd rfl _).upd rfl _).upd rfl _).upd rfl _).upd rfl _).upd rfl _).upd rfl _), (m5, i5 + 1, r11.1), ⟨(by dsimp only; omega), (by dsimp only; omega), e5, rfl, S⟩, by dsimp only; omega⟩
  ·replace H := if_f hc14 H
   refine wc_skip ?_
   refine wc_seq (wc_region ?_)
   refine wd (does_mv_i rfl) ?_
   refine wd (does_ne rfl rfl) ?_
   refine wl_nil ?_
   refine wc_if rfl (fun hc16 => ?_) (fun hc16 => ?_)
   ·replace H := if_t hc16 H
    refine wc_seq (wc_region ?_)
    refine wd (does_mv_i rfl) ?_
    replace S : St A N w w12 [oT none none, oT a4 r11.1, oB b9 T_Nd (Nd.C (at_ Nd.z a0 i5)), oT none none] [fS 4 Nd.C s_0 a0] := S.add (Ext.refl _) (oT.nil _) (fun _ x => x.elim)
    refine wd (does_as_p rfl) ?_
    refine wd (does_as_i rfl) ?_
    refine wl_nil ?_
    refine wc_ret ?_
    refine ⟨_, (rets2 (retOne_tmp rfl) (retOne_tmp rfl)), ?_⟩
    replace S : St A N w w12 [oT none none] [] := S.arr [0] []
    obtain rfl := Option.some.inj H
    obtain rfl := e5
    obtain rfl := aft_r Ho5
    exact ⟨none, rfl, S⟩
   replace H := if_f hc16 H
   refine wc_skip ?_
   refine wc_region ?_
   refine wd (does_addc q5_i rfl (c := i5 + 1) rfl (by omega) (by omega)) ?_
   refine wd (does_mv_i rfl) ?_
   refine wl_nil ?_
   replace S : St A N w w12 [oT a4 r11.1, oT none none] [fS 4 Nd.C s_0 a0] := S.arr [0, 2] [0]
   obtain rfl := Option.some.inj H
   exact ⟨rfl, ((((((((((((((((((((((((((Dif.self _ _ _).upd rfl _).upd rfl _).upd rfl _).upd rfl _).upd rfl _).upd rfl _).upd rfl _).upd rfl _).upd rfl _).upd rfl _).upd rfl _).upd rfl _).upd rfl _).upd rfl _).upd rfl _).upd rfl _).upd rfl _).upd rfl _).upd rfl _).upd rfl _).upd rfl _).upd rfl _).upd rfl _).upd rfl _).upd rfl _), (m5, i5 + 1, r11.1), ⟨(by dsimp only; omega), (by dsimp only; omega), e5, rfl, S⟩, by dsimp only; omega⟩
 rintro g17 u18 ⟨s5, rfl, S⟩
 have H := Ho5
 dsimp only [aft] at H
 refine wc_seq (wc_region ?_)
 refine wd (does_mv_p rfl) ?_
 refine wd (does_as_p rfl) ?_
 refine wd (does_as_i rfl) ?_
 refine wl_nil ?_
 refine wc_ret ?_
 refine ⟨_, (rets2 (retOne_tmp rfl) (retOne_tmp rfl)), ?_⟩
 replace S : St A N w u18 [oT a4 s5] [] := S.arr [0] []
 obtain rfl := Option.some.inj H
 exact ⟨a4, rfl, S⟩
theorem ref03_Ints_st {A : Nat → Prop} {N : Oth} {w : World} {a0 : List Int} {s_0 : SlV} {a1 : List Int} {s_1 : SlV} (S : St A N w w [] [fS 1 IC s_0 a0, fS 1 IC s_1 a1]) {r : Bool} (H : ref03_Ints.f a0 a1 = some r) :
  Calls PP F_ref03_Ints #[s_0.v, s_1.v] w fun e w' => ∃ v, e = .returned v ∧ (v = .bool r ∧ St A N w w' [] []) := by
 unfold ref03_Ints.f at H
 refine calls_of_wc (n := 26) fn_ref03_Ints rfl rfl (by simp) ?_
 refine wc_seq (wc_region ?_)
 refine wd (does_as_b rfl) ?_
 refine wl_nil ?_
 refine wc_seq (wc_seq (wc_region ?_))
 refine wd (does_mv_l rfl) ?_
 refine wd (does_lenR sl_L_int rfl (S.rd 0)) ?_
 refine wd (does_mv_l rfl) ?_
 refine wd (does_lenR sl_L_int rfl (S.rd 1)) ?_
 refine wd (does_ne rfl rfl) ?_
 refine wl_nil ?_
 refine wc_if rfl (fun hc1 => ?_) (fun hc1 => ?_)
 ·replace H := if_t hc1 H
  refine wc_seq (wc_region ?_)
  refine wd (does_as_b rfl) ?_
  refine wl_nil ?_
  refine wc_ret ?_
  refine ⟨_, (rets1 (retOne_tmp rfl)), ?_⟩
  replace S : St A N w w [] [] := S.arr [] []
  obtain rfl := Option.some.inj H
  exact ⟨rfl, S⟩
 replace H := if_f hc1 H
 refine wc_skip ?_
 refine wc_seq (wc_seq (wc_region ?_))
 refine wd (does_as_i rfl) ?_
 refine wl_nil ?_
 obtain ⟨o2, e2, Ho2⟩ := bind_ex H
 clear H
 refine wc_cutq [4, 5, 11, 12, 13, 14, 15, 16, 17, 18, 19, 20, 21, 22, 23, 24, 25] (fun fr W => ∃ s2 : Unit, o2 = .inl s2 ∧ St A N w W [] [fS 1 IC s_0 a0, fS 1 IC s_1 a1]) ?_ ?_
 ·refine wc_block ?_
  refine wc_loopm (α := Nat × Int × Unit) [4, 5, 11, 12, 13, 14, 15, 16, 17, 18, 19, 20, 21, 22, 23, 24, 25] (fun x fr W => (x.1 : Int) = (a0.length : Int) - x.2.1 ∧ 0 ≤ x.2.1 ∧ forN (fun i s => ref03_Ints.b0 a1 a0 i) x.1 x.2.1 x.2.2 = some o2 ∧ fr 5 = .int .i64 x.2.1 ∧ St A N w W [] [fS 1 IC s_0 a0, fS 1 IC s_1 a1]) (fun x => x.1) (((a0.length : Int) - 0).toNat, 0, ()) ⟨(by dsimp only; have hle := Int.natCast_nonneg (a0.length); omega), (Int.le_refl _), (by dsimp only; exact e2), rfl, S⟩ ?_
  rintro ⟨m2, i2, _⟩ g2 u2 ⟨hm2, hl2, e2, q2_i, S⟩
  try dsimp only at hm2
  try dsimp only at hl2
  try dsimp only at e2
  try dsimp only at S
  try dsimp only at q2_i
  refine wc_seq (wc_seq (wc_region ?_))
  refine wd (does_mv_i q2_i) ?_
  refine wd (does_mv_l rfl) ?_
  refine wd (does_lenR sl_L_int rfl (S.rd 0)) ?_
  refine wd (does_lt rfl rfl) ?_
  refine wl_nil ?_
  refine wc_if rfl (fun hc3 => ?_) (fun hc3 => ?_)
  rotate_left
  ·refine wc_exit ?_
   have hge : (a0.length : Int) ≤ i2 := Int.not_lt.1 (of_decide_eq_false hc3)
   obtain rfl : m2 = 0 := by omega
   replace e2 := forN_0 e2
   exact ⟨rfl, (((((Dif.self _ _ _).upd rfl _).upd rfl _).upd rfl _).upd rfl _), (), e2, S⟩
  refine wc_skip ?_
  have hlt2 : i2 < (a0.length : Int) := of_decide_eq_true hc3
  obtain ⟨m2, rfl⟩ : ∃ m, m2 = m + 1 := ⟨m2 - 1, by omega⟩
  obtain ⟨q2, H, e2⟩ := forN_s e2
  unfold ref03_Ints.b0 at H
  try dsimp only at H
  have hb2 := (S.len 0)
  refine wc_seq ?_
  refine wc_block ?_
  refine wc_seq ?_
  refine wc_quiet 8 (Ext u2) hmix (by kernel_rfl) (by kernel_rfl) (Ext.drawn _) ?_
  refine wq_does (fun v K => does_mv_l rfl) ?_
  refine wq_does (fun v K => does_mv_i q2_i) ?_
  refine wq_does (fun v K => does_indexR sl_L_int rfl rfl ((S.ext K).rd 0) (And.intro (show 0 ≤ i2 by omega) (show i2 < (a0.length : Int) from hlt2)).1 (And.intro (show 0 ≤ i2 by omega) (show i2 < (a0.length : Int) from hlt2)).2) ?_
  refine wq_does (fun v K => does_load on_int rfl (((S.ext K).rd 0).one (at_some (0 : Int) (And.intro (show 0 ≤ i2 by omega) (show i2 < (a0.length : Int) from hlt2))) rfl)) ?_
  refine wq_does (fun v K => does_mv_l rfl) ?_
  refine wq_does (fun v K => does_mv_i q2_i) ?_
  obtain ⟨hi5, H⟩ := chk_ex H
  refine wq_does (fun v K => does_indexR sl_L_int rfl rfl ((S.ext K).rd 1) (inb_ex hi5).1 (inb_ex hi5).2) ?_
  refine wq_does (fun v K => does_load on_int rfl (((S.ext K).rd 1).one (at_some (0 : Int) (inb_ex hi5)) rfl)) ?_
  refine wq_nil fun w6 K => ?_
  replace S := S.ext K
  clear K
  refine wd (does_ne rfl rfl) ?_
  refine wl_nil ?_
  refine wc_if rfl (fun hc7 => ?_) (fun hc7 => ?_)
  ·replace H := if_t hc7 H
   refine wc_seq (wc_region ?_)
   refine wd (does_as_b rfl) ?_
   refine wl_nil ?_
   refine wc_ret ?_
   refine ⟨_, (rets1 (retOne_tmp rfl)), ?_⟩
   replace S : St A N w w6 [] [] := S.arr [] []
   obtain rfl := Option.some.inj H
   obtain rfl := e2
   obtain rfl := aft_r Ho2
   exact ⟨rfl, S⟩
  replace H := if_f hc7 H
  refine wc_skip ?_
  refine wc_region ?_
  refine wd (does_mv_i q2_i) ?_
  refine wd (does_addc rfl rfl (c := i2 + 1) rfl (by omega) (by omega)) ?_
  refine wd (does_as_i rfl) ?_
  refine wl_nil ?_
  obtain rfl := Option.some.inj H
  exact ⟨rfl, (((((((((((((((((Dif.self _ _ _).upd rfl _).upd rfl _).upd rfl _).upd rfl _).upd rfl _).upd rfl _).upd rfl _).upd rfl _).upd rfl _).upd rfl _).upd rfl _).upd rfl _).upd rfl _).upd rfl _).upd rfl _).upd rfl _), (m2, i2 + 1, ()), ⟨(by dsimp only; omega), (by dsimp only; omega), e2, rfl, S⟩, by dsimp only; omega⟩
 rintro g8 u9 ⟨s2, rfl, S⟩
 have H := Ho2
 dsimp only [aft] at H
 refine wc_seq (wc_region ?_)
 refine wd (does_as_b rfl) ?_
 refine wl_nil ?_
 refine wc_ret ?_
 refine ⟨_, (rets1 (retOne_tmp rfl)), ?_⟩
 replace S : St A N w u9 [] [] := S.arr [] []
 obtain rfl := Option.some.inj H
 exact ⟨rfl, S⟩
end Go.Proofs.YtjebgcoknpcadaaDoor
end
section
namespace Go.Proofs.YtjebgcoknpcadaaDoor
open Gw Go.RowKit
set_option maxHeartbeats 4000000
set_option maxRecDepth 20000
theorem law13_v_st {A : Nat → Prop} {N : Oth} {w : World} {a0 : ByteArray} (S : St A N w w [] []) {r : PTerm} (H : law13_v.f a0 = some r) :
  Calls PP F_law13_v #[.string a0] w fun e w' => ∃ v, e = .returned v ∧ (∃ so0 : SlV, v = .agg (Term.C (⟨r.kind, r.name, r.other, r.form, so0⟩ : Term)).toArray ∧ St A N w w' [] [oDTerm so0 r.sub]) := by
 unfold law13_v.f at H
 refine calls_of_wc (n := 5) fn_law13_v rfl rfl (by simp) ?_
 refine wc_seq (wc_region ?_)
 refine wl_alloc ze_Term (by decide) fun b2 w1 hw1 => ?_
 replace S : St A N w w1 [oB b2 T_Term (Term.C (⟨0, ByteArray.empty, ByteArray.empty, 0, SlV.nil⟩ : Term))] [] := S.new hw1
 refine wl_nil ?_
 refine wc_seq (wc_region ?_)
 refine wd (does_mv_s rfl) ?_
 refine wd (Does.to (v' := .agg (Term.C (⟨1, a0, ByteArray.empty, 0, SlV.nil⟩ : Term)).toArray) (does_buildv (vs := [(0, .int .i64 1), (1, .string a0)]) bu_Term (consP rfl (consP rfl rfl)) (Bld.one rfl rfl (by rw [Term.len]; decide) (Term.set_kind _ _) (Bld.one rfl rfl (by rw [Term.len]; decide) (Term.set_name _ _) Bld.nil))) rfl) ?_
 refine wl_store_agg ag_Term rfl rfl (S.blk 0) (Term.len _) (by rw [Term.len]; decide) (Term.one _) (store_all (Term.len _)) fun w3 B hw3 zw3 => ?_
 replace S : St A N w w3 [oB b2 T_Term (Term.C (⟨1, a0, ByteArray.empty, 0, SlV.nil⟩ : Term))] [] := S.store 0 B hw3
 clear B
 refine wl_nil ?_
 refine wc_ret ?_
 replace S : St A N w w3 [oB b2 T_Term (Term.C (⟨1, a0, ByteArray.empty, 0, SlV.nil⟩ : Term))] [oDTerm SlV.nil ([])] := S.nilTm
 refine ⟨_, (rets1 (retOne_agg ag_Term rfl ((S.blk 0).all _ (Term.len _)) (Term.len _))), ?_⟩
 replace S : St A N w w3 [] [oDTerm SlV.nil ([])] := S.arr [] [0]
 obtain rfl := Option.some.inj H
 exact ⟨SlV.nil, rfl, S⟩
theorem law13_heads_st {A : Nat → Prop} {N : Oth} {w : World}  (S : St A N w w [] [oEt]) {k : Nat} {r : Bool} (H : law13_heads.f k  = some r) :
  Calls PP F_law13_heads #[] w fun e w' => ∃ v, e = .returned v ∧ (v = .bool r ∧ St A N w w' [] []) := by
 unfold law13_heads.f at H
 refine calls_of_wc (n := 108) fn_law13_heads rfl rfl (by simp) ?_
 refine wc_seq (wc_region ?_)
 refine wd (does_as_b rfl) ?_
 refine wl_nil ?_
 refine wc_seq (wc_region ?_)
 refine wd (does_build bu_Nd (Bld.one rfl rfl (by rw [Nd.len]; decide) (Nd.set_kind _ _) (Bld.one rfl rfl (by rw [Nd.len]; decide) (Nd.set_name _ _) Bld.nil))) ?_
 refine wd (does_build bu_Nd (Bld.one rfl rfl (by rw [Nd.len]; decide) (Nd.set_kind _ _) (Bld.one rfl rfl (by rw [Nd.len]; decide) (Nd.set_name _ _) Bld.nil))) ?_
 refine wd (does_build bu_Nd (Bld.one rfl rfl (by rw [Nd.len]; decide) (Nd.set_kind _ _) (Bld.one rfl rfl (by rw [Nd.len]; decide) (Nd.set_l _ _) (Bld.one rfl rfl (by rw [Nd.len]; decide) (Nd.set_r _ _) Bld.nil)))) ?_
 refine wd (does_build bu_Nd (Bld.one rfl rfl (by rw [Nd.len]; decide) (Nd.set_kind _ _) (Bld.one rfl rfl (by rw [Nd.len]; decide) (Nd.set_l _ _) (Bld.one rfl rfl (by rw [Nd.len]; decide) (Nd.set_r _ _) Bld.nil)))) ?_
 refine wd (does_build bu_Nd (Bld.one rfl rfl (by rw [Nd.len]; decide) (Nd.set_kind _ _) Bld.nil)) ?_
 refine wl_lits (C := Nd.C) (l := [{ Nd.z with kind := 1, name := (⟨#[112]⟩ : ByteArray) }, { Nd.z with kind := 1, name := (⟨#[113]⟩ : ByteArray) }, { Nd.z with kind := 3, l := 0, r := 1 }, { Nd.z with kind := 5, l := 2, r := 0 }, { Nd.z with kind := 2 }]) (vs := [.agg (Nd.C ({ Nd.z with kind := 1, name := (⟨#[112]⟩ : ByteArray) })).toArray, .agg (Nd.C ({ Nd.z with kind := 1, name := (⟨#[113]⟩ : ByteArray) })).toArray, .agg (Nd.C ({ Nd.z with kind := 3, l := 0, r := 1 })).toArray, .agg (Nd.C ({ Nd.z with kind := 5, l := 2, r := 0 })).toArray, .agg (Nd.C ({ Nd.z with kind := 2 })).toArray]) sl_L_api_Node el_Nd.zero rfl rfl (fun a _ => Nd.len a) (by decide) rfl (by decide) fun b2 w1 s3 hBw1 hw1 => ?_
 replace S : St A N w w1 [oS T_Nd 4 Nd.C s3 ([{ Nd.z with kind := 1, name := (⟨#[112]⟩ : ByteArray) }, { Nd.z with kind := 1, name := (⟨#[113]⟩ : ByteArray) }, { Nd.z with kind := 3, l := 0, r := 1 }, { Nd.z with kind := 5, l := 2, r := 0 }, { Nd.z with kind := 2 }])] [oEt] := S.lit hBw1 hw1 (by simp)
 obtain ⟨r4, er4, H⟩ := bind_ex H
 obtain ⟨B6, MB6, SB6, back⟩ := S.calln 0 ((.s 0 rfl .nil))
 refine wl_call (does_call ca_formula_From) (by decide) (formula_From_st SB6 er4) ?_
 rintro _ w5 ⟨a7, rfl, S2⟩
 replace S : St A N w w5 [oT a7 r4.1, oS T_Nd 4 Nd.C s3 ([{ Nd.z with kind := 1, name := (⟨#[112]⟩ : ByteArray) }, { Nd.z with kind := 1, name := (⟨#[113]⟩ : ByteArray) }, { Nd.z with kind := 3, l := 0, r := 1 }, { Nd.z with kind := 5, l := 2, r := 0 }, { Nd.z with kind := 2 }])] [oEt] := back _ _ _ _ S2 rfl
 clear back S2 SB6
 refine wd (does_mv_t rfl) ?_
 refine wd (does_extract rfl rfl) ?_
 refine wd (does_extract rfl rfl) ?_
 refine wd (does_as_p rfl) ?_
 refine wd (does_as_i rfl) ?_
 refine wl_nil ?_
 refine wc_seq (wc_region ?_)
 obtain ⟨r8, er8, H⟩ := bind_ex H
 obtain ⟨B10, MB10, SB10, back⟩ := S.sub [] [] [oT a7 r4.1, oS T_Nd 4 Nd.C s3 ([{ Nd.z with kind := 1, name := (⟨#[112]⟩ : ByteArray) }, { Nd.z with kind := 1, name := (⟨#[113]⟩ : ByteArray) }, { Nd.z with kind := 3, l := 0, r := 1 }, { Nd.z with kind := 5, l := 2, r := 0 }, { Nd.z with kind := 2 }])]
 refine wl_call (does_call ca_law13_v) (by decide) (law13_v_st SB10 er8) ?_
 rintro _ w9 ⟨s11, rfl, S2⟩
 replace S : St A N w w9 [oT a7 r4.1, oS T_Nd 4 Nd.C s3 ([{ Nd.z with kind := 1, name := (⟨#[112]⟩ : ByteArray) }, { Nd.z with kind := 1, name := (⟨#[113]⟩ : ByteArray) }, { Nd.z with kind := 3, l := 0, r := 1 }, { Nd.z with kind := 5, l := 2, r := 0 }, { Nd.z with kind := 2 }])] [oDTerm s11 r8.sub, oEt] := back _ _ _ _ _ S2 rfl rfl
 clear back S2 SB10
 refine wl_lits (C := Term.C) (l := [(⟨r8.kind, r8.name, r8.other, r8.form, s11⟩ : Term)]) (vs := [.agg (Term.C (⟨r8.kind, r8.name, r8.other, r8.form, s11⟩ : Term)).toArray]) sl_L_api_Term el_Term.zero rfl rfl (fun a _ => Term.len a) (by decide) rfl (by decide) fun b13 w12 s14 hBw12 hw12 => ?_
 replace S : St A N w w12 [oS T_Term 5 Term.C s14 ([(⟨r8.kind, r8.name, r8.other, r8.form, s11⟩ : Term)]), oT a7 r4.1, oS T_Nd 4 Nd.C s3 ([{ Nd.z with kind := 1, name := (⟨#[112]⟩ : ByteArray) }, { Nd.z with kind := 1, name := (⟨#[113]⟩ : ByteArray) }, { Nd.z with kind := 3, l := 0, r := 1 }, { Nd.z with kind := 5, l := 2, r := 0 }, { Nd.z with kind := 2 }])] [oDTerm s11 r8.sub, oEt] := S.lit hBw12 hw12 (by simp)
 replace S : St A N w w12 [oS T_Term 5 Term.C s14 ([(⟨r8.kind, r8.name, r8.other, r8.form, s11⟩ : Term)]), oT a7 r4.1, oS T_Nd 4 Nd.C s3 ([{ Nd.z with kind := 1, name := (⟨#[112]⟩ : ByteArray) }, { Nd.z with kind := 1, name := (⟨#[113]⟩ : ByteArray) }, { Nd.z with kind := 3, l := 0, r := 1 }, { Nd.z with kind := 5, l := 2, r := 0 }, { Nd.z with kind := 2 }])] [bigA fTerm ([] : List Term) ([] : List PTerm), oDTerm s11 r8.sub, oEt] := S.bigTm
 replace S : St A N w w12 [oS T_Term 5 Term.C s14 ([(⟨r8.kind, r8.name, r8.other, r8.form, s11⟩ : Term)]), oT a7 r4.1, oS T_Nd 4 Nd.C s3 ([{ Nd.z with kind := 1, name := (⟨#[112]⟩ : ByteArray) }, { Nd.z with kind := 1, name := (⟨#[113]⟩ : ByteArray) }, { Nd.z with kind := 3, l := 0, r := 1 }, { Nd.z with kind := 5, l := 2, r := 0 }, { Nd.z with kind := 2 }])] [bigA fTerm [(⟨r8.kind, r8.name, r8.other, r8.form, s11⟩ : Term)] [r8], oDTerm s11 r8.sub, oEt] := S.consTm (x := r8) 0
 replace S : St A N w w12 [oT a7 r4.1, oS T_Nd 4 Nd.C s3 ([{ Nd.z with kind := 1, name := (⟨#[112]⟩ : ByteArray) }, { Nd.z with kind := 1, name := (⟨#[113]⟩ : ByteArray) }, { Nd.z with kind := 3, l := 0, r := 1 }, { Nd.z with kind := 5, l := 2, r := 0 }, { Nd.z with kind := 2 }])] [oDTerm s14 ([r8]), bigA fTerm [(⟨r8.kind, r8.name, r8.other, r8.form, s11⟩ : Term)] [r8], oDTerm s11 r8.sub, oEt] := S.frzTm 0 0
 replace S : St A N w w12 [oT a7 r4.1, oS T_Nd 4 Nd.C s3 ([{ Nd.z with kind := 1, name := (⟨#[112]⟩ : ByteArray) }, { Nd.z with kind := 1, name := (⟨#[113]⟩ : ByteArray) }, { Nd.z with kind := 3, l := 0, r := 1 }, { Nd.z with kind := 5, l := 2, r := 0 }, { Nd.z with kind := 2 }])] [oDTerm s14 ([r8]), oDTerm s11 r8.sub, oEt] := S.zs [0, 2, 3]
 refine wd (Does.to (v' := .agg (Term.C (⟨5, ByteArray.empty, ByteArray.empty, 0, s14⟩ : Term)).toArray) (does_buildv (vs := [(0, .int .i64 5), (4, s14.v)]) bu_Term (consP rfl (consP rfl rfl)) (Bld.one rfl rfl (by rw [Term.len]; decide) (Term.set_kind _ _) (Bld.one rfl (SlV.one _ _ rfl) (by rw [Term.len]; decide) (Term.set_sub _ _) Bld.nil))) rfl) ?_
 refine wl_alloc ze_Term (by decide) fun b16 w15 hw15 => ?_
 replace S : St A N w w15 [oB b16 T_Term (Term.C (⟨0, ByteArray.empty, ByteArray.empty, 0, SlV.nil⟩ : Term)), oT a7 r4.1, oS T_Nd 4 Nd.C s3 ([{ Nd.z with kind := 1, name := (⟨#[112]⟩ : ByteArray) }, { Nd.z with kind := 1, name := (⟨#[113]⟩ : ByteArray) }, { Nd.z with kind := 3, l := 0, r := 1 }, { Nd.z with kind := 5, l := 2, r := 0 }, { Nd.z with kind := 2 }])] [oDTerm s14 ([r8]), oDTerm s11 r8.sub, oEt] := S.new hw15
 refine wl_store_agg ag_Term rfl rfl (S.blk 0) (Term.len _) (by rw [Term.len]; decide) (Term.one _) (store_all (Term.len _)) fun w17 B hw17 zw17 => ?_
 replace S : St A N w w17 [oB b16 T_Term (Term.C (⟨5, ByteArray.empty, ByteArray.empty, 0, s14⟩ : Term)), oT a7 r4.1, oS T_Nd 4 Nd.C s3 ([{ Nd.z with kind := 1, name := (⟨#[112]⟩ : ByteArray) }, { Nd.z with kind := 1, name := (⟨#[113]⟩ : ByteArray) }, { Nd.z with kind := 3, l := 0, r := 1 }, { Nd.z with kind := 5, l := 2, r := 0 }, { Nd.z with kind := 2 }])] [oDTerm s14 ([r8]), oDTerm s11 r8.sub, oEt] := S.store 0 B hw17
 clear B
 refine wl_nil ?_
 refine wc_seq (wc_region ?_)
 obtain ⟨r18, er18, H⟩ := bind_ex H
 obtain ⟨B20, MB20, SB20, back⟩ := S.sub [] [] [oB b16 T_Term (Term.C (⟨5, ByteArray.empty, ByteArray.empty, 0, s14⟩ : Term)), oT a7 r4.1, oS T_Nd 4 Nd.C s3 ([{ Nd.z with kind := 1, name := (⟨#[112]⟩ : ByteArray) }, { Nd.z with kind := 1, name := (⟨#[113]⟩ : ByteArray) }, { Nd.z with kind := 3, l := 0, r := 1 }, { Nd.z with kind := 5, l := 2, r := 0 }, { Nd.z with kind := 2 }])]
 refine wl_call (does_call ca_law13_v) (by decide) (law13_v_st SB20 er18) ?_
 rintro _ w19 ⟨s21, rfl, S2⟩
 replace S : St A N w w19 [oB b16 T_Term (Term.C (⟨5, ByteArray.empty, ByteArray.empty, 0, s14⟩ : Term)), oT a7 r4.1, oS T_Nd 4 Nd.C s3 ([{ Nd.z with kind := 1, name := (⟨#[112]⟩ : ByteArray) }, { Nd.z with kind := 1, name := (⟨#[113]⟩ : ByteArray) }, { Nd.z with kind := 3, l := 0, r := 1 }, { Nd.z with kind := 5, l := 2, r := 0 }, { Nd.z with kind := 2 }])] [oDTerm s21 r18.sub, oDTerm s14 ([r8]), oDTerm s11 r8.sub, oEt] := back _ _ _ _ _ S2 rfl rfl
 clear back S2 SB20
 refine wl_lits (C := Term.C) (l := [(⟨r18.kind, r18.name, r18.other, r18.form, s21⟩ : Term)]) (vs := [.agg (Term.C (⟨r18.kind, r18.name, r18.other, r18.form, s21⟩ : Term)).toArray]) sl_L_api_Term el_Term.zero rfl rfl (fun a _ => Term.len a) (by decide) rfl (by decide) fun b23 w22 s24 hBw22 hw22 => ?_
 replace S : St A N w w22 [oS T_Term 5 Term.C s24 ([(⟨r18.kind, r18.name, r18.other, r18.form, s21⟩ : Term)]), oB b16 T_Term (Term.C (⟨5, ByteArray.empty, ByteArray.empty, 0, s14⟩ : Term)), oT a7 r4.1, oS T_Nd 4 Nd.C s3 ([{ Nd.z with kind := 1, name := (⟨#[112]⟩ : ByteArray) }, { Nd.z with kind := 1, name := (⟨#[113]⟩ : ByteArray) }, { Nd.z with kind := 3, l := 0, r := 1 }, { Nd.z with kind := 5, l := 2, r := 0 }, { Nd.z with kind := 2 }])] [oDTerm s21 r18.sub, oDTerm s14 ([r8]), oDTerm s11 r8.sub, oEt] := S.lit hBw22 hw22 (by simp)
 replace S : St A N w w22 [oS T_Term 5 Term.C s24 ([(⟨r18.kind, r18.name, r18.other, r18.form, s21⟩ : Term)]), oB b16 T_Term (Term.C (⟨5, ByteArray.empty, ByteArray.empty, 0, s14⟩ : Term)), oT a7 r4.1, oS T_Nd 4 Nd.C s3 ([{ Nd.z with kind := 1, name := (⟨#[112]⟩ : ByteArray) }, { Nd.z with kind := 1, name := (⟨#[113]⟩ : ByteArray) }, { Nd.z with kind := 3, l := 0, r := 1 }, { Nd.z with kind := 5, l := 2, r := 0 }, { Nd.z with kind := 2 }])] [bigA fTerm ([] : List Term) ([] : List PTerm), oDTerm s21 r18.sub, oDTerm s14 ([r8]), oDTerm s11 r8.sub, oEt] := S.bigTm
 replace S : St A N w w22 [oS T_Term 5 Term.C s24 ([(⟨r18.kind, r18.name, r18.other, r18.form, s21⟩ : Term)]), oB b16 T_Term (Term.C (⟨5, ByteArray.empty, ByteArray.empty, 0, s14⟩ : Term)), oT a7 r4.1, oS T_Nd 4 Nd.C s3 ([{ Nd.z with kind := 1, name := (⟨#[112]⟩ : ByteArray) }, { Nd.z with kind := 1, name := (⟨#[113]⟩ : ByteArray) }, { Nd.z with kind := 3, l := 0, r := 1 }, { Nd.z with kind := 5, l := 2, r := 0 }, { Nd.z with kind := 2 }])] [bigA fTerm [(⟨r18.kind, r18.name, r18.other, r18.form, s21⟩ : Term)] [r18], oDTerm s21 r18.sub, oDTerm s14 ([r8]), oDTerm s11 r8.sub, oEt] := S.consTm (x := r18) 0
 replace S : St A N w w22 [oB b16 T_Term (Term.C (⟨5, ByteArray.empty, ByteArray.empty, 0, s14⟩ : Term)), oT a7 r4.1, oS T_Nd 4 Nd.C s3 ([{ Nd.z with kind := 1, name := (⟨#[112]⟩ : ByteArray) }, { Nd.z with kind := 1, name := (⟨#[113]⟩ : ByteArray) }, { Nd.z with kind := 3, l := 0, r := 1 }, { Nd.z with kind := 5, l := 2, r := 0 }, { Nd.z with kind := 2 }])] [oDTerm s24 ([r18]), bigA fTerm [(⟨r18.kind, r18.name, r18.other, r18.form, s21⟩ : Term)] [r18], oDTerm s21 r18.sub, oDTerm s14 ([r8]), oDTerm s11 r8.sub, oEt] := S.frzTm 0 0
 replace S : St A N w w22 [oB b16 T_Term (Term.C (⟨5, ByteArray.empty, ByteArray.empty, 0, s14⟩ : Term)), oT a7 r4.1, oS T_Nd 4 Nd.C s3 ([{ Nd.z with kind := 1, name := (⟨#[112]⟩ : ByteArray) }, { Nd.z with kind := 1, name := (⟨#[113]⟩ : ByteArray) }, { Nd.z with kind := 3, l := 0, r := 1 }, { Nd.z with kind := 5, l := 2, r := 0 }, { Nd.z with kind := 2 }])] [oDTerm s24 ([r18]), oDTerm s21 r18.sub, oDTerm s14 ([r8]), oDTerm s11 r8.sub, oEt] := S.zs [0, 2, 3, 4, 5]
 refine wd (Does.to (v' := .agg (Term.C (⟨6, ByteArray.empty, ByteArray.empty, 0, s24⟩ : Term)).toArray) (does_buildv (vs := [(0, .int .i64 6), (4, s24.v)]) bu_Term (consP rfl (consP rfl rfl)) (Bld.one rfl rfl (by rw [Term.len]; decide) (Term.set_kind _ _) (Bld.one rfl (SlV.one _ _ rfl) (by rw [Term.len]; decide) (Term.set_sub _ _) Bld.nil))) rfl) ?_
 refine wl_alloc ze_Term (by decide) fun b26 w25 hw25 => ?_
 replace S : St A N w w25 [oB b26 T_Term (Term.C (⟨0, ByteArray.empty, ByteArray.empty, 0, SlV.nil⟩ : Term)), oB b16 T_Term (Term.C (⟨5, ByteArray.empty, ByteArray.empty, 0, s14⟩ : Term)), oT a7 r4.1, oS T_Nd 4 Nd.C s3 ([{ Nd.z with kind := 1, name := (⟨#[112]⟩ : ByteArray) }, { Nd.z with kind := 1, name := (⟨#[113]⟩ : ByteArray) }, { Nd.z with kind := 3, l := 0, r := 1 }, { Nd.z with kind := 5, l := 2, r := 0 }, { Nd.z with kind := 2 }])] [oDTerm s24 ([r18]), oDTerm s21 r18.sub, oDTerm s14 ([r8]), oDTerm s11 r8.sub, oEt] := S.new hw25
 refine wl_store_agg ag_Term rfl rfl (S.blk 0) (Term.len _) (by rw [Term.len]; decide) (Term.one _) (store_all (Term.len _)) fun w27 B hw27 zw27 => ?_
 replace S : St A N w w27 [oB b26 T_Term (Term.C (⟨6, ByteArray.empty, ByteArray.empty, 0, s24⟩ : Term)), oB b16 T_Term (Term.C (⟨5, ByteArray.empty, ByteArray.empty, 0, s14⟩ : Term)), oT a7 r4.1, oS T_Nd 4 Nd.C s3 ([{ Nd.z with kind := 1, name := (⟨#[112]⟩ : ByteArray) }, { Nd.z with kind := 1, name := (⟨#[113]⟩ : ByteArray) }, { Nd.z with kind := 3, l := 0, r := 1 }, { Nd.z with kind := 5, l := 2, r := 0 }, { Nd.z with kind := 2 }])] [oDTerm s24 ([r18]), oDTerm s21 r18.sub, oDTerm s14 ([r8]), oDTerm s11 r8.sub, oEt] := S.store 0 B hw27
 clear B
 refine wl_nil ?_
 refine wc_seq (wc_region ?_)
 refine wd (does_mv_p rfl) ?_
 refine wd (does_load_agg ag_Term rfl ((S.blk 1).all _ (Term.len _)) (Term.len _)) ?_
 refine wl_lits (C := Term.C) (l := [(⟨5, ByteArray.empty, ByteArray.empty, 0, s14⟩ : Term)]) (vs := [.agg (Term.C (⟨5, ByteArray.empty, ByteArray.empty, 0, s14⟩ : Term)).toArray]) sl_L_api_Term el_Term.zero rfl rfl (fun a _ => Term.len a) (by decide) rfl (by decide) fun b29 w28 s30 hBw28 hw28 => ?_
 replace S : St A N w w28 [oS T_Term 5 Term.C s30 ([(⟨5, ByteArray.empty, ByteArray.empty, 0, s14⟩ : Term)]), oB b26 T_Term (Term.C (⟨6, ByteArray.empty, ByteArray.empty, 0, s24⟩ : Term)), oB b16 T_Term (Term.C (⟨5, ByteArray.empty, ByteArray.empty, 0, s14⟩ : Term)), oT a7 r4.1, oS T_Nd 4 Nd.C s3 ([{ Nd.z with kind := 1, name := (⟨#[112]⟩ : ByteArray) }, { Nd.z with kind := 1, name := (⟨#[113]⟩ : ByteArray) }, { Nd.z with kind := 3, l := 0, r := 1 }, { Nd.z with kind := 5, l := 2, r := 0 }, { Nd.z with kind := 2 }])] [oDTerm s24 ([r18]), oDTerm s21 r18.sub, oDTerm s14 ([r8]), oDTerm s11 r8.sub, oEt] := S.lit hBw28 hw28 (by simp)
 replace S : St A N w w28 [oS T_Term 5 Term.C s30 ([(⟨5, ByteArray.empty, ByteArray.empty, 0, s14⟩ : Term)]), oB b26 T_Term (Term.C (⟨6, ByteArray.empty, ByteArray.empty, 0, s24⟩ : Term)), oB b16 T_Term (Term.C (⟨5, ByteArray.empty, ByteArray.empty, 0, s14⟩ : Term)), oT a7 r4.1, oS T_Nd 4 Nd.C s3 ([{ Nd.z with kind := 1, name := (⟨#[112]⟩ : ByteArray) }, { Nd.z with kind := 1, name := (⟨#[113]⟩ : ByteArray) }, { Nd.z with kind := 3, l := 0, r := 1 }, { Nd.z with kind := 5, l := 2, r := 0 }, { Nd.z with kind := 2 }])] [bigA fTerm ([] : List Term) ([] : List PTerm), oDTerm s24 ([r18]), oDTerm s21 r18.sub, oDTerm s14 ([r8]), oDTerm s11 r8.sub, oEt] := S.bigTm
 replace S : St A N w w28 [oS T_Term 5 Term.C s30 ([(⟨5, ByteArray.empty, ByteArray.empty, 0, s14⟩ : Term)]), oB b26 T_Term (Term.C (⟨6, ByteArray.empty, ByteArray.empty, 0, s24⟩ : Term)), oB b16 T_Term (Term.C (⟨5, ByteArray.empty, ByteArray.empty, 0, s14⟩ : Term)), oT a7 r4.1, oS T_Nd 4 Nd.C s3 ([{ Nd.z with kind := 1, name := (⟨#[112]⟩ : ByteArray) }, { Nd.z with kind := 1, name := (⟨#[113]⟩ : ByteArray) }, { Nd.z with kind := 3, l := 0, r := 1 }, { Nd.z with kind := 5, l := 2, r := 0 }, { Nd.z with kind := 2 }])] [bigA fTerm [(⟨5, ByteArray.empty, ByteArray.empty, 0, s14⟩ : Term)] [(⟨5, ByteArray.empty, ByteArray.empty, 0, [r8]⟩ : PTerm)], oDTerm s24 ([r18]), oDTerm s21 r18.sub, oDTerm s14 ([r8]), oDTerm s11 r8.sub, oEt] := S.consTm (x := (⟨5, ByteArray.empty, ByteArray.empty, 0, [r8]⟩ : PTerm)) 2
 replace S : St A N w w28 [oB b26 T_Term (Term.C (⟨6, ByteArray.empty, ByteArray.empty, 0, s24⟩ : Term)), oB b16 T_Term (Term.C (⟨5, ByteArray.empty, ByteArray.empty, 0, s14⟩ : Term)), oT a7 r4.1, oS T_Nd 4 Nd.C s3 ([{ Nd.z with kind := 1, name := (⟨#[112]⟩ : ByteArray) }, { Nd.z with kind := 1, name := (⟨#[113]⟩ : ByteArray) }, { Nd.z with kind := 3, l := 0, r := 1 }, { Nd.z with kind := 5, l := 2, r := 0 }, { Nd.z with kind := 2 }])] [oDTerm s30 ([(⟨5, ByteArray.empty, ByteArray.empty, 0, [r8]⟩ : PTerm)]), bigA fTerm [(⟨5, ByteArray.empty, ByteArray.empty, 0, s14⟩ : Term)] [(⟨5, ByteArray.empty, ByteArray.empty, 0, [r8]⟩ : PTerm)], oDTerm s24 ([r18]), oDTerm s21 r18.sub, oDTerm s14 ([r8]), oDTerm s11 r8.sub, oEt] := S.frzTm 0 0
 replace S : St A N w w28 [oB b26 T_Term (Term.C (⟨6, ByteArray.empty, ByteArray.empty, 0, s24⟩ : Term)), oB b16 T_Term (Term.C (⟨5, ByteArray.empty, ByteArray.empty, 0, s14⟩ : Term)), oT a7 r4.1, oS T_Nd 4 Nd.C s3 ([{ Nd.z with kind := 1, name := (⟨#[112]⟩ : ByteArray) }, { Nd.z with kind := 1, name := (⟨#[113]⟩ : ByteArray) }, { Nd.z with kind := 3, l := 0, r := 1 }, { Nd.z with kind := 5, l := 2, r := 0 }, { Nd.z with kind := 2 }])] [oDTerm s30 ([(⟨5, ByteArray.empty, ByteArray.empty, 0, [r8]⟩ : PTerm)]), oDTerm s24 ([r18]), oDTerm s21 r18.sub, oDTerm s14 ([r8]), oDTerm s11 r8.sub, oEt] := S.zs [0, 2, 3, 4, 5, 6]
 refine wd (Does.to (v' := .agg (Term.C (⟨2, (⟨#[120]⟩ : ByteArray), ByteArray.empty, 0, s30⟩ : Term)).toArray) (does_buildv (vs := [(0, .int .i64 2), (1, .string (⟨#[120]⟩ : ByteArray)), (4, s30.v)]) bu_Term (consP rfl (consP rfl (consP rfl rfl))) (Bld.one rfl rfl (by rw [Term.len]; decide) (Term.set_kind _ _) (Bld.one rfl rfl (by rw [Term.len]; decide) (Term.set_name _ _) (Bld.one rfl (SlV.one _ _ rfl) (by rw [Term.len]; decide) (Term.set_sub _ _) Bld.nil)))) rfl) ?_
 replace S : St A N w w28 [oB b26 T_Term (Term.C (⟨6, ByteArray.empty, ByteArray.empty, 0, s24⟩ : Term)), oB b16 T_Term (Term.C (⟨5, ByteArray.empty, ByteArray.empty, 0, s14⟩ : Term)), oT a7 r4.1, oS T_Nd 4 Nd.C s3 ([{ Nd.z with kind := 1, name := (⟨#[112]⟩ : ByteArray) }, { Nd.z with kind := 1, name := (⟨#[113]⟩ : ByteArray) }, { Nd.z with kind := 3, l := 0, r := 1 }, { Nd.z with kind := 5, l := 2, r := 0 }, { Nd.z with kind := 2 }])] [fS 2 Hyp.C SlV.nil ([]), oDTerm s30 ([(⟨5, ByteArray.empty, ByteArray.empty, 0, [r8]⟩ : PTerm)]), oDTerm s24 ([r18]), oDTerm s21 r18.sub, oDTerm s14 ([r8]), oDTerm s11 r8.sub, oEt] := S.nilZ 2 Hyp.C
 obtain ⟨r31, er31, H⟩ := bind_ex H
 obtain ⟨B33, MB33, SB33, back⟩ := S.calln 0 ((.o 2 rfl (.z 0 rfl (.z 1 rfl (.z 6 rfl .nil)))))
 refine wl_call (does_callg ca_types_Check (cons2 rfl (cons2 SlV.nil_eq (cons2 rfl (cons2 rfl rfl))))) (by decide) (types_Check_st (a2 := (⟨2, (⟨#[120]⟩ : ByteArray), ByteArray.empty, 0, [(⟨5, ByteArray.empty, ByteArray.empty, 0, [r8]⟩ : PTerm)]⟩ : PTerm)) SB33 er31) ?_
 rintro _ w32 ⟨rfl, S2⟩
 replace S : St A N w w32 [oB b26 T_Term (Term.C (⟨6, ByteArray.empty, ByteArray.empty, 0, s24⟩ : Term)), oB b16 T_Term (Term.C (⟨5, ByteArray.empty, ByteArray.empty, 0, s14⟩ : Term)), oT a7 r4.1, oS T_Nd 4 Nd.C s3 ([{ Nd.z with kind := 1, name := (⟨#[112]⟩ : ByteArray) }, { Nd.z with kind := 1, name := (⟨#[113]⟩ : ByteArray) }, { Nd.z with kind := 3, l := 0, r := 1 }, { Nd.z with kind := 5, l := 2, r := 0 }, { Nd.z with kind := 2 }])] [fS 2 Hyp.C SlV.nil ([]), oDTerm s30 ([(⟨5, ByteArray.empty, ByteArray.empty, 0, [r8]⟩ : PTerm)]), oDTerm s24 ([r18]), oDTerm s21 r18.sub, oDTerm s14 ([r8]), oDTerm s11 r8.sub, oEt] := back _ _ _ _ S2 rfl
 clear back S2 SB33
 refine wd (does_as_i rfl) ?_
 refine wl_nil ?_
 refine wc_seq (wc_region ?_)
 refine wd (does_mv_p rfl) ?_
 refine wd (does_load_agg ag_Term rfl ((S.blk 0).all _ (Term.len _)) (Term.len _)) ?_
 refine wl_lits (C := Term.C) (l := [(⟨6, ByteArray.empty, ByteArray.empty, 0, s24⟩ : Term)]) (vs := [.agg (Term.C (⟨6, ByteArray.empty, ByteArray.empty, 0, s24⟩ : Term)).toArray]) sl_L_api_Term el_Term.zero rfl rfl (fun a _ => Term.len a) (by decide) rfl (by decide) fun b35 w34 s36 hBw34 hw34 => ?_
 replace S : St A N w w34 [oS T_Term 5 Term.C s36 ([(⟨6, ByteArray.empty, ByteArray.empty, 0, s24⟩ : Term)]), oB b26 T_Term (Term.C (⟨6, ByteArray.empty, ByteArray.empty, 0, s24⟩ : Term)), oB b16 T_Term (Term.C (⟨5, ByteArray.empty, ByteArray.empty, 0, s14⟩ : Term)), oT a7 r4.1, oS T_Nd 4 Nd.C s3 ([{ Nd.z with kind := 1, name := (⟨#[112]⟩ : ByteArray) }, { Nd.z with kind := 1, name := (⟨#[113]⟩ : ByteArray) }, { Nd.z with kind := 3, l := 0, r := 1 }, { Nd.z with kind := 5, l := 2, r := 0 }, { Nd.z with kind := 2 }])] [fS 2 Hyp.C SlV.nil ([]), oDTerm s30 ([(⟨5, ByteArray.empty, ByteArray.empty, 0, [r8]⟩ : PTerm)]), oDTerm s24 ([r18]), oDTerm s21 r18.sub, oDTerm s14 ([r8]), oDTerm s11 r8.sub, oEt] := S.lit hBw34 hw34 (by simp)
 replace S : St A N w w34 [oS T_Term 5 Term.C s36 ([(⟨6, ByteArray.empty, ByteArray.empty, 0, s24⟩ : Term)]), oB b26 T_Term (Term.C (⟨6, ByteArray.empty, ByteArray.empty, 0, s24⟩ : Term)), oB b16 T_Term (Term.C (⟨5, ByteArray.empty, ByteArray.empty, 0, s14⟩ : Term)), oT a7 r4.1, oS T_Nd 4 Nd.C s3 ([{ Nd.z with kind := 1, name := (⟨#[112]⟩ : ByteArray) }, { Nd.z with kind := 1, name := (⟨#[113]⟩ : ByteArray) }, { Nd.z with kind := 3, l := 0, r := 1 }, { Nd.z with kind := 5, l := 2, r := 0 }, { Nd.z with kind := 2 }])] [bigA fTerm ([] : List Term) ([] : List PTerm), fS 2 Hyp.C SlV.nil ([]), oDTerm s30 ([(⟨5, ByteArray.empty, ByteArray.empty, 0, [r8]⟩ : PTerm)]), oDTerm s24 ([r18]), oDTerm s21 r18.sub, oDTerm s14 ([r8]), oDTerm s11 r8.sub, oEt] := S.bigTm
 replace S : St A N w w34 [oS T_Term 5 Term.C s36 ([(⟨6, ByteArray.empty, ByteArray.empty, 0, s24⟩ : Term)]), oB b26 T_Term (Term.C (⟨6, ByteArray.empty, ByteArray.empty, 0, s24⟩ : Term)), oB b16 T_Term (Term.C (⟨5, ByteArray.empty, ByteArray.empty, 0, s14⟩ : Term)), oT a7 r4.1, oS T_Nd 4 Nd.C s3 ([{ Nd.z with kind := 1, name := (⟨#[112]⟩ : ByteArray) }, { Nd.z with kind := 1, name := (⟨#[113]⟩ : ByteArray) }, { Nd.z with kind := 3, l := 0, r := 1 }, { Nd.z with kind := 5, l := 2, r := 0 }, { Nd.z with kind := 2 }])] [bigA fTerm [(⟨6, ByteArray.empty, ByteArray.empty, 0, s24⟩ : Term)] [(⟨6, ByteArray.empty, ByteArray.empty, 0, [r18]⟩ : PTerm)], fS 2 Hyp.C SlV.nil ([]), oDTerm s30 ([(⟨5, ByteArray.empty, ByteArray.empty, 0, [r8]⟩ : PTerm)]), oDTerm s24 ([r18]), oDTerm s21 r18.sub, oDTerm s14 ([r8]), oDTerm s11 r8.sub, oEt] := S.consTm (x := (⟨6, ByteArray.empty, ByteArray.empty, 0, [r18]⟩ : PTerm)) 2
 replace S : St A N w w34 [oB b26 T_Term (Term.C (⟨6, ByteArray.empty, ByteArray.empty, 0, s24⟩ : Term)), oB b16 T_Term (Term.C (⟨5, ByteArray.empty, ByteArray.empty, 0, s14⟩ : Term)), oT a7 r4.1, oS T_Nd 4 Nd.C s3 ([{ Nd.z with kind := 1, name := (⟨#[112]⟩ : ByteArray) }, { Nd.z with kind := 1, name := (⟨#[113]⟩ : ByteArray) }, { Nd.z with kind := 3, l := 0, r := 1 }, { Nd.z with kind := 5, l := 2, r := 0 }, { Nd.z with kind := 2 }])] [oDTerm s36 ([(⟨6, ByteArray.empty, ByteArray.empty, 0, [r18]⟩ : PTerm)]), bigA fTerm [(⟨6, ByteArray.empty, ByteArray.empty, 0, s24⟩ : Term)] [(⟨6, ByteArray.empty, ByteArray.empty, 0, [r18]⟩ : PTerm)], fS 2 Hyp.C SlV.nil ([]), oDTerm s30 ([(⟨5, ByteArray.empty, ByteArray.empty, 0, [r8]⟩ : PTerm)]), oDTerm s24 ([r18]), oDTerm s21 r18.sub, oDTerm s14 ([r8]), oDTerm s11 r8.sub, oEt] := S.frzTm 0 0
 replace S : St A N w w34 [oB b26 T_Term (Term.C (⟨6, ByteArray.empty, ByteArray.empty, 0, s24⟩ : Term)), oB b16 T_Term (Term.C (⟨5, ByteArray.empty, ByteArray.empty, 0, s14⟩ : Term)), oT a7 r4.1, oS T_Nd 4 Nd.C s3 ([{ Nd.z with kind := 1, name := (⟨#[112]⟩ : ByteArray) }, { Nd.z with kind := 1, name := (⟨#[113]⟩ : ByteArray) }, { Nd.z with kind := 3, l := 0, r := 1 }, { Nd.z with kind := 5, l := 2, r := 0 }, { Nd.z with kind := 2 }])] [oDTerm s36 ([(⟨6, ByteArray.empty, ByteArray.empty, 0, [r18]⟩ : PTerm)]), fS 2 Hyp.C SlV.nil ([]), oDTerm s30 ([(⟨5, ByteArray.empty, ByteArray.empty, 0, [r8]⟩ : PTerm)]), oDTerm s24 ([r18]), oDTerm s21 r18.sub, oDTerm s14 ([r8]), oDTerm s11 r8.sub, oEt] := S.zs [0, 2, 3, 4, 5, 6, 7, 8]
 refine wd (Does.to (v' := .agg (Term.C (⟨2, (⟨#[120]⟩ : ByteArray), ByteArray.empty, 0, s36⟩ : Term)).toArray) (does_buildv (vs := [(0, .int .i64 2), (1, .string (⟨#[120]⟩ : ByteArray)), (4, s36.v)]) bu_Term (consP rfl (consP rfl (consP rfl rfl))) (Bld.one rfl rfl (by rw [Term.len]; decide) (Term.set_kind _ _) (Bld.one rfl rfl (by rw [Term.len]; decide) (Term.set_name _ _) (Bld.one rfl (SlV.one _ _ rfl) (by rw [Term.len]; decide) (Term.set_sub _ _) Bld.nil)))) rfl) ?_
 replace S : St A N w w34 [oB b26 T_Term (Term.C (⟨6, ByteArray.empty, ByteArray.empty, 0, s24⟩ : Term)), oB b16 T_Term (Term.C (⟨5, ByteArray.empty, ByteArray.empty, 0, s14⟩ : Term)), oT a7 r4.1, oS T_Nd 4 Nd.C s3 ([{ Nd.z with kind := 1, name := (⟨#[112]⟩ : ByteArray) }, { Nd.z with kind := 1, name := (⟨#[113]⟩ : ByteArray) }, { Nd.z with kind := 3, l := 0, r := 1 }, { Nd.z with kind := 5, l := 2, r := 0 }, { Nd.z with kind := 2 }])] [fS 2 Hyp.C SlV.nil ([]), oDTerm s36 ([(⟨6, ByteArray.empty, ByteArray.empty, 0, [r18]⟩ : PTerm)]), fS 2 Hyp.C SlV.nil ([]), oDTerm s30 ([(⟨5, ByteArray.empty, ByteArray.empty, 0, [r8]⟩ : PTerm)]), oDTerm s24 ([r18]), oDTerm s21 r18.sub, oDTerm s14 ([r8]), oDTerm s11 r8.sub, oEt] := S.nilZ 2 Hyp.C
 obtain ⟨r37, er37, H⟩ := bind_ex H
 obtain ⟨B39, MB39, SB39, back⟩ := S.calln 0 ((.o 2 rfl (.z 0 rfl (.z 1 rfl (.z 8 rfl .nil)))))
 refine wl_call (does_callg ca_types_Where (cons2 rfl (cons2 SlV.nil_eq (cons2 rfl (cons2 rfl rfl))))) (by decide) (types_Where_st (a2 := (⟨2, (⟨#[120]⟩ : ByteArray), ByteArray.empty, 0, [(⟨6, ByteArray.empty, ByteArray.empty, 0, [r18]⟩ : PTerm)]⟩ : PTerm)) SB39 er37) ?_
 rintro _ w38 ⟨s40, rfl, S2⟩
 replace S : St A N w w38 [oS T_int 1 IC s40 r37.1, oB b26 T_Term (Term.C (⟨6, ByteArray.empty, ByteArray.empty, 0, s24⟩ : Term)), oB b16 T_Term (Term.C (⟨5, ByteArray.empty, ByteArray.empty, 0, s14⟩ : Term)), oT a7 r4.1, oS T_Nd 4 Nd.C s3 ([{ Nd.z with kind := 1, name := (⟨#[112]⟩ : ByteArray) }, { Nd.z with kind := 1, name := (⟨#[113]⟩ : ByteArray) }, { Nd.z with kind := 3, l := 0, r := 1 }, { Nd.z with kind := 5, l := 2, r := 0 }, { Nd.z with kind := 2 }])] [fS 2 Hyp.C SlV.nil ([]), oDTerm s36 ([(⟨6, ByteArray.empty, ByteArray.empty, 0, [r18]⟩ : PTerm)]), fS 2 Hyp.C SlV.nil ([]), oDTerm s30 ([(⟨5, ByteArray.empty, ByteArray.empty, 0, [r8]⟩ : PTerm)]), oDTerm s24 ([r18]), oDTerm s21 r18.sub, oDTerm s14 ([r8]), oDTerm s11 r8.sub, oEt] := back _ _ _ _ S2 rfl
 clear back S2 SB39
 refine wd (does_mv_t rfl) ?_
 refine wd (does_extract rfl rfl) ?_
 refine wd (does_extract rfl rfl) ?_
 refine wd (does_as_l rfl) ?_
 refine wd (does_as_i rfl) ?_
 refine wl_nil ?_
 refine wc_seq (wc_region ?_)
 refine wd (does_mv_p rfl) ?_
 refine wd (does_build bu_Hyp (Bld.one rfl rfl (by rw [Hyp.len]; decide) (Hyp.set_name _ _) (Bld.one rfl rfl (by rw [Hyp.len]; decide) (Hyp.set_form _ _) Bld.nil))) ?_
 refine wl_lits (C := Hyp.C) (l := [(⟨(⟨#[120]⟩ : ByteArray), 2⟩ : Hyp)]) (vs := [.agg (Hyp.C (⟨(⟨#[120]⟩ : ByteArray), 2⟩ : Hyp)).toArray]) sl_L_api_Hyp el_Hyp.zero rfl rfl (fun a _ => Hyp.len a) (by decide) rfl (by decide) fun b42 w41 s43 hBw41 hw41 => ?_
 replace S : St A N w w41 [oS T_Hyp 2 Hyp.C s43 ([(⟨(⟨#[120]⟩ : ByteArray), 2⟩ : Hyp)]), oS T_int 1 IC s40 r37.1, oB b26 T_Term (Term.C (⟨6, ByteArray.empty, ByteArray.empty, 0, s24⟩ : Term)), oB b16 T_Term (Term.C (⟨5, ByteArray.empty, ByteArray.empty, 0, s14⟩ : Term)), oT a7 r4.1, oS T_Nd 4 Nd.C s3 ([{ Nd.z with kind := 1, name := (⟨#[112]⟩ : ByteArray) }, { Nd.z with kind := 1, name := (⟨#[113]⟩ : ByteArray) }, { Nd.z with kind := 3, l := 0, r := 1 }, { Nd.z with kind := 5, l := 2, r := 0 }, { Nd.z with kind := 2 }])] [fS 2 Hyp.C SlV.nil ([]), oDTerm s36 ([(⟨6, ByteArray.empty, ByteArray.empty, 0, [r18]⟩ : PTerm)]), fS 2 Hyp.C SlV.nil ([]), oDTerm s30 ([(⟨5, ByteArray.empty, ByteArray.empty, 0, [r8]⟩ : PTerm)]), oDTerm s24 ([r18]), oDTerm s21 r18.sub, oDTerm s14 ([r8]), oDTerm s11 r8.sub, oEt] := S.lit hBw41 hw41 (by simp)
 refine wd (does_load_agg ag_Term rfl ((S.blk 2).all _ (Term.len _)) (Term.len _)) ?_
 obtain ⟨r44, er44, H⟩ := bind_ex H
 obtain ⟨B46, MB46, SB46, back⟩ := S.calln 0 ((.o 4 rfl (.s 0 rfl (.z 4 rfl (.z 8 rfl .nil)))))
 refine wl_call (does_call ca_types_Infer) (by decide) (types_Infer_st (a2 := (⟨6, ByteArray.empty, ByteArray.empty, 0, [r18]⟩ : PTerm)) SB46 er44) ?_
 rintro _ w45 ⟨rfl, S2⟩
 replace S : St A N w w45 [oS T_Hyp 2 Hyp.C s43 ([(⟨(⟨#[120]⟩ : ByteArray), 2⟩ : Hyp)]), oS T_int 1 IC s40 r37.1, oB b26 T_Term (Term.C (⟨6, ByteArray.empty, ByteArray.empty, 0, s24⟩ : Term)), oB b16 T_Term (Term.C (⟨5, ByteArray.empty, ByteArray.empty, 0, s14⟩ : Term)), oT a7 r4.1, oS T_Nd 4 Nd.C s3 ([{ Nd.z with kind := 1, name := (⟨#[112]⟩ : ByteArray) }, { Nd.z with kind := 1, name := (⟨#[113]⟩ : ByteArray) }, { Nd.z with kind := 3, l := 0, r := 1 }, { Nd.z with kind := 5, l := 2, r := 0 }, { Nd.z with kind := 2 }])] [fS 2 Hyp.C SlV.nil ([]), oDTerm s36 ([(⟨6, ByteArray.empty, ByteArray.empty, 0, [r18]⟩ : PTerm)]), fS 2 Hyp.C SlV.nil ([]), oDTerm s30 ([(⟨5, ByteArray.empty, ByteArray.empty, 0, [r8]⟩ : PTerm)]), oDTerm s24 ([r18]), oDTerm s21 r18.sub, oDTerm s14 ([r8]), oDTerm s11 r8.sub, oEt] := back _ _ _ _ S2 rfl
 clear back S2 SB46
 refine wd (does_mv_t rfl) ?_
 refine wd (does_extract rfl rfl) ?_
 refine wd (does_extract rfl rfl) ?_
 refine wd (does_as_i rfl) ?_
 refine wd (does_as_i rfl) ?_
 refine wl_nil ?_
 refine wc_seq (wc_region ?_)
 refine wd (does_mv_p rfl) ?_
 obtain ⟨r47, er47, H⟩ := bind_ex H
 obtain ⟨B49, MB49, SB49, back⟩ := S.sub [] [] [oS T_Hyp 2 Hyp.C s43 ([(⟨(⟨#[120]⟩ : ByteArray), 2⟩ : Hyp)]), oS T_int 1 IC s40 r37.1, oB b26 T_Term (Term.C (⟨6, ByteArray.empty, ByteArray.empty, 0, s24⟩ : Term)), oB b16 T_Term (Term.C (⟨5, ByteArray.empty, ByteArray.empty, 0, s14⟩ : Term)), oT a7 r4.1, oS T_Nd 4 Nd.C s3 ([{ Nd.z with kind := 1, name := (⟨#[112]⟩ : ByteArray) }, { Nd.z with kind := 1, name := (⟨#[113]⟩ : ByteArray) }, { Nd.z with kind := 3, l := 0, r := 1 }, { Nd.z with kind := 5, l := 2, r := 0 }, { Nd.z with kind := 2 }])]
 refine wl_call (does_call ca_law13_v) (by decide) (law13_v_st SB49 er47) ?_
 rintro _ w48 ⟨s50, rfl, S2⟩
 replace S : St A N w w48 [oS T_Hyp 2 Hyp.C s43 ([(⟨(⟨#[120]⟩ : ByteArray), 2⟩ : Hyp)]), oS T_int 1 IC s40 r37.1, oB b26 T_Term (Term.C (⟨6, ByteArray.empty, ByteArray.empty, 0, s24⟩ : Term)), oB b16 T_Term (Term.C (⟨5, ByteArray.empty, ByteArray.empty, 0, s14⟩ : Term)), oT a7 r4.1, oS T_Nd 4 Nd.C s3 ([{ Nd.z with kind := 1, name := (⟨#[112]⟩ : ByteArray) }, { Nd.z with kind := 1, name := (⟨#[113]⟩ : ByteArray) }, { Nd.z with kind := 3, l := 0, r := 1 }, { Nd.z with kind := 5, l := 2, r := 0 }, { Nd.z with kind := 2 }])] [oDTerm s50 r47.sub, fS 2 Hyp.C SlV.nil ([]), oDTerm s36 ([(⟨6, ByteArray.empty, ByteArray.empty, 0, [r18]⟩ : PTerm)]), fS 2 Hyp.C SlV.nil ([]), oDTerm s30 ([(⟨5, ByteArray.empty, ByteArray.empty, 0, [r8]⟩ : PTerm)]), oDTerm s24 ([r18]), oDTerm s21 r18.sub, oDTerm s14 ([r8]), oDTerm s11 r8.sub, oEt] := back _ _ _ _ _ S2 rfl rfl
 clear back S2 SB49
 replace S : St A N w w48 [oS T_Hyp 2 Hyp.C s43 ([(⟨(⟨#[120]⟩ : ByteArray), 2⟩ : Hyp)]), oS T_int 1 IC s40 r37.1, oB b26 T_Term (Term.C (⟨6, ByteArray.empty, ByteArray.empty, 0, s24⟩ : Term)), oB b16 T_Term (Term.C (⟨5, ByteArray.empty, ByteArray.empty, 0, s14⟩ : Term)), oT a7 r4.1, oS T_Nd 4 Nd.C s3 ([{ Nd.z with kind := 1, name := (⟨#[112]⟩ : ByteArray) }, { Nd.z with kind := 1, name := (⟨#[113]⟩ : ByteArray) }, { Nd.z with kind := 3, l := 0, r := 1 }, { Nd.z with kind := 5, l := 2, r := 0 }, { Nd.z with kind := 2 }])] [fS 2 Hyp.C SlV.nil ([]), oDTerm s50 r47.sub, fS 2 Hyp.C SlV.nil ([]), oDTerm s36 ([(⟨6, ByteArray.empty, ByteArray.empty, 0, [r18]⟩ : PTerm)]), fS 2 Hyp.C SlV.nil ([]), oDTerm s30 ([(⟨5, ByteArray.empty, ByteArray.empty, 0, [r8]⟩ : PTerm)]), oDTerm s24 ([r18]), oDTerm s21 r18.sub, oDTerm s14 ([r8]), oDTerm s11 r8.sub, oEt] := S.nilZ 2 Hyp.C
 obtain ⟨r51, er51, H⟩ := bind_ex H
 obtain ⟨B53, MB53, SB53, back⟩ := S.calln 0 ((.o 4 rfl (.z 0 rfl (.z 1 rfl (.z 10 rfl .nil)))))
 refine wl_call (does_callg ca_types_Infer (cons2 rfl (cons2 SlV.nil_eq (cons2 rfl rfl)))) (by decide) (types_Infer_st (a2 := r47) SB53 er51) ?_
 rintro _ w52 ⟨rfl, S2⟩
 replace S : St A N w w52 [oS T_Hyp 2 Hyp.C s43 ([(⟨(⟨#[120]⟩ : ByteArray), 2⟩ : Hyp)]), oS T_int 1 IC s40 r37.1, oB b26 T_Term (Term.C (⟨6, ByteArray.empty, ByteArray.empty, 0, s24⟩ : Term)), oB b16 T_Term (Term.C (⟨5, ByteArray.empty, ByteArray.empty, 0, s14⟩ : Term)), oT a7 r4.1, oS T_Nd 4 Nd.C s3 ([{ Nd.z with kind := 1, name := (⟨#[112]⟩ : ByteArray) }, { Nd.z with kind := 1, name := (⟨#[113]⟩ : ByteArray) }, { Nd.z with kind := 3, l := 0, r := 1 }, { Nd.z with kind := 5, l := 2, r := 0 }, { Nd.z with kind := 2 }])] [fS 2 Hyp.C SlV.nil ([]), oDTerm s50 r47.sub, fS 2 Hyp.C SlV.nil ([]), oDTerm s36 ([(⟨6, ByteArray.empty, ByteArray.empty, 0, [r18]⟩ : PTerm)]), fS 2 Hyp.C SlV.nil ([]), oDTerm s30 ([(⟨5, ByteArray.empty, ByteArray.empty, 0, [r8]⟩ : PTerm)]), oDTerm s24 ([r18]), oDTerm s21 r18.sub, oDTerm s14 ([r8]), oDTerm s11 r8.sub, oEt] := back _ _ _ _ S2 rfl
 clear back S2 SB53
 refine wd (does_mv_t rfl) ?_
 refine wd (does_extract rfl rfl) ?_
 refine wd (does_extract rfl rfl) ?_
 refine wd (does_as_i rfl) ?_
 refine wd (does_as_i rfl) ?_
 refine wl_nil ?_
 refine wc_seq (wc_region ?_)
 refine wd (does_mv_p rfl) ?_
 obtain ⟨r54, er54, H⟩ := bind_ex H
 obtain ⟨B56, MB56, SB56, back⟩ := S.sub [] [] [oS T_Hyp 2 Hyp.C s43 ([(⟨(⟨#[120]⟩ : ByteArray), 2⟩ : Hyp)]), oS T_int 1 IC s40 r37.1, oB b26 T_Term (Term.C (⟨6, ByteArray.empty, ByteArray.empty, 0, s24⟩ : Term)), oB b16 T_Term (Term.C (⟨5, ByteArray.empty, ByteArray.empty, 0, s14⟩ : Term)), oT a7 r4.1, oS T_Nd 4 Nd.C s3 ([{ Nd.z with kind := 1, name := (⟨#[112]⟩ : ByteArray) }, { Nd.z with kind := 1, name := (⟨#[113]⟩ : ByteArray) }, { Nd.z with kind := 3, l := 0, r := 1 }, { Nd.z with kind := 5, l := 2, r := 0 }, { Nd.z with kind := 2 }])]
 refine wl_call (does_call ca_law13_v) (by decide) (law13_v_st SB56 er54) ?_
 rintro _ w55 ⟨s57, rfl, S2⟩
 replace S : St A N w w55 [oS T_Hyp 2 Hyp.C s43 ([(⟨(⟨#[120]⟩ : ByteArray), 2⟩ : Hyp)]), oS T_int 1 IC s40 r37.1, oB b26 T_Term (Term.C (⟨6, ByteArray.empty, ByteArray.empty, 0, s24⟩ : Term)), oB b16 T_Term (Term.C (⟨5, ByteArray.empty, ByteArray.empty, 0, s14⟩ : Term)), oT a7 r4.1, oS T_Nd 4 Nd.C s3 ([{ Nd.z with kind := 1, name := (⟨#[112]⟩ : ByteArray) }, { Nd.z with kind := 1, name := (⟨#[113]⟩ : ByteArray) }, { Nd.z with kind := 3, l := 0, r := 1 }, { Nd.z with kind := 5, l := 2, r := 0 }, { Nd.z with kind := 2 }])] [oDTerm s57 r54.sub, fS 2 Hyp.C SlV.nil ([]), oDTerm s50 r47.sub, fS 2 Hyp.C SlV.nil ([]), oDTerm s36 ([(⟨6, ByteArray.empty, ByteArray.empty, 0, [r18]⟩ : PTerm)]), fS 2 Hyp.C SlV.nil ([]), oDTerm s30 ([(⟨5, ByteArray.empty, ByteArray.empty, 0, [r8]⟩ : PTerm)]), oDTerm s24 ([r18]), oDTerm s21 r18.sub, oDTerm s14 ([r8]), oDTerm s11 r8.sub, oEt] := back _ _ _ _ _ S2 rfl rfl
 clear back S2 SB56
 refine wl_lits (C := Term.C) (l := [(⟨r54.kind, r54.name, r54.other, r54.form, s57⟩ : Term)]) (vs := [.agg (Term.C (⟨r54.kind, r54.name, r54.other, r54.form, s57⟩ : Term)).toArray]) sl_L_api_Term el_Term.zero rfl rfl (fun a _ => Term.len a) (by decide) rfl (by decide) fun b59 w58 s60 hBw58 hw58 => ?_
 replace S : St A N w w58 [oS T_Term 5 Term.C s60 ([(⟨r54.kind, r54.name, r54.other, r54.form, s57⟩ : Term)]), oS T_Hyp 2 Hyp.C s43 ([(⟨(⟨#[120]⟩ : ByteArray), 2⟩ : Hyp)]), oS T_int 1 IC s40 r37.1, oB b26 T_Term (Term.C (⟨6, ByteArray.empty, ByteArray.empty, 0, s24⟩ : Term)), oB b16 T_Term (Term.C (⟨5, ByteArray.empty, ByteArray.empty, 0, s14⟩ : Term)), oT a7 r4.1, oS T_Nd 4 Nd.C s3 ([{ Nd.z with kind := 1, name := (⟨#[112]⟩ : ByteArray) }, { Nd.z with kind := 1, name := (⟨#[113]⟩ : ByteArray) }, { Nd.z with kind := 3, l := 0, r := 1 }, { Nd.z with kind := 5, l := 2, r := 0 }, { Nd.z with kind := 2 }])] [oDTerm s57 r54.sub, fS 2 Hyp.C SlV.nil ([]), oDTerm s50 r47.sub, fS 2 Hyp.C SlV.nil ([]), oDTerm s36 ([(⟨6, ByteArray.empty, ByteArray.empty, 0, [r18]⟩ : PTerm)]), fS 2 Hyp.C SlV.nil ([]), oDTerm s30 ([(⟨5, ByteArray.empty, ByteArray.empty, 0, [r8]⟩ : PTerm)]), oDTerm s24 ([r18]), oDTerm s21 r18.sub, oDTerm s14 ([r8]), oDTerm s11 r8.sub, oEt] := S.lit hBw58 hw58 (by simp)
 replace S : St A N w w58 [oS T_Term 5 Term.C s60 ([(⟨r54.kind, r54.name, r54.other, r54.form, s57⟩ : Term)]), oS T_Hyp 2 Hyp.C s43 ([(⟨(⟨#[120]⟩ : ByteArray), 2⟩ : Hyp)]), oS T_int 1 IC s40 r37.1, oB b26 T_Term (Term.C (⟨6, ByteArray.empty, ByteArray.empty, 0, s24⟩ : Term)), oB b16 T_Term (Term.C (⟨5, ByteArray.empty, ByteArray.empty, 0, s14⟩ : Term)), oT a7 r4.1, oS T_Nd 4 Nd.C s3 ([{ Nd.z with kind := 1, name := (⟨#[112]⟩ : ByteArray) }, { Nd.z with kind := 1, name := (⟨#[113]⟩ : ByteArray) }, { Nd.z with kind := 3, l := 0, r := 1 }, { Nd.z with kind := 5, l := 2, r := 0 }, { Nd.z with kind := 2 }])] [bigA fTerm ([] : List Term) ([] : List PTerm), oDTerm s57 r54.sub, fS 2 Hyp.C SlV.nil ([]), oDTerm s50 r47.sub, fS 2 Hyp.C SlV.nil ([]), oDTerm s36 ([(⟨6, ByteArray.empty, ByteArray.empty, 0, [r18]⟩ : PTerm)]), fS 2 Hyp.C SlV.nil ([]), oDTerm s30 ([(⟨5, ByteArray.empty, ByteArray.empty, 0, [r8]⟩ : PTerm)]), oDTerm s24 ([r18]), oDTerm s21 r18.sub, oDTerm s14 ([r8]), oDTerm s11 r8.sub, oEt] := S.bigTm
 replace S : St A N w w58 [oS T_Term 5 Term.C s60 ([(⟨r54.kind, r54.name, r54.other, r54.form, s57⟩ : Term)]), oS T_Hyp 2 Hyp.C s43 ([(⟨(⟨#[120]⟩ : ByteArray), 2⟩ : Hyp)]), oS T_int 1 IC s40 r37.1, oB b26 T_Term (Term.C (⟨6, ByteArray.empty, ByteArray.empty, 0, s24⟩ : Term)), oB b16 T_Term (Term.C (⟨5, ByteArray.empty, ByteArray.empty, 0, s14⟩ : Term)), oT a7 r4.1, oS T_Nd 4 Nd.C s3 ([{ Nd.z with kind := 1, name := (⟨#[112]⟩ : ByteArray) }, { Nd.z with kind := 1, name := (⟨#[113]⟩ : ByteArray) }, { Nd.z with kind := 3, l := 0, r := 1 }, { Nd.z with kind := 5, l := 2, r := 0 }, { Nd.z with kind := 2 }])] [bigA fTerm [(⟨r54.kind, r54.name, r54.other, r54.form, s57⟩ : Term)] [r54], oDTerm s57 r54.sub, fS 2 Hyp.C SlV.nil ([]), oDTerm s50 r47.sub, fS 2 Hyp.C SlV.nil ([]), oDTerm s36 ([(⟨6, ByteArray.empty, ByteArray.empty, 0, [r18]⟩ : PTerm)]), fS 2 Hyp.C SlV.nil ([]), oDTerm s30 ([(⟨5, ByteArray.empty, ByteArray.empty, 0, [r8]⟩ : PTerm)]), oDTerm s24 ([r18]), oDTerm s21 r18.sub, oDTerm s14 ([r8]), oDTerm s11 r8.sub, oEt] := S.consTm (x := r54) 0
 replace S : St A N w w58 [oS T_Hyp 2 Hyp.C s43 ([(⟨(⟨#[120]⟩ : ByteArray), 2⟩ : Hyp)]), oS T_int 1 IC s40 r37.1, oB b26 T_Term (Term.C (⟨6, ByteArray.empty, ByteArray.empty, 0, s24⟩ : Term)), oB b16 T_Term (Term.C (⟨5, ByteArray.empty, ByteArray.empty, 0, s14⟩ : Term)), oT a7 r4.1, oS T_Nd 4 Nd.C s3 ([{ Nd.z with kind := 1, name := (⟨#[112]⟩ : ByteArray) }, { Nd.z with kind := 1, name := (⟨#[113]⟩ : ByteArray) }, { Nd.z with kind := 3, l := 0, r := 1 }, { Nd.z with kind := 5, l := 2, r := 0 }, { Nd.z with kind := 2 }])] [oDTerm s60 ([r54]), bigA fTerm [(⟨r54.kind, r54.name, r54.other, r54.form, s57⟩ : Term)] [r54], oDTerm s57 r54.sub, fS 2 Hyp.C SlV.nil ([]), oDTerm s50 r47.sub, fS 2 Hyp.C SlV.nil ([]), oDTerm s36 ([(⟨6, ByteArray.empty, ByteArray.empty, 0, [r18]⟩ : PTerm)]), fS 2 Hyp.C SlV.nil ([]), oDTerm s30 ([(⟨5, ByteArray.empty, ByteArray.empty, 0, [r8]⟩ : PTerm)]), oDTerm s24 ([r18]), oDTerm s21 r18.sub, oDTerm s14 ([r8]), oDTerm s11 r8.sub, oEt] := S.frzTm 0 0
 replace S : St A N w w58 [oS T_Hyp 2 Hyp.C s43 ([(⟨(⟨#[120]⟩ : ByteArray), 2⟩ : Hyp)]), oS T_int 1 IC s40 r37.1, oB b26 T_Term (Term.C (⟨6, ByteArray.empty, ByteArray.empty, 0, s24⟩ : Term)), oB b16 T_Term (Term.C (⟨5, ByteArray.empty, ByteArray.empty, 0, s14⟩ : Term)), oT a7 r4.1, oS T_Nd 4 Nd.C s3 ([{ Nd.z with kind := 1, name := (⟨#[112]⟩ : ByteArray) }, { Nd.z with kind := 1, name := (⟨#[113]⟩ : ByteArray) }, { Nd.z with kind := 3, l := 0, r := 1 }, { Nd.z with kind := 5, l := 2, r := 0 }, { Nd.z with kind := 2 }])] [oDTerm s60 ([r54]), oDTerm s57 r54.sub, fS 2 Hyp.C SlV.nil ([]), oDTerm s50 r47.sub, fS 2 Hyp.C SlV.nil ([]), oDTerm s36 ([(⟨6, ByteArray.empty, ByteArray.empty, 0, [r18]⟩ : PTerm)]), fS 2 Hyp.C SlV.nil ([]), oDTerm s30 ([(⟨5, ByteArray.empty, ByteArray.empty, 0, [r8]⟩ : PTerm)]), oDTerm s24 ([r18]), oDTerm s21 r18.sub, oDTerm s14 ([r8]), oDTerm s11 r8.sub, oEt] := S.zs [0, 2, 3, 4, 5, 6, 7, 8, 9, 10, 11, 12, 13]
 refine wd (Does.to (v' := .agg (Term.C (⟨2, (⟨#[120]⟩ : ByteArray), ByteArray.empty, 0, s60⟩ : Term)).toArray) (does_buildv (vs := [(0, .int .i64 2), (1, .string (⟨#[120]⟩ : ByteArray)), (4, s60.v)]) bu_Term (consP rfl (consP rfl (consP rfl rfl))) (Bld.one rfl rfl (by rw [Term.len]; decide) (Term.set_kind _ _) (Bld.one rfl rfl (by rw [Term.len]; decide) (Term.set_name _ _) (Bld.one rfl (SlV.one _ _ rfl) (by rw [Term.len]; decide) (Term.set_sub _ _) Bld.nil)))) rfl) ?_
 replace S : St A N w w58 [oS T_Hyp 2 Hyp.C s43 ([(⟨(⟨#[120]⟩ : ByteArray), 2⟩ : Hyp)]), oS T_int 1 IC s40 r37.1, oB b26 T_Term (Term.C (⟨6, ByteArray.empty, ByteArray.empty, 0, s24⟩ : Term)), oB b16 T_Term (Term.C (⟨5, ByteArray.empty, ByteArray.empty, 0, s14⟩ : Term)), oT a7 r4.1, oS T_Nd 4 Nd.C s3 ([{ Nd.z with kind := 1, name := (⟨#[112]⟩ : ByteArray) }, { Nd.z with kind := 1, name := (⟨#[113]⟩ : ByteArray) }, { Nd.z with kind := 3, l := 0, r := 1 }, { Nd.z with kind := 5, l := 2, r := 0 }, { Nd.z with kind := 2 }])] [fS 2 Hyp.C SlV.nil ([]), oDTerm s60 ([r54]), oDTerm s57 r54.sub, fS 2 Hyp.C SlV.nil ([]), oDTerm s50 r47.sub, fS 2 Hyp.C SlV.nil ([]), oDTerm s36 ([(⟨6, ByteArray.empty, ByteArray.empty, 0, [r18]⟩ : PTerm)]), fS 2 Hyp.C SlV.nil ([]), oDTerm s30 ([(⟨5, ByteArray.empty, ByteArray.empty, 0, [r8]⟩ : PTerm)]), oDTerm s24 ([r18]), oDTerm s21 r18.sub, oDTerm s14 ([r8]), oDTerm s11 r8.sub, oEt] := S.nilZ 2 Hyp.C
 obtain ⟨r61, er61, H⟩ := bind_ex H
 obtain ⟨B63, MB63, SB63, back⟩ := S.calln 0 ((.o 4 rfl (.z 0 rfl (.z 1 rfl (.z 13 rfl .nil)))))
 refine wl_call (does_callg ca_types_Infer (cons2 rfl (cons2 SlV.nil_eq (cons2 rfl rfl)))) (by decide) (types_Infer_st (a2 := (⟨2, (⟨#[120]⟩ : ByteArray), ByteArray.empty, 0, [r54]⟩ : PTerm)) SB63 er61) ?_
 rintro _ w62 ⟨rfl, S2⟩
 replace S : St A N w w62 [oS T_Hyp 2 Hyp.C s43 ([(⟨(⟨#[120]⟩ : ByteArray), 2⟩ : Hyp)]), oS T_int 1 IC s40 r37.1, oB b26 T_Term (Term.C (⟨6, ByteArray.empty, ByteArray.empty, 0, s24⟩ : Term)), oB b16 T_Term (Term.C (⟨5, ByteArray.empty, ByteArray.empty, 0, s14⟩ : Term)), oT a7 r4.1, oS T_Nd 4 Nd.C s3 ([{ Nd.z with kind := 1, name := (⟨#[112]⟩ : ByteArray) }, { Nd.z with kind := 1, name := (⟨#[113]⟩ : ByteArray) }, { Nd.z with kind := 3, l := 0, r := 1 }, { Nd.z with kind := 5, l := 2, r := 0 }, { Nd.z with kind := 2 }])] [fS 2 Hyp.C SlV.nil ([]), oDTerm s60 ([r54]), oDTerm s57 r54.sub, fS 2 Hyp.C SlV.nil ([]), oDTerm s50 r47.sub, fS 2 Hyp.C SlV.nil ([]), oDTerm s36 ([(⟨6, ByteArray.empty, ByteArray.empty, 0, [r18]⟩ : PTerm)]), fS 2 Hyp.C SlV.nil ([]), oDTerm s30 ([(⟨5, ByteArray.empty, ByteArray.empty, 0, [r8]⟩ : PTerm)]), oDTerm s24 ([r18]), oDTerm s21 r18.sub, oDTerm s14 ([r8]), oDTerm s11 r8.sub, oEt] := back _ _ _ _ S2 rfl
 clear back S2 SB63
 refine wd (does_mv_t rfl) ?_
 refine wd (does_extract rfl rfl) ?_
 refine wd (does_extract rfl rfl) ?_
 refine wd (does_as_i rfl) ?_
 refine wd (does_as_i rfl) ?_
 refine wl_nil ?_
 refine wc_seq (wc_region ?_)
 refine wd (does_mv_p rfl) ?_
 refine wd (does_build bu_Hyp (Bld.one rfl rfl (by rw [Hyp.len]; decide) (Hyp.set_name _ _) (Bld.one rfl rfl (by rw [Hyp.len]; decide) (Hyp.set_form _ _) Bld.nil))) ?_
 refine wl_lits (C := Hyp.C) (l := [(⟨(⟨#[120]⟩ : ByteArray), 4⟩ : Hyp)]) (vs := [.agg (Hyp.C (⟨(⟨#[120]⟩ : ByteArray), 4⟩ : Hyp)).toArray]) sl_L_api_Hyp el_Hyp.zero rfl rfl (fun a _ => Hyp.len a) (by decide) rfl (by decide) fun b65 w64 s66 hBw64 hw64 => ?_
 replace S : St A N w w64 [oS T_Hyp 2 Hyp.C s66 ([(⟨(⟨#[120]⟩ : ByteArray), 4⟩ : Hyp)]), oS T_Hyp 2 Hyp.C s43 ([(⟨(⟨#[120]⟩ : ByteArray), 2⟩ : Hyp)]), oS T_int 1 IC s40 r37.1, oB b26 T_Term (Term.C (⟨6, ByteArray.empty, ByteArray.empty, 0, s24⟩ : Term)), oB b16 T_Term (Term.C (⟨5, ByteArray.empty, ByteArray.empty, 0, s14⟩ : Term)), oT a7 r4.1, oS T_Nd 4 Nd.C s3 ([{ Nd.z with kind := 1, name := (⟨#[112]⟩ : ByteArray) }, { Nd.z with kind := 1, name := (⟨#[113]⟩ : ByteArray) }, { Nd.z with kind := 3, l := 0, r := 1 }, { Nd.z with kind := 5, l := 2, r := 0 }, { Nd.z with kind := 2 }])] [fS 2 Hyp.C SlV.nil ([]), oDTerm s60 ([r54]), oDTerm s57 r54.sub, fS 2 Hyp.C SlV.nil ([]), oDTerm s50 r47.sub, fS 2 Hyp.C SlV.nil ([]), oDTerm s36 ([(⟨6, ByteArray.empty, ByteArray.empty, 0, [r18]⟩ : PTerm)]), fS 2 Hyp.C SlV.nil ([]), oDTerm s30 ([(⟨5, ByteArray.empty, ByteArray.empty, 0, [r8]⟩ : PTerm)]), oDTerm s24 ([r18]), oDTerm s21 r18.sub, oDTerm s14 ([r8]), oDTerm s11 r8.sub, oEt] := S.lit hBw64 hw64 (by simp)
 obtain ⟨r67, er67, H⟩ := bind_ex H
 obtain ⟨B69, MB69, SB69, back⟩ := S.sub [] [] [oS T_Hyp 2 Hyp.C s66 ([(⟨(⟨#[120]⟩ : ByteArray), 4⟩ : Hyp)]), oS T_Hyp 2 Hyp.C s43 ([(⟨(⟨#[120]⟩ : ByteArray), 2⟩ : Hyp)]), oS T_int 1 IC s40 r37.1, oB b26 T_Term (Term.C (⟨6, ByteArray.empty, ByteArray.empty, 0, s24⟩ : Term)), oB b16 T_Term (Term.C (⟨5, ByteArray.empty, ByteArray.empty, 0, s14⟩ : Term)), oT a7 r4.1, oS T_Nd 4 Nd.C s3 ([{ Nd.z with kind := 1, name := (⟨#[112]⟩ : ByteArray) }, { Nd.z with kind := 1, name := (⟨#[113]⟩ : ByteArray) }, { Nd.z with kind := 3, l := 0, r := 1 }, { Nd.z with kind := 5, l := 2, r := 0 }, { Nd.z with kind := 2 }])]
 refine wl_call (does_call ca_law13_v) (by decide) (law13_v_st SB69 er67) ?_
 rintro _ w68 ⟨s70, rfl, S2⟩
 replace S : St A N w w68 [oS T_Hyp 2 Hyp.C s66 ([(⟨(⟨#[120]⟩ : ByteArray), 4⟩ : Hyp)]), oS T_Hyp 2 Hyp.C s43 ([(⟨(⟨#[120]⟩ : ByteArray), 2⟩ : Hyp)]), oS T_int 1 IC s40 r37.1, oB b26 T_Term (Term.C (⟨6, ByteArray.empty, ByteArray.empty, 0, s24⟩ : Term)), oB b16 T_Term (Term.C (⟨5, ByteArray.empty, ByteArray.empty, 0, s14⟩ : Term)), oT a7 r4.1, oS T_Nd 4 Nd.C s3 ([{ Nd.z with kind := 1, name := (⟨#[112]⟩ : ByteArray) }, { Nd.z with kind := 1, name := (⟨#[113]⟩ : ByteArray) }, { Nd.z with kind := 3, l := 0, r := 1 }, { Nd.z with kind := 5, l := 2, r := 0 }, { Nd.z with kind := 2 }])] [oDTerm s70 r67.sub, fS 2 Hyp.C SlV.nil ([]), oDTerm s60 ([r54]), oDTerm s57 r54.sub, fS 2 Hyp.C SlV.nil ([]), oDTerm s50 r47.sub, fS 2 Hyp.C SlV.nil ([]), oDTerm s36 ([(⟨6, ByteArray.empty, ByteArray.empty, 0, [r18]⟩ : PTerm)]), fS 2 Hyp.C SlV.nil ([]), oDTerm s30 ([(⟨5, ByteArray.empty, ByteArray.empty, 0, [r8]⟩ : PTerm)]), oDTerm s24 ([r18]), oDTerm s21 r18.sub, oDTerm s14 ([r8]), oDTerm s11 r8.sub, oEt] := back _ _ _ _ _ S2 rfl rfl
 clear back S2 SB69
 refine wl_lits (C := Term.C) (l := [(⟨r67.kind, r67.name, r67.other, r67.form, s70⟩ : Term)]) (vs := [.agg (Term.C (⟨r67.kind, r67.name, r67.other, r67.form, s70⟩ : Term)).toArray]) sl_L_api_Term el_Term.zero rfl rfl (fun a _ => Term.len a) (by decide) rfl (by decide) fun b72 w71 s73 hBw71 hw71 => ?_
 replace S : St A N w w71 [oS T_Term 5 Term.C s73 ([(⟨r67.kind, r67.name, r67.other, r67.form, s70⟩ : Term)]), oS T_Hyp 2 Hyp.C s66 ([(⟨(⟨#[120]⟩ : ByteArray), 4⟩ : Hyp)]), oS T_Hyp 2 Hyp.C s43 ([(⟨(⟨#[120]⟩ : ByteArray), 2⟩ : Hyp)]), oS T_int 1 IC s40 r37.1, oB b26 T_Term (Term.C (⟨6, ByteArray.empty, ByteArray.empty, 0, s24⟩ : Term)), oB b16 T_Term (Term.C (⟨5, ByteArray.empty, ByteArray.empty, 0, s14⟩ : Term)), oT a7 r4.1, oS T_Nd 4 Nd.C s3 ([{ Nd.z with kind := 1, name := (⟨#[112]⟩ : ByteArray) }, { Nd.z with kind := 1, name := (⟨#[113]⟩ : ByteArray) }, { Nd.z with kind := 3, l := 0, r := 1 }, { Nd.z with kind := 5, l := 2, r := 0 }, { Nd.z with kind := 2 }])] [oDTerm s70 r67.sub, fS 2 Hyp.C SlV.nil ([]), oDTerm s60 ([r54]), oDTerm s57 r54.sub, fS 2 Hyp.C SlV.nil ([]), oDTerm s50 r47.sub, fS 2 Hyp.C SlV.nil ([]), oDTerm s36 ([(⟨6, ByteArray.empty, ByteArray.empty, 0, [r18]⟩ : PTerm)]), fS 2 Hyp.C SlV.nil ([]), oDTerm s30 ([(⟨5, ByteArray.empty, ByteArray.empty, 0, [r8]⟩ : PTerm)]), oDTerm s24 ([r18]), oDTerm s21 r18.sub, oDTerm s14 ([r8]), oDTerm s11 r8.sub, oEt] := S.lit hBw71 hw71 (by simp)
 replace S : St A N w w71 [oS T_Term 5 Term.C s73 ([(⟨r67.kind, r67.name, r67.other, r67.form, s70⟩ : Term)]), oS T_Hyp 2 Hyp.C s66 ([(⟨(⟨#[120]⟩ : ByteArray), 4⟩ : Hyp)]), oS T_Hyp 2 Hyp.C s43 ([(⟨(⟨#[120]⟩ : ByteArray), 2⟩ : Hyp)]), oS T_int 1 IC s40 r37.1, oB b26 T_Term (Term.C (⟨6, ByteArray.empty, ByteArray.empty, 0, s24⟩ : Term)), oB b16 T_Term (Term.C (⟨5, ByteArray.empty, ByteArray.empty, 0, s14⟩ : Term)), oT a7 r4.1, oS T_Nd 4 Nd.C s3 ([{ Nd.z with kind := 1, name := (⟨#[112]⟩ : ByteArray) }, { Nd.z with kind := 1, name := (⟨#[113]⟩ : ByteArray) }, { Nd.z with kind := 3, l := 0, r := 1 }, { Nd.z with kind := 5, l := 2, r := 0 }, { Nd.z with kind := 2 }])] [bigA fTerm ([] : List Term) ([] : List PTerm), oDTerm s70 r67.sub, fS 2 Hyp.C SlV.nil ([]), oDTerm s60 ([r54]), oDTerm s57 r54.sub, fS 2 Hyp.C SlV.nil ([]), oDTerm s50 r47.sub, fS 2 Hyp.C SlV.nil ([]), oDTerm s36 ([(⟨6, ByteArray.empty, ByteArray.empty, 0, [r18]⟩ : PTerm)]), fS 2 Hyp.C SlV.nil ([]), oDTerm s30 ([(⟨5, ByteArray.empty, ByteArray.empty, 0, [r8]⟩ : PTerm)]), oDTerm s24 ([r18]), oDTerm s21 r18.sub, oDTerm s14 ([r8]), oDTerm s11 r8.sub, oEt] := S.bigTm
 replace S : St A N w w71 [oS T_Term 5 Term.C s73 ([(⟨r67.kind, r67.name, r67.other, r67.form, s70⟩ : Term)]), oS T_Hyp 2 Hyp.C s66 ([(⟨(⟨#[120]⟩ : ByteArray), 4⟩ : Hyp)]), oS T_Hyp 2 Hyp.C s43 ([(⟨(⟨#[120]⟩ : ByteArray), 2⟩ : Hyp)]), oS T_int 1 IC s40 r37.1, oB b26 T_Term (Term.C (⟨6, ByteArray.empty, ByteArray.empty, 0, s24⟩ : Term)), oB b16 T_Term (Term.C (⟨5, ByteArray.empty, ByteArray.empty, 0, s14⟩ : Term)), oT a7 r4.1, oS T_Nd 4 Nd.C s3 ([{ Nd.z with kind := 1, name := (⟨#[112]⟩ : ByteArray) }, { Nd.z with kind := 1, name := (⟨#[113]⟩ : ByteArray) }, { Nd.z with kind := 3, l := 0, r := 1 }, { Nd.z with kind := 5, l := 2, r := 0 }, { Nd.z with kind := 2 }])] [bigA fTerm [(⟨r67.kind, r67.name, r67.other, r67.form, s70⟩ : Term)] [r67], oDTerm s70 r67.sub, fS 2 Hyp.C SlV.nil ([]), oDTerm s60 ([r54]), oDTerm s57 r54.sub, fS 2 Hyp.C SlV.nil ([]), oDTerm s50 r47.sub, fS 2 Hyp.C SlV.nil ([]), oDTerm s36 ([(⟨6, ByteArray.empty, ByteArray.empty, 0, [r18]⟩ : PTerm)]), fS 2 Hyp.C SlV.nil ([]), oDTerm s30 ([(⟨5, ByteArray.empty, ByteArray.empty, 0, [r8]⟩ : PTerm)]), oDTerm s24 ([r18]), oDTerm s21 r18.sub, oDTerm s14 ([r8]), oDTerm s11 r8.sub, oEt] := S.consTm (x := r67) 0
 replace S : St A N w w71 [oS T_Hyp 2 Hyp.C s66 ([(⟨(⟨#[120]⟩ : ByteArray), 4⟩ : Hyp)]), oS T_Hyp 2 Hyp.C s43 ([(⟨(⟨#[120]⟩ : ByteArray), 2⟩ : Hyp)]), oS T_int 1 IC s40 r37.1, oB b26 T_Term (Term.C (⟨6, ByteArray.empty, ByteArray.empty, 0, s24⟩ : Term)), oB b16 T_Term (Term.C (⟨5, ByteArray.empty, ByteArray.empty, 0, s14⟩ : Term)), oT a7 r4.1, oS T_Nd 4 Nd.C s3 ([{ Nd.z with kind := 1, name := (⟨#[112]⟩ : ByteArray) }, { Nd.z with kind := 1, name := (⟨#[113]⟩ : ByteArray) }, { Nd.z with kind := 3, l := 0, r := 1 }, { Nd.z with kind := 5, l := 2, r := 0 }, { Nd.z with kind := 2 }])] [oDTerm s73 ([r67]), bigA fTerm [(⟨r67.kind, r67.name, r67.other, r67.form, s70⟩ : Term)] [r67], oDTerm s70 r67.sub, fS 2 Hyp.C SlV.nil ([]), oDTerm s60 ([r54]), oDTerm s57 r54.sub, fS 2 Hyp.C SlV.nil ([]), oDTerm s50 r47.sub, fS 2 Hyp.C SlV.nil ([]), oDTerm s36 ([(⟨6, ByteArray.empty, ByteArray.empty, 0, [r18]⟩ : PTerm)]), fS 2 Hyp.C SlV.nil ([]), oDTerm s30 ([(⟨5, ByteArray.empty, ByteArray.empty, 0, [r8]⟩ : PTerm)]), oDTerm s24 ([r18]), oDTerm s21 r18.sub, oDTerm s14 ([r8]), oDTerm s11 r8.sub, oEt] := S.frzTm 0 0
 replace S : St A N w w71 [oS T_Hyp 2 Hyp.C s66 ([(⟨(⟨#[120]⟩ : ByteArray), 4⟩ : Hyp)]), oS T_Hyp 2 Hyp.C s43 ([(⟨(⟨#[120]⟩ : ByteArray), 2⟩ : Hyp)]), oS T_int 1 IC s40 r37.1, oB b26 T_Term (Term.C (⟨6, ByteArray.empty, ByteArray.empty, 0, s24⟩ : Term)), oB b16 T_Term (Term.C (⟨5, ByteArray.empty, ByteArray.empty, 0, s14⟩ : Term)), oT a7 r4.1, oS T_Nd 4 Nd.C s3 ([{ Nd.z with kind := 1, name := (⟨#[112]⟩ : ByteArray) }, { Nd.z with kind := 1, name := (⟨#[113]⟩ : ByteArray) }, { Nd.z with kind := 3, l := 0, r := 1 }, { Nd.z with kind := 5, l := 2, r := 0 }, { Nd.z with kind := 2 }])] [oDTerm s73 ([r67]), oDTerm s70 r67.sub, fS 2 Hyp.C SlV.nil ([]), oDTerm s60 ([r54]), oDTerm s57 r54.sub, fS 2 Hyp.C SlV.nil ([]), oDTerm s50 r47.sub, fS 2 Hyp.C SlV.nil ([]), oDTerm s36 ([(⟨6, ByteArray.empty, ByteArray.empty, 0, [r18]⟩ : PTerm)]), fS 2 Hyp.C SlV.nil ([]), oDTerm s30 ([(⟨5, ByteArray.empty, ByteArray.empty, 0, [r8]⟩ : PTerm)]), oDTerm s24 ([r18]), oDTerm s21 r18.sub, oDTerm s14 ([r8]), oDTerm s11 r8.sub, oEt] := S.zs [0, 2, 3, 4, 5, 6, 7, 8, 9, 10, 11, 12, 13, 14, 15, 16]
 refine wd (Does.to (v' := .agg (Term.C (⟨10, ByteArray.empty, ByteArray.empty, 0, s73⟩ : Term)).toArray) (does_buildv (vs := [(0, .int .i64 10), (4, s73.v)]) bu_Term (consP rfl (consP rfl rfl)) (Bld.one rfl rfl (by rw [Term.len]; decide) (Term.set_kind _ _) (Bld.one rfl (SlV.one _ _ rfl) (by rw [Term.len]; decide) (Term.set_sub _ _) Bld.nil))) rfl) ?_
 obtain ⟨r74, er74, H⟩ := bind_ex H
 obtain ⟨B76, MB76, SB76, back⟩ := S.calln 0 ((.o 5 rfl (.s 0 rfl (.z 0 rfl (.z 15 rfl .nil)))))
 refine wl_call (does_call ca_types_Check) (by decide) (types_Check_st (a2 := (⟨10, ByteArray.empty, ByteArray.empty, 0, [r67]⟩ : PTerm)) SB76 er74) ?_
 rintro _ w75 ⟨rfl, S2⟩
 replace S : St A N w w75 [oS T_Hyp 2 Hyp.C s66 ([(⟨(⟨#[120]⟩ : ByteArray), 4⟩ : Hyp)]), oS T_Hyp 2 Hyp.C s43 ([(⟨(⟨#[120]⟩ : ByteArray), 2⟩ : Hyp)]), oS T_int 1 IC s40 r37.1, oB b26 T_Term (Term.C (⟨6, ByteArray.empty, ByteArray.empty, 0, s24⟩ : Term)), oB b16 T_Term (Term.C (⟨5, ByteArray.empty, ByteArray.empty, 0, s14⟩ : Term)), oT a7 r4.1, oS T_Nd 4 Nd.C s3 ([{ Nd.z with kind := 1, name := (⟨#[112]⟩ : ByteArray) }, { Nd.z with kind := 1, name := (⟨#[113]⟩ : ByteArray) }, { Nd.z with kind := 3, l := 0, r := 1 }, { Nd.z with kind := 5, l := 2, r := 0 }, { Nd.z with kind := 2 }])] [oDTerm s73 ([r67]), oDTerm s70 r67.sub, fS 2 Hyp.C SlV.nil ([]), oDTerm s60 ([r54]), oDTerm s57 r54.sub, fS 2 Hyp.C SlV.nil ([]), oDTerm s50 r47.sub, fS 2 Hyp.C SlV.nil ([]), oDTerm s36 ([(⟨6, ByteArray.empty, ByteArray.empty, 0, [r18]⟩ : PTerm)]), fS 2 Hyp.C SlV.nil ([]), oDTerm s30 ([(⟨5, ByteArray.empty, ByteArray.empty, 0, [r8]⟩ : PTerm)]), oDTerm s24 ([r18]), oDTerm s21 r18.sub, oDTerm s14 ([r8]), oDTerm s11 r8.sub, oEt] := back _ _ _ _ S2 rfl
 clear back S2 SB76
 refine wd (does_as_i rfl) ?_
 refine wl_nil ?_
 refine wc_seq (wc_region ?_)
 refine wd (does_mv_i rfl) ?_
 refine wd (does_eq rfl rfl) ?_
 refine wd (does_mv_b rfl) ?_
 refine wl_guard (j := 2) (pol := true) rfl rfl rfl (by decide) (fun hg => does_mv_i rfl) (by decide) ?_
 refine wl_guard (j := 2) (pol := true) rfl rfl rfl (by decide) (fun hg => does_eq (gv_yes hg) rfl) (by decide) ?_
 refine wd (does_and rfl (fun hp => (gv_yes (and_1 hp)))) ?_
 refine wd (does_mv_b rfl) ?_
 refine wl_guard (j := 6) (pol := true) rfl rfl rfl (by decide) (fun hg => does_mv_i rfl) (by decide) ?_
 refine wl_guard (j := 6) (pol := true) rfl rfl rfl (by decide) (fun hg => does_eq (gv_yes hg) rfl) (by decide) ?_
 refine wd (does_and rfl (fun hp => (gv_yes (and_1 hp)))) ?_
 refine wd (does_mv_b rfl) ?_
 refine wl_guard (j := 10) (pol := true) rfl rfl rfl (by decide) (fun hg => does_mv_l rfl) (by decide) ?_
 obtain ⟨hg77, H⟩ := chk_ex H
 refine wl_gon (j := 10) (pol := true) rfl rfl rfl (by decide) (by simpa using hg77) ?_
 refine wl_lits (C := IC) (l := [0]) (vs := [.int .i64 0]) sl_L_int el_int.zero rfl rfl (fun _ _ => rfl) (by decide) rfl (by decide) fun b79 w78 s80 hBw78 hw78 => ?_
 replace S : St A N w w78 [oS T_int 1 IC s80 ([0]), oS T_Hyp 2 Hyp.C s66 ([(⟨(⟨#[120]⟩ : ByteArray), 4⟩ : Hyp)]), oS T_Hyp 2 Hyp.C s43 ([(⟨(⟨#[120]⟩ : ByteArray), 2⟩ : Hyp)]), oS T_int 1 IC s40 r37.1, oB b26 T_Term (Term.C (⟨6, ByteArray.empty, ByteArray.empty, 0, s24⟩ : Term)), oB b16 T_Term (Term.C (⟨5, ByteArray.empty, ByteArray.empty, 0, s14⟩ : Term)), oT a7 r4.1, oS T_Nd 4 Nd.C s3 ([{ Nd.z with kind := 1, name := (⟨#[112]⟩ : ByteArray) }, { Nd.z with kind := 1, name := (⟨#[113]⟩ : ByteArray) }, { Nd.z with kind := 3, l := 0, r := 1 }, { Nd.z with kind := 5, l := 2, r := 0 }, { Nd.z with kind := 2 }])] [oDTerm s73 ([r67]), oDTerm s70 r67.sub, fS 2 Hyp.C SlV.nil ([]), oDTerm s60 ([r54]), oDTerm s57 r54.sub, fS 2 Hyp.C SlV.nil ([]), oDTerm s50 r47.sub, fS 2 Hyp.C SlV.nil ([]), oDTerm s36 ([(⟨6, ByteArray.empty, ByteArray.empty, 0, [r18]⟩ : PTerm)]), fS 2 Hyp.C SlV.nil ([]), oDTerm s30 ([(⟨5, ByteArray.empty, ByteArray.empty, 0, [r8]⟩ : PTerm)]), oDTerm s24 ([r18]), oDTerm s21 r18.sub, oDTerm s14 ([r8]), oDTerm s11 r8.sub, oEt] := S.lit hBw78 hw78 (by simp)
 obtain ⟨r81, er81, H⟩ := bind_ex H
 refine wl_gcall (j := 10) (pol := true) rfl rfl rfl (by decide) (fun hg => does_callg ca_ref03_Ints (cons2 (gv_yes hg) (cons2 rfl rfl))) (by decide) (fun hg => (have ⟨M, SS⟩ := S.lend ((.s 3 rfl (.s 0 rfl .nil))); quiet (ref03_Ints_st SS (if_t (by simpa using hg) er81)) (fun v w' h => ⟨h.1, _, _, h.2⟩))) fun w82 hw82 => ?_
 replace S := S.ext hw82
 refine wd (does_and rfl (fun hp => (gv_yes (and_1 hp)))) ?_
 refine wd (does_mv_b rfl) ?_
 refine wl_guard (j := 15) (pol := true) rfl rfl rfl (by decide) (fun hg => does_mv_i rfl) (by decide) ?_
 refine wl_guard (j := 15) (pol := true) rfl rfl rfl (by decide) (fun hg => does_eq (gv_yes hg) rfl) (by decide) ?_
 refine wd (does_and rfl (fun hp => (gv_yes (and_1 hp)))) ?_
 refine wd (does_mv_b rfl) ?_
 refine wl_guard (j := 19) (pol := true) rfl rfl rfl (by decide) (fun hg => does_mv_i rfl) (by decide) ?_
 refine wl_guard (j := 19) (pol := true) rfl rfl rfl (by decide) (fun hg => does_eq (gv_yes hg) rfl) (by decide) ?_
 refine wd (does_and rfl (fun hp => (gv_yes (and_1 hp)))) ?_
 refine wd (does_mv_b rfl) ?_
 refine wl_guard (j := 23) (pol := true) rfl rfl rfl (by decide) (fun hg => does_mv_i rfl) (by decide) ?_
 refine wl_guard (j := 23) (pol := true) rfl rfl rfl (by decide) (fun hg => does_eq (gv_yes hg) rfl) (by decide) ?_
 refine wd (does_and rfl (fun hp => (gv_yes (and_1 hp)))) ?_
 refine wd (does_mv_b rfl) ?_
 refine wl_guard (j := 27) (pol := true) rfl rfl rfl (by decide) (fun hg => does_mv_i rfl) (by decide) ?_
 refine wl_guard (j := 27) (pol := true) rfl rfl rfl (by decide) (fun hg => does_eq (gv_yes hg) rfl) (by decide) ?_
 refine wd (does_and rfl (fun hp => (gv_yes (and_1 hp)))) ?_
 refine wd (does_mv_b rfl) ?_
 refine wl_guard (j := 31) (pol := true) rfl rfl rfl (by decide) (fun hg => does_mv_i rfl) (by decide) ?_
 refine wl_guard (j := 31) (pol := true) rfl rfl rfl (by decide) (fun hg => does_eq (gv_yes hg) rfl) (by decide) ?_
 refine wd (does_and rfl (fun hp => (gv_yes (and_1 hp)))) ?_
 refine wd (does_as_b rfl) ?_
 refine wl_nil ?_
 refine wc_ret ?_
 refine ⟨_, (rets1 (retOne_tmp rfl)), ?_⟩
 replace S : St A N w w82 [] [] := S.arr [] []
 obtain rfl := Option.some.inj H
 exact ⟨rfl, S⟩
end Go.Proofs.YtjebgcoknpcadaaDoor
end
section
namespace Go.Proofs.YtjebgcoknpcadaaDoor
open Gw Go.RowKit
set_option maxHeartbeats 4000000
set_option maxRecDepth 20000
theorem law13_nobody_st {A : Nat → Prop} {N : Oth} {w : World} {a0 : Tb} {a_0 : Option Addr} {a1 : List Hyp} {s_1 : SlV} {a2 : PTerm} {s_2 : SlV} {a3 : Int} (S : St A N w w [] [oT a_0 a0, fS 2 Hyp.C s_1 a1, oDTerm s_2 a2.sub, oEt]) {k : Nat} {r : Bool} (H : law13_nobody.f k a0 a1 a2 a3 = some r) :
  Calls PP F_law13_nobody #[.pointer a_0, s_1.v, .agg (Term.C (⟨a2.kind, a2.name, a2.other, a2.form, s_2⟩ : Term)).toArray, .int .i64 a3] w fun e w' => ∃ v, e = .returned v ∧ (v = .bool r ∧ St A N w w' [] []) := by
 unfold law13_nobody.f at H
 refine calls_of_wc (n := 51) fn_law13_nobody rfl rfl (by simp) ?_
 refine wc_seq (wc_region ?_)
 refine wl_box_agg rfl (by decide) fun b2 w1 hw1 => ?_
 replace S : St A N w w1 [oB b2 T_Term (Term.C (⟨a2.kind, a2.name, a2.other, a2.form, s_2⟩ : Term))] [oT a_0 a0, fS 2 Hyp.C s_1 a1, oDTerm s_2 a2.sub, oEt] := S.new hw1
 refine wd (does_as_b rfl) ?_
 refine wl_nil ?_
 refine wc_seq (wc_region ?_)
 refine wd (does_mv_p rfl) ?_
 refine wd (does_mv_l rfl) ?_
 refine wd (does_load_agg ag_Term rfl ((S.blk 0).all _ (Term.len _)) (Term.len _)) ?_
 obtain ⟨r3, er3, H⟩ := bind_ex H
 obtain ⟨B5, MB5, SB5, back⟩ := S.calln 0 ((.z 0 rfl (.z 1 rfl (.z 2 rfl (.z 3 rfl .nil)))))
 refine wl_call (does_call ca_types_Infer) (by decide) (types_Infer_st (a2 := a2) SB5 er3) ?_
 rintro _ w4 ⟨rfl, S2⟩
 replace S : St A N w w4 [oB b2 T_Term (Term.C (⟨a2.kind, a2.name, a2.other, a2.form, s_2⟩ : Term))] [oT a_0 a0, fS 2 Hyp.C s_1 a1, oDTerm s_2 a2.sub, oEt] := back _ _ _ _ S2 rfl
 clear back S2 SB5
 refine wd (does_mv_t rfl) ?_
 refine wd (does_extract rfl rfl) ?_
 refine wd (does_extract rfl rfl) ?_
 refine wd (does_as_i rfl) ?_
 refine wd (does_as_i rfl) ?_
 refine wl_nil ?_
 refine wc_seq (wc_region ?_)
 refine wd (does_mv_p rfl) ?_
 refine wd (does_mv_l rfl) ?_
 refine wd (does_load_agg ag_Term rfl ((S.blk 0).all _ (Term.len _)) (Term.len _)) ?_
 refine wd (does_mv_i rfl) ?_
 obtain ⟨r6, er6, H⟩ := bind_ex H
 obtain ⟨B8, MB8, SB8, back⟩ := S.calln 0 ((.z 0 rfl (.z 1 rfl (.z 2 rfl (.z 3 rfl .nil)))))
 refine wl_call (does_call ca_types_Where) (by decide) (types_Where_st (a2 := a2) SB8 er6) ?_
 rintro _ w7 ⟨s9, rfl, S2⟩
 replace S : St A N w w7 [oS T_int 1 IC s9 r6.1, oB b2 T_Term (Term.C (⟨a2.kind, a2.name, a2.other, a2.form, s_2⟩ : Term))] [oT a_0 a0, fS 2 Hyp.C s_1 a1, oDTerm s_2 a2.sub, oEt] := back _ _ _ _ S2 rfl
 clear back S2 SB8
 refine wd (does_mv_t rfl) ?_
 refine wd (does_extract rfl rfl) ?_
 refine wd (does_extract rfl rfl) ?_
 refine wd (does_as_l rfl) ?_
 refine wd (does_as_i rfl) ?_
 refine wl_nil ?_
 refine wc_seq (wc_region ?_)
 refine wd (does_mv_p rfl) ?_
 refine wd (does_mv_l rfl) ?_
 refine wd (does_load_agg ag_Term rfl ((S.blk 1).all _ (Term.len _)) (Term.len _)) ?_
 refine wd (does_mv_i rfl) ?_
 obtain ⟨r10, er10, H⟩ := bind_ex H
 obtain ⟨B12, MB12, SB12, back⟩ := S.calln 0 ((.z 0 rfl (.z 1 rfl (.z 2 rfl (.z 3 rfl .nil)))))
 refine wl_call (does_call ca_types_Check) (by decide) (types_Check_st (a2 := a2) SB12 er10) ?_
 rintro _ w11 ⟨rfl, S2⟩
 replace S : St A N w w11 [oS T_int 1 IC s9 r6.1, oB b2 T_Term (Term.C (⟨a2.kind, a2.name, a2.other, a2.form, s_2⟩ : Term))] [oT a_0 a0, fS 2 Hyp.C s_1 a1, oDTerm s_2 a2.sub, oEt] := back _ _ _ _ S2 rfl
 clear back S2 SB12
 refine wd (does_eq rfl rfl) ?_
 refine wd (does_mv_b rfl) ?_
 refine wl_guard (j := 6) (pol := true) rfl rfl rfl (by decide) (fun hg => does_mv_i rfl) (by decide) ?_
 refine wl_guard (j := 6) (pol := true) rfl rfl rfl (by decide) (fun hg => does_eq (gv_yes hg) rfl) (by decide) ?_
 refine wd (does_and rfl (fun hp => (gv_yes (and_1 hp)))) ?_
 refine wd (does_mv_b rfl) ?_
 refine wl_guard (j := 10) (pol := true) rfl rfl rfl (by decide) (fun hg => does_mv_i rfl) (by decide) ?_
 refine wl_guard (j := 10) (pol := true) rfl rfl rfl (by decide) (fun hg => does_eq (gv_yes hg) rfl) (by decide) ?_
 refine wd (does_and rfl (fun hp => (gv_yes (and_1 hp)))) ?_
 refine wd (does_mv_b rfl) ?_
 refine wl_guard (j := 14) (pol := true) rfl rfl rfl (by decide) (fun hg => does_mv_l rfl) (by decide) ?_
 refine wl_guard (j := 14) (pol := true) rfl rfl rfl (by decide) (fun hg => does_lenR sl_L_int (gv_yes hg) (S.rdO 0)) (by decide) ?_
 refine wl_guard (j := 14) (pol := true) rfl rfl rfl (by decide) (fun hg => does_eq (gv_yes hg) rfl) (by decide) ?_
 refine wd (does_and rfl (fun hp => (gv_yes (and_1 hp)))) ?_
 refine wd (does_mv_b rfl) ?_
 refine wl_guard (j := 19) (pol := true) rfl rfl rfl (by decide) (fun hg => does_mv_i rfl) (by decide) ?_
 refine wl_guard (j := 19) (pol := true) rfl rfl rfl (by decide) (fun hg => does_eq (gv_yes hg) rfl) (by decide) ?_
 refine wd (does_and rfl (fun hp => (gv_yes (and_1 hp)))) ?_
 refine wd (does_as_b rfl) ?_
 refine wl_nil ?_
 refine wc_ret ?_
 refine ⟨_, (rets1 (retOne_tmp rfl)), ?_⟩
 replace S : St A N w w11 [] [] := S.arr [] []
 obtain rfl := Option.some.inj H
 exact ⟨rfl, S⟩
theorem law13_TypesNobody_st {A : Nat → Prop} {N : Oth} {w : World} {a0 : List Hyp} {s_0 : SlV} {a1 : PTerm} {s_1 : SlV} {a2 : Int} (S : St A N w w [] [fS 2 Hyp.C s_0 a0, oDTerm s_1 a1.sub, oEt]) {k : Nat} {r : Bool} (H : law13_TypesNobody.f k a0 a1 a2 = some r) :
  Calls PP F_law13_TypesNobody #[s_0.v, .agg (Term.C (⟨a1.kind, a1.name, a1.other, a1.form, s_1⟩ : Term)).toArray, .int .i64 a2] w fun e w' => ∃ v, e = .returned v ∧ (v = .bool r ∧ St A N w w' [] []) := by
 unfold law13_TypesNobody.f at H
 refine calls_of_wc (n := 24) fn_law13_TypesNobody rfl rfl (by simp) ?_
 refine wc_seq (wc_region ?_)
 refine wl_box_agg rfl (by decide) fun b2 w1 hw1 => ?_
 replace S : St A N w w1 [oB b2 T_Term (Term.C (⟨a1.kind, a1.name, a1.other, a1.form, s_1⟩ : Term))] [fS 2 Hyp.C s_0 a0, oDTerm s_1 a1.sub, oEt] := S.new hw1
 refine wd (does_as_b rfl) ?_
 refine wl_nil ?_
 refine wc_seq (wc_region ?_)
 replace S : St A N w w1 [oT none none, oB b2 T_Term (Term.C (⟨a1.kind, a1.name, a1.other, a1.form, s_1⟩ : Term))] [fS 2 Hyp.C s_0 a0, oDTerm s_1 a1.sub, oEt] := S.add (Ext.refl _) (oT.nil _) (fun _ x => x.elim)
 refine wd (does_as_p rfl) ?_
 refine wl_nil ?_
 refine wc_seq (wc_region ?_)
 refine wd (does_mv_p rfl) ?_
 refine wd (does_mv_l rfl) ?_
 refine wd (does_load_agg ag_Term rfl ((S.blk 1).all _ (Term.len _)) (Term.len _)) ?_
 refine wd (does_mv_i rfl) ?_
 obtain ⟨r3, er3, H⟩ := bind_ex H
 obtain ⟨B5, MB5, SB5, back⟩ := S.calln 0 ((.o 0 rfl (.z 0 rfl (.z 1 rfl (.z 2 rfl .nil)))))
 refine wl_call (does_call ca_law13_nobody) (by decide) (law13_nobody_st (a2 := a1) SB5 er3) ?_
 rintro _ w4 ⟨rfl, S2⟩
 replace S : St A N w w4 [oT none none, oB b2 T_Term (Term.C (⟨a1.kind, a1.name, a1.other, a1.form, s_1⟩ : Term))] [fS 2 Hyp.C s_0 a0, oDTerm s_1 a1.sub, oEt] := back _ _ _ _ S2 rfl
 clear back S2 SB5
 refine wd (does_mv_b rfl) ?_
 refine wl_guard (j := 5) (pol := true) rfl rfl rfl (by decide) (fun hg => does_build bu_Tab Bld.nil) (by decide) ?_
 obtain ⟨hg6, H⟩ := chk_ex H
 refine wl_gon (j := 5) (pol := true) rfl rfl rfl (by decide) (by simpa using hg6) ?_
 refine wl_box_agg (gv_yes (by simpa using hg6)) (by decide) fun b8 w7 hw7 => ?_
 replace S : St A N w w7 [oT (some ⟨b8, 0, none⟩) none, oT none none, oB b2 T_Term (Term.C (⟨a1.kind, a1.name, a1.other, a1.form, s_1⟩ : Term))] [fS 2 Hyp.C s_0 a0, oDTerm s_1 a1.sub, oEt] := (S.new hw7).zeroT
 refine wl_guard (j := 5) (pol := true) rfl rfl rfl (by decide) (fun hg => does_mv_l rfl) (by decide) ?_
 refine wl_guard (j := 5) (pol := true) rfl rfl rfl (by decide) (fun hg => does_load_agg ag_Term rfl ((S.blk 2).all _ (Term.len _)) (Term.len _)) (by decide) ?_
 refine wl_guard (j := 5) (pol := true) rfl rfl rfl (by decide) (fun hg => does_mv_i rfl) (by decide) ?_
 obtain ⟨r9, er9, H⟩ := bind_ex H
 refine wl_gcall (j := 5) (pol := true) rfl rfl rfl (by decide) (fun hg => does_callg ca_law13_nobody (cons2 rfl (cons2 (gv_yes hg) (cons2 (gv_yes hg) (cons2 (gv_yes hg) rfl))))) (by decide) (fun hg => (have ⟨M, SS⟩ := S.lend ((.o 0 rfl (.z 0 rfl (.z 1 rfl (.z 2 rfl .nil))))); quiet (law13_nobody_st (a2 := a1) SS (if_t (by simpa using hg) er9)) (fun v w' h => ⟨h.1, _, _, h.2⟩))) fun w10 hw10 => ?_
 replace S := S.ext hw10
 refine wd (does_and rfl (fun hp => (gv_yes (and_1 hp)))) ?_
 refine wd (does_mv_b rfl) ?_
 obtain ⟨r11, er11, H⟩ := bind_ex H
 refine wl_gcall (j := 13) (pol := true) rfl rfl rfl (by decide) (fun hg => does_callg ca_law13_heads rfl) (by decide) (fun hg => (have ⟨M, SS⟩ := S.lend ((.z 2 rfl .nil)); quiet (law13_heads_st SS (if_t (by simpa using hg) er11)) (fun v w' h => ⟨h.1, _, _, h.2⟩))) fun w12 hw12 => ?_
 replace S := S.ext hw12
 refine wd (does_and rfl (fun hp => (gv_yes (and_1 hp)))) ?_
 refine wd (does_as_b rfl) ?_
 refine wl_nil ?_
 refine wc_ret ?_
 refine ⟨_, (rets1 (retOne_tmp rfl)), ?_⟩
 replace S : St A N w w12 [] [] := S.arr [] []
 obtain rfl := Option.some.inj H
 exact ⟨rfl, S⟩
end Go.Proofs.YtjebgcoknpcadaaDoor
end
section
namespace Go.Proofs.YtjebgcoknpcadaaDoor
open Gw
abbrev nd (M : List Nd) (i : Int) : Nd := (nodeS M i).1
structure Wf (M : List Nd) : Prop where
 len : M.length ≤ 1024
 nodup : M.Nodup
 kind : ∀ i : Int, inb i M.length = true → (nd M i).kind = 1 ∨ (nd M i).kind = 2 ∨ (nd M i).kind = 3 ∨ (nd M i).kind = 4 ∨ (nd M i).kind = 5
 kids : ∀ i : Int, inb i M.length = true → (nd M i).kind = 3 ∨ (nd M i).kind = 4 ∨ (nd M i).kind = 5 → (0 ≤ (nd M i).l ∧ (nd M i).l < i) ∧ 0 ≤ (nd M i).r ∧ (nd M i).r < i
end Go.Proofs.YtjebgcoknpcadaaDoor
end
section
namespace Go.Proofs.YtjebgcoknpcadaaDoor
end Go.Proofs.YtjebgcoknpcadaaDoor
end
section
namespace Go.Proofs.YtjebgcoknpcadaaDoor
open Gw
-- terms: nodes, levels, what is right
mutual
def depT : PTerm → Nat
 | .mk _ _ _ _ s => 1 + depL s
def depL : List PTerm → Nat
 | [] => 0
 | x :: l => max (depT x) (depL l)
end
def partsS (k : Int) : Int := if k = 1 then 0 else if k = 9 then 3 else if k = 3 ∨ k = 4 ∨ k = 12 then 2 else if k = 2 ∨ k = 5 ∨ k = 6 ∨ k = 7 ∨ k = 8 ∨ k = 10 ∨ k = 11 then 1 else -1
def nodeR (x : PTerm) : Bool :=
 decide (partsS x.kind = x.sub.length) && (if x.kind = 1 ∨ x.kind = 2 ∨ x.kind = 9 ∨ x.kind = 12 then decide (isWord x.name) else decide (x.name = ⟨#[]⟩)) &&
  (if x.kind = 9 then decide (isWord x.other) else decide (x.other = ⟨#[]⟩)) && (if x.kind = 11 then decide (0 ≤ x.form) && decide (x.form < 1024) else decide (x.form = 0))
mutual
def rightT : PTerm → Bool
 | .mk k n o f s => nodeR (.mk k n o f s) && rightL s
def rightL : List PTerm → Bool
 | [] => true
 | x :: l => rightT x && rightL l
end
mutual
def nmT : PTerm → Prop
 | .mk _ n o _ s => n.size < 9223372036854775808 ∧ o.size < 9223372036854775808 ∧ nmL s
def nmL : List PTerm → Prop
 | [] => True
 | x :: l => nmT x ∧ nmL l
end
inductive TR where
 | ok (f : Int)
 | no (c : Int) (way : List Int)
 deriving DecidableEq
namespace TR
def at_ (i : Int) : TR → TR
 | ok f => ok f
 | no c w => no c (i :: w)
def bind (r : TR) (k : Int → TR) : TR := match r with
 | ok f => k f
 | no c w => no c w
def code : TR → Int
 | ok _ => 0
 | no c _ => c
def way : TR → List Int
 | ok _ => []
 | no _ w => w
def form : TR → Int
 | ok f => f
 | no _ _ => 0
end TR
abbrev Sc := List (ByteArray × Int)
def ofK (M : List Nd) (f k : Int) (g : Nd → TR) : TR := if (nd M f).kind = k then g (nd M f) else .no 130 []
def toldS (M : List Nd) (P : Int → Sc → Option Int → TR) (s : Sc) (x : PTerm) : TR :=
 if x.kind = 1 then (match s.find? (fun q => decide (q.1 = x.name)) with | some q => .ok q.2 | none => .no 131 [])
 else if x.kind = 3 then (P 0 s none).bind fun f => ofK M f 5 fun n => (P 1 s (some n.l)).bind fun _ => .ok n.r
 else if x.kind = 5 then (P 0 s none).bind fun f => ofK M f 3 fun n => .ok n.l
 else if x.kind = 6 then (P 0 s none).bind fun f => ofK M f 3 fun n => .ok n.r
 else if x.kind = 11 then (if inb x.form M.length then (P 0 s (some x.form)).bind fun _ => .ok x.form else .no 31 [])
 else if x.kind = 12 then (P 0 s none).bind fun f => P 1 ((x.name, f) :: s) none
 else if x.kind = 9 then (P 0 s none).bind fun f => ofK M f 4 fun n => (P 1 ((x.name, n.l) :: s) none).bind fun a => (P 2 ((x.other, n.r) :: s) none).bind fun b => if a = b then .ok a else .no 130 []
 else .no 132 []
def chkdS (M : List Nd) (P : Int → Sc → Option Int → TR) (s : Sc) (x : PTerm) (id : Int) : TR :=
 if x.kind = 2 then ofK M id 5 fun n => P 0 ((x.name, n.l) :: s) (some n.r)
 else if x.kind = 4 then ofK M id 3 fun n => (P 0 s (some n.l)).bind fun _ => P 1 s (some n.r)
 else if x.kind = 7 then ofK M id 4 fun n => P 0 s (some n.l)
 else if x.kind = 8 then ofK M id 4 fun n => P 0 s (some n.r)
 else if x.kind = 9 then (P 0 s none).bind fun f => ofK M f 4 fun n => (P 1 ((x.name, n.l) :: s) (some id)).bind fun _ => P 2 ((x.other, n.r) :: s) (some id)
 else if x.kind = 10 then (P 0 s none).bind fun f => ofK M f 2 fun _ => .ok id
 else if x.kind = 12 then (P 0 s none).bind fun f => P 1 ((x.name, f) :: s) (some id)
 else (toldS M P s x).bind fun f => if f = id then .ok id else .no 130 []
def tyS (M : List Nd) : Nat → PTerm → Sc → Option Int → TR
 | 0, _, _, _ => .no 132 []
 | k + 1, x, s, want =>
  let P : Int → Sc → Option Int → TR := fun i s' w => (tyS M k (at_ PTerm.z x.sub i) s' w).at_ i
  match want with
  | none => toldS M P s x
  | some id => chkdS M P s x id
end Go.Proofs.YtjebgcoknpcadaaDoor
end
section
namespace Go.Proofs.YtjebgcoknpcadaaDoor
open Gw
end Go.Proofs.YtjebgcoknpcadaaDoor
end
section
namespace Go.Proofs.YtjebgcoknpcadaaDoor
open Gw
def err : TR → Option (Int × List Int)
 | .ok _ => none
 | .no c w => some (c, w.reverse)
abbrev Tc : Type := PChecker → PTerm → List (ByteArray × Int) → Option (Int × Option (Int × List Int))
abbrev Cc : Type := PChecker → PTerm → List (ByteArray × Int) → Int → Option (Option (Int × List Int))
def Sok (M : List Nd) (s : Sc) : Prop := ∀ q ∈ s, inb q.2 M.length = true
def Tells (M : List Nd) (r : Option (Int × Option (Int × List Int))) (t : TR) : Prop := ∃ i, r = some (i, err t) ∧ ∀ f, t = .ok f → i = f ∧ inb f M.length = true
section
variable {M : List Nd} {x : PTerm} {k : Nat} {T : Tc} {C : Cc}
structure Parts (M : List Nd) (k : Nat) (x : PTerm) (T : Tc) (C : Cc) : Prop where
 told : ∀ i, inb i x.sub.length = true → ∀ s, Sok M s → Tells M (T ⟨some M⟩ (at_ PTerm.z x.sub i) s) (tyS M k (at_ PTerm.z x.sub i) s none)
 chkd : ∀ i, inb i x.sub.length = true → ∀ s, Sok M s → ∀ id, inb id M.length = true → C ⟨some M⟩ (at_ PTerm.z x.sub i) s id = some (err (tyS M k (at_ PTerm.z x.sub i) s (some id)))
end
end Go.Proofs.YtjebgcoknpcadaaDoor
end
section
namespace Go.Proofs.YtjebgcoknpcadaaDoor
open Gw
end Go.Proofs.YtjebgcoknpcadaaDoor
end
section
namespace Go.Proofs.YtjebgcoknpcadaaDoor
open Gw
theorem TypesNobody_true {k : Nat} (hh : law13_heads.f k = some true) (l : List Hyp) (x : PTerm) (id : Int) : law13_TypesNobody.f k l x id = some true := by
 have h1 : ∀ ids, types_ahead.f k none l x ids = some ([], 1) := fun ids => by simp [types_ahead.f, formula_Table_Not_neg.f]
 have h2 : law13_nobody.f k none l x id = some true := by
  simp [law13_nobody.f, types_Infer.f, types_Where.f, types_Check.f, h1]
 unfold law13_TypesNobody.f
 simp [h2, hh, chk]
theorem heads13 : law13_heads.f 70000 = some true := by decide +kernel
end Go.Proofs.YtjebgcoknpcadaaDoor
end
section
namespace Go.Proofs.YtjebgcoknpcadaaDoor
open Gw Go.ChangeShapes Go.WideShapes Go.ChangeAt Go.RowKit
set_option maxRecDepth 100000
theorem ownKnob_none : ownKnob PP.godebug = none := by kernel_rfl
theorem laidOut_PP : laidOutB PP = true := by kernel_rfl
theorem trodAll_stays {H : Type} {enc : TypeId × Value → H} {W W' : World} {sp : Nat → Bool} : ∀ {ts : List TypeId} {vs : List Value} {ds : List (DataW H)} {ps : List MemPlace}, (∀ t ∈ ts, PP.readableRec t = true ∧ t < PP.types.size) →
  DataW.TrodAll enc PP W 0 (fun _ => true) true ts vs ds ps → (∀ p ∈ ps, W.sameAt W' p) → (∀ p ∈ ps, sp p.block = true) → DataW.TrodAll enc PP W' 0 sp true ts vs ds ps
 | [], vs, ds, ps, _, h, _, _ => by
  obtain ⟨rfl, rfl, rfl⟩ := trodAll_nil h
  exact trodAll_mk0
 | t :: ts, vs, ds, ps, hr, h, h1, h2 => by
  obtain ⟨v, vs, d, ds, p, q, rfl, rfl, rfl, h0, h3⟩ := trodAll_cons h
  have ht := hr t (by simp)
  exact trodAll_cons_mk (WideElems.Trod_stays laidOut_PP ht.1 ht.2 h0 (fun x hx => h1 x (by simp [hx])) (fun x hx => h2 x (by simp [hx])))
   (trodAll_stays (fun t ht => hr t (by simp [ht])) h3 (fun x hx => h1 x (by simp [hx])) (fun x hx => h2 x (by simp [hx])))
def oth0 : Oth := ⟨fun _ => False, [], fun _ h => by cases h⟩
section
variable {P : Program} {W : World} {b t : Nat} {k : IntKind} {v : Value}
theorem cell_int (ht : P.underlying t = some (.int k)) (h : Cell.okWide P W .any b t v) : ∃ n, v = .int k n ∧ k.has n := by
 simp only [Cell.okWide, ht] at h
 cases v <;> simp_all [Cell.ok]
theorem int_of (ht : P.underlying t = some (.int k)) (h : Value.okWide P W .any b t v) : ∃ n, v = .int k n ∧ k.has n := by
 unfold Value.okWide at h
 rw [ht] at h
 exact cell_int ht h
end
section
variable {H : Type} {enc : TypeId × Value → H} {P : Program} {W : World} {t : TypeId} {fuel : Nat} {cs : List Value} {x : DataW H × List MemPlace} {sp : Nat → Bool} {hd : Bool} {b0 : Nat}
theorem take_one {l : List Value} {o : Nat} {v : Value} (h : (l.drop o).take 1 = [v]) : l[o]? = some v := by
 have : ((l.drop o).take 1)[0]? = some v := by rw [h]; rfl
 rw [List.getElem?_take] at this
 simpa using this
theorem fld_int {i off ft : Nat} {k : IntKind} (hf : FieldV P t i off ft) (hk : P.underlying ft = some (.int k)) (hc : P.cellsOf ft = 1) (h : DataW.trod enc P W b0 sp hd fuel t cs = some x) : ∃ n, cs[off]? = some (.int k n) := by
 obtain ⟨fs, fd, hu, hi, rfl, rfl⟩ := hf
 obtain ⟨xs, n, _, _, hl, hx, hall⟩ := DataW.trod_struct hu h
 have h1 := hall i fd hi
 have h2 : i < xs.length := by rw [hx]; exact (Array.getElem?_eq_some_iff.1 hi).1
 rw [List.getElem?_eq_getElem h2, hc] at h1
 obtain ⟨n, e, _⟩ := DataW.trod_int hk h1
 exact ⟨n, take_one e⟩
theorem fld_str {i off ft : Nat} (hf : FieldV P t i off ft) (hk : P.underlying ft = some .string) (hc : P.cellsOf ft = 1) (h : DataW.trod enc P W b0 sp hd fuel t cs = some x) : ∃ s : ByteArray, cs[off]? = some (.string s) ∧ s.size ≤ maxLen := by
 obtain ⟨fs, fd, hu, hi, rfl, rfl⟩ := hf
 obtain ⟨xs, n, _, _, hl, hx, hall⟩ := DataW.trod_struct hu h
 have h1 := hall i fd hi
 have h2 : i < xs.length := by rw [hx]; exact (Array.getElem?_eq_some_iff.1 hi).1
 rw [List.getElem?_eq_getElem h2, hc] at h1
 obtain ⟨s, e, _, hs⟩ := DataW.trod_string hk h1
 exact ⟨s, take_one e, hs⟩
theorem slice_of {α : Type} [Inhabited α] {e k : Nat} {C : α → List Value} {Q : α → Prop} {base : Nat} {v : Value} {d : DataW H} {ps : List MemPlace} (ht : P.underlying t = some (.slice e)) (hk : P.cellsOf e = k) (hC : ∀ a, (C a).length = k) (hk0 : 0 < k)
  (hel : ∀ (n : Nat) (cs : List Value) (x : DataW H × List MemPlace), DataW.trod enc P W 0 (fun _ => true) true n e cs = some x → ∃ a, cs = C a ∧ Q a)
  (hval : Value.okWide P W .any base t v) (h : DataW.Trod enc P W 0 (fun _ => true) true t v d ps) :
  ∃ (l : List α) (s : SlV), v = s.v ∧ Rd W k s (l.map C) ∧ (∀ a ∈ l, Q a) ∧ (l = [] ∨ ∃ elems spare, d = .slice elems spare ∧ elems.length = l.length) := by
 obtain ⟨a0, len0, cap0, rfl⟩ := okWide_slice ht hval
 obtain ⟨fuel, hf⟩ := h
 rcases Deep.open_slice ht hf with ⟨h1, h2⟩ | ⟨a, len, cap, m, n, D, Pl, h1, _, hlc, hcm, hm, h2, hx⟩
 ·simp [Value.cells] at h1
  obtain ⟨rfl, rfl, rfl⟩ := h1
  exact ⟨[], SlV.nil, SlV.nil_eq, Rd.nil W k, by simp, .inl rfl⟩
 ·simp [Value.cells] at h1
  obtain ⟨rfl, rfl, rfl⟩ := h1
  have hval2 := hval
  simp only [Value.okWide, ht, Cell.okWide, Cell.ok] at hval2
  obtain ⟨_, _, _, hspot, row, cells, hshape, _⟩ := hval2
  obtain ⟨ab, ao, asp⟩ := a
  obtain rfl : asp = none := hspot
  simp only at hshape
  have hlt : ab < W.heap.size := by
   unfold World.shape? at hshape
   cases hh : W.heap[ab]? with
   | none => rw [hh] at hshape; cases hshape
   | some o => exact (Array.getElem?_eq_some_iff.1 hh).1
  have hmc : m = cap0 := by rw [hm]; rfl
  obtain ⟨f, hfx⟩ := Deep.choose_lt (α := α) (n := len0) (p := fun i y => W.cells? 0 ((⟨ab, ao, none⟩ : Addr).add (i * P.cellsOf e)) (P.cellsOf e) = some (C y) ∧ Q y) (fun i hi => by
   obtain ⟨cs', hc, ht'⟩ := hx i (by omega)
   obtain ⟨y, rfl, hq⟩ := hel _ _ _ ht'
   exact ⟨y, hc, hq⟩)
  refine ⟨(List.range len0).map f, ⟨some ⟨ab, ao, none⟩, len0, cap0⟩, by rw [SlV.eq], ⟨⟨by simp, ?_, ?_⟩, ?_, hlc⟩, ?_, .inr ⟨_, _, by simpa using congrArg Prod.fst h2, by simp⟩⟩
  ·intro r hr
   obtain ⟨y, _, rfl⟩ := List.mem_map.1 hr
   exact hC y
  ·intro i r hr
   rw [List.getElem?_map, List.getElem?_map] at hr
   have hi : i < len0 := by
    refine Nat.lt_of_not_le fun q => ?_
    rw [List.getElem?_eq_none (by simpa using q)] at hr; cases hr
   rw [List.getElem?_eq_getElem (by simpa using hi)] at hr
   simp only [List.getElem_range, Option.map_some, Option.some.injEq] at hr
   subst hr
   obtain ⟨h3, _⟩ := hfx i hi
   obtain ⟨_, hl, hc⟩ := World.cells?_some h3
   refine ⟨rfl, fun j v hv => ?_⟩
   have hj : j < k := by have := (List.getElem?_eq_some_iff.1 hv).1; rw [hC] at this; exact this
   have h4 := hc j (by rw [hk]; exact hj)
   rw [hv] at h4
   have hadd : ((⟨ab, ao, none⟩ : Addr).add (i * P.cellsOf e)).add j = ⟨ab, ao + i * k + j, none⟩ := by
    rw [hk]
    unfold Addr.add
    by_cases h5 : i * k = 0
    ·by_cases h6 : j = 0
     ·simp [h5, h6]
     ·simp [h5, h6]
    ·by_cases h6 : j = 0
     ·simp [h5, h6]
     ·simp [h5, h6]
   rw [hadd] at h4
   exact h4
  ·rintro i ⟨_, rfl⟩
   exact hlt
  ·intro y hy
   obtain ⟨i, hi, rfl⟩ := List.mem_map.1 hy
   exact (hfx i (List.mem_range.1 hi)).2
end
instance : Inhabited Nd := ⟨Nd.z⟩
theorem bulk_one {H : Type} (d : DataW H) : 1 ≤ Rows.uptoBulk d := by
 cases d with
 | lit l => cases l <;> simp [Rows.uptoBulk]
 | nil => simp [Rows.uptoBulk]
 | ptr d => simp [Rows.uptoBulk]
 | slice elems spare => simp [Rows.uptoBulk]
 | agg parts => simp [Rows.uptoBulk]
 | iface t d => simp [Rows.uptoBulk]
 | map entries => simp [Rows.uptoBulk]
 | held h => simp [Rows.uptoBulk]
theorem bulk_part {H : Type} {d : DataW H} {l : List (DataW H)} (h : d ∈ l) : Rows.uptoBulk d ≤ Rows.uptoBulkAll l := by
 induction l with
 | nil => cases h
 | cons x r ih =>
  simp only [Rows.uptoBulkAll]
  cases List.mem_cons.1 h with
  | inl e => subst e; omega
  | inr e => have := ih e; omega
theorem bulk_len {H : Type} (l : List (DataW H)) : l.length ≤ Rows.uptoBulkAll l := by
 induction l with
 | nil => simp [Rows.uptoBulkAll]
 | cons x r ih => have := bulk_one x; simp only [Rows.uptoBulkAll, List.length_cons]; omega
theorem small_len {H : Type} {α : Type} {l : List α} {d : DataW H} {ds : List (DataW H)} (hk : Rows.uptoSmall H ds = true) (hd : d ∈ ds) (h : l = [] ∨ ∃ elems spare, d = .slice elems spare ∧ elems.length = l.length) : l.length ≤ 1048576 := by
 rcases h with rfl | ⟨elems, spare, rfl, he⟩
 ·simp
 ·have h1 := bulk_part hd
  have h2 := bulk_len elems
  have h3 : Rows.uptoBulkAll ds ≤ 1048576 := by simpa [Rows.uptoSmall] using hk
  simp only [Rows.uptoBulk] at h1
  omega
def Held (W : World) (Z : List OA) : Prop := ∀ z ∈ Z, ∃ F, z.holds W F
theorem Held.nil {W : World} : Held W [] := fun _ h => by cases h
theorem Held.cons {W : World} {z : OA} {Z : List OA} (h : ∃ F, z.holds W F) (hz : Held W Z) : Held W (z :: Z) := fun x hx => by
 rcases List.mem_cons.1 hx with rfl | hx
 ·exact h
 ·exact hz x hx
theorem Held.s {W : World} {Z : List OA} {k : Nat} {α : Type} {C : α → List Value} {s : SlV} {l : List α} (hr : Rd W k s (l.map C)) (hl : l.length ≤ 140737488355328) (hz : Held W Z) : Held W (fS k C s l :: Z) :=
 .cons ⟨s.fp, ⟨hr, hl⟩, fun _ => Iff.rfl⟩ hz
theorem stheld {W : World} {Z : List OA} (h : Held W Z) : St (fun _ => False) oth0 W W [] Z :=
 ⟨fun _ => False, fun _ h => h.elim, fun _ h => h.elim, Chg.refl _ _, trivial, fun z hz => by
  obtain ⟨F, hF⟩ := h z hz
  exact ⟨F, hF, fun i _ q => q.elim (fun x => x) (fun x => x)⟩, fun d hd => absurd hd (by simp [oth0])⟩
theorem gEt : PP.globalNamed "errors.errorType" = some 0 := by kernel_rfl
theorem gRt : (PP.cutTypes.find? (·.1 == "internal/reflectlite.rtype")).map (·.2) = some 181 := by kernel_rfl
theorem gSize : PP.types.size = 260 := by kernel_rfl
theorem gRow : ((List.range 260).filter fun t => PP.rowNamed t [101, 114, 114, 111, 114]) = [72] := by kernel_rfl
theorem gHandle : typeHandle PP 72 = .pointer (some ⟨4, 72, none⟩) := by kernel_rfl
theorem et_of {W : World} (h : laidMetH PP [("errors.errorType", Rows.laid_errors_errorType)] W) : Et W := by
 have h' : laidMet PP [] W ∧ handlesMet PP [("errors.errorType", Rows.laid_errors_errorType)] W := h
 obtain ⟨name, u, ty, e1, e2, e3, e4, e5⟩ := h'.2 _ (List.mem_singleton.2 rfl)
 have en : name = [101, 114, 114, 111, 114] := (Option.some.inj e1).symm
 subst en
 obtain rfl := Option.some.inj (gRt.symm.trans e2)
 have hm : ty ∈ (List.range 260).filter fun t => PP.rowNamed t [101, 114, 114, 111, 114] := List.mem_filter.2 ⟨List.mem_range.2 (by rw [← gSize]; exact e3), e4⟩
 rw [gRow] at hm
 obtain rfl := List.mem_singleton.1 hm
 rw [gHandle] at e5
 intro j v hj
 cases j with
 | zero => simp at hj; subst hj; simpa [etV] using World.var?_cell gEt e5 0
 | succ j => simp at hj
theorem Held.et {W : World} {Z : List OA} (h : Et W) (hz : Held W Z) : Held W (oEt :: Z) := .cons ⟨fun i => i = 0, h, fun _ => Iff.rfl⟩ hz
-- terms
instance : Inhabited Term := ⟨Term.z⟩
instance : Inhabited PTerm := ⟨PTerm.z⟩
theorem bulk_get {H : Type} {xs : List (DataW H × List MemPlace)} {i : Nat} {z : DataW H × List MemPlace} (h : xs[i]? = some z) : Rows.uptoBulk z.1 ≤ Rows.uptoBulkAll (xs.map (·.1)) :=
 bulk_part (List.mem_map.2 ⟨z, List.mem_of_getElem? h, rfl⟩)
theorem bigA_of {w : World} {μ α : Type} {R : μ → α → OA} : ∀ {ms : List μ} {l : List α}, ms.length = l.length → (∀ (i : Nat) m x, ms[i]? = some m → l[i]? = some x → ∃ F, (R m x).holds w F) → ∃ F, (bigA R ms l).holds w F
 | [], [], _, _ => ⟨fun _ => False, trivial, fun _ x => x⟩
 | m :: ms, x :: xs, hl, h => by
  obtain ⟨F, hF⟩ := h 0 m x rfl rfl
  obtain ⟨G, hG⟩ := bigA_of (ms := ms) (l := xs) (by simpa using hl) fun i m x h1 h2 => h (i + 1) m x (by simpa using h1) (by simpa using h2)
  exact ⟨fun i => F i ∨ G i, F, G, hF, hG, fun _ => Iff.rfl⟩
 | [], _ :: _, hl, _ => by simp at hl
 | _ :: _, [], hl, _ => by simp at hl
theorem nmL_of : ∀ {l : List PTerm}, (∀ x ∈ l, nmT x) → nmL l
 | [], _ => trivial
 | x :: l, h => ⟨h x (by simp), nmL_of fun y hy => h y (by simp [hy])⟩
theorem term_trod {H : Type} {enc : TypeId × Value → H} {W : World} (fuel : Nat) : ∀ {cs : List Value} {x : DataW H × List MemPlace}, DataW.trod enc PP W 0 (fun _ => true) true fuel T_Term cs = some x → Rows.uptoBulk x.1 ≤ 1048576 →
  ∃ (m : Term) (y : PTerm), cs = Term.C m ∧ (m.kind = y.kind ∧ m.name = y.name ∧ m.other = y.other ∧ m.form = y.form) ∧ nmT y ∧ ∃ F, (fTerms m.sub y.sub).holds W F := by
 induction fuel using Nat.strongRecOn with
 | _ fuel ih =>
 intro cs x hx hb
 obtain ⟨k, hk⟩ := fld_int fv_Term_kind un_api_TermKind (by kernel_rfl) hx
 obtain ⟨n, hn, hns⟩ := fld_str fv_Term_name un_string (by kernel_rfl) hx
 obtain ⟨o, ho, hos⟩ := fld_str fv_Term_other un_string (by kernel_rfl) hx
 obtain ⟨f, hf⟩ := fld_int fv_Term_form un_int (by kernel_rfl) hx
 obtain ⟨fs, fd, hu, hi, hoff, hty⟩ := fv_Term_sub
 obtain ⟨xs, n1, hfu, hxx, hl, hlen, hall⟩ := DataW.trod_struct hu hx
 have hl : cs.length = 5 := hl.trans (by kernel_rfl)
 have h1 := hall 4 fd hi
 have h2 : 4 < xs.length := by rw [hlen]; exact (Array.getElem?_eq_some_iff.1 hi).1
 rw [hoff, hty, show PP.cellsOf T_L_api_Term = 1 from by kernel_rfl, List.getElem?_eq_getElem h2] at h1
 have hbz : Rows.uptoBulk (xs[4]).1 ≤ 1048576 := by
  have := bulk_get (List.getElem?_eq_getElem h2)
  rw [hxx] at hb
  simp only [Rows.uptoBulk] at hb
  omega
 have hmax : maxLen = 9223372036854775807 := rfl
 have hcs : ∀ v4, cs[4]? = some v4 → cs = [.int .i64 k, .string n, .string o, .int .i64 f, v4] := by
  intro v4 h4
  match cs, hl with
  | [c0, c1, c2, c3, c4], _ =>
   simp at hk hn ho hf h4
   subst hk hn ho hf h4
   rfl
 rcases DataW.trod_slice sl_L_api_Term.1 h1 with ⟨e1, e2⟩ | ⟨a, len, cap, elems, rest, n2, hfu2, e1, e2, _, hlc, hcm, hel, hget, _⟩
 ·have h4 := hcs _ (take_one e1)
  refine ⟨⟨k, n, o, f, SlV.nil⟩, .mk k n o f [], ?_, ⟨rfl, rfl, rfl, rfl⟩, ⟨by show n.size < _; omega, by show o.size < _; omega, trivial⟩, fun _ => False, (0, []), fun _ => False, fun _ => False, ⟨⟨Sl.nil W 5, by simp⟩, fun i => ⟨fun x => x.elim, fun x => absurd rfl x.1⟩⟩, ⟨trivial, fun _ x => x⟩, fun _ => ⟨fun x => x.elim, fun x => x.elim id id⟩⟩
  rw [h4, SlV.nil_eq]; rfl
 ·have h4 := hcs _ (take_one e1)
  have hbe : Rows.uptoBulkAll (elems.map (·.1)) ≤ 1048576 := by
   rw [e2] at hbz
   simp only [Rows.uptoBulk] at hbz
   omega
  have hlen2 : len ≤ 1048576 := by
   have := bulk_len (elems.map (·.1))
   rw [List.length_map, hel] at this
   omega
  have hone : ∀ i, i < len → ∃ q : Term × PTerm, (W.cells? 0 (a.add (i * PP.cellsOf T_Term)) (PP.cellsOf T_Term) = some (Term.C q.1)) ∧ (q.1.kind = q.2.kind ∧ q.1.name = q.2.name ∧ q.1.other = q.2.other ∧ q.1.form = q.2.form) ∧ nmT q.2 ∧ ∃ F, (fTerms q.1.sub q.2.sub).holds W F := by
   intro i hi'
   have h5 := hget i hi'
   have h6 : i < elems.length := by omega
   rw [List.getElem?_eq_getElem h6] at h5
   cases hc : W.cells? 0 (a.add (i * PP.cellsOf T_Term)) (PP.cellsOf T_Term) with
   | none => rw [hc] at h5; simp at h5
   | some cs' =>
    rw [hc] at h5
    simp only [Option.bind_some] at h5
    obtain ⟨m, y, rfl, hm, hy, hF⟩ := ih n2 (by omega) h5 (by have := bulk_get (List.getElem?_eq_getElem h6); omega)
    exact ⟨(m, y), rfl, hm, hy, hF⟩
  obtain ⟨g, hg⟩ := Deep.choose_lt (α := Term × PTerm) hone
  have hsz : PP.cellsOf T_Term = 5 := by kernel_rfl
  refine ⟨⟨k, n, o, f, ⟨some a, len, cap⟩⟩, .mk k n o f ((List.range len).map fun i => (g i).2), ?_, ⟨rfl, rfl, rfl, rfl⟩, ⟨by show n.size < _; omega, by show o.size < _; omega, nmL_of fun y hy => ?_⟩, ?_⟩
  ·rw [h4]; show _ = [_, _, _, _, SlV.v _]; rw [SlV.eq]
  ·obtain ⟨i, hi', rfl⟩ := List.mem_map.1 hy
   exact (hg i (List.mem_range.1 hi')).2.2.1
  ·have hsl : Sl W 5 ⟨some a, len, cap⟩ (((List.range len).map fun i => (g i).1).map Term.C) := by
    refine ⟨by simp, ?_, ?_⟩
    ·intro r hr
     obtain ⟨y, _, rfl⟩ := List.mem_map.1 hr
     exact Term.len y
    ·intro i r hr
     rw [List.getElem?_map, List.getElem?_map] at hr
     have hi' : i < len := by
      refine Nat.lt_of_not_le fun q => ?_
      rw [List.getElem?_eq_none (by simpa using q)] at hr; cases hr
     rw [List.getElem?_eq_getElem (by simpa using hi')] at hr
     simp only [List.getElem_range, Option.map_some, Option.some.injEq] at hr
     subst hr
     obtain ⟨_, _, hc0⟩ := World.cells?_some (hg 0 (by omega)).1
     obtain ⟨ab, ao, asp⟩ := a
     have hsp : asp = none := by
      have h7 := hc0 0 (by rw [hsz]; decide)
      simp only [Nat.zero_mul, Addr.add, if_true] at h7
      cases asp with
      | none => rfl
      | some q =>
       unfold World.cell? at h7
       simp only [Option.isSome_some, if_true] at h7
       split at h7
       ·exact absurd h7.symm (by simp [Term.C])
       ·exact absurd h7.symm (by simp [Term.C])
     subst hsp
     obtain ⟨_, _, hc⟩ := World.cells?_some (hg i hi').1
     refine ⟨rfl, fun j v hv => ?_⟩
     have hj : j < 5 := by have := (List.getElem?_eq_some_iff.1 hv).1; rw [Term.len] at this; exact this
     have h8 := hc j (by rw [hsz]; exact hj)
     rw [hv] at h8
     have hadd : ((⟨ab, ao, none⟩ : Addr).add (i * PP.cellsOf T_Term)).add j = ⟨ab, ao + i * 5 + j, none⟩ := by
      rw [hsz]
      unfold Addr.add
      by_cases h5 : i * 5 = 0
      ·by_cases h6 : j = 0
       ·simp [h5, h6]
       ·simp [h5, h6]
      ·by_cases h6 : j = 0
       ·simp [h5, h6]
       ·simp [h5, h6]
     rw [hadd] at h8
     exact h8
   have hbig : ∃ F, (bigA fTerm ((List.range len).map fun i => (g i).1) ((List.range len).map fun i => (g i).2)).holds W F := by
    refine bigA_of (by simp) fun i m x h1 h2 => ?_
    rw [List.getElem?_map] at h1 h2
    have hi' : i < len := by
     refine Nat.lt_of_not_le fun q => ?_
     rw [List.getElem?_eq_none (by simpa using q)] at h1; cases h1
    rw [List.getElem?_range hi'] at h1 h2
    simp only [Option.map_some, Option.some.injEq] at h1 h2
    subst h1 h2
    obtain ⟨_, he, _, F, hF⟩ := hg i hi'
    have := fTerm_mk (s := (g i).1.sub) hF
    rw [show mT (g i).2 (g i).1.sub = (g i).1 from by rw [mT, ← he.1, ← he.2.1, ← he.2.2.1, ← he.2.2.2]] at this
    exact ⟨F, this⟩
   obtain ⟨F, hF⟩ := hbig
   exact ⟨_, fTerms_mk (F := fun i => ((List.range len).map fun i => (g i).1) ≠ [] ∧ i = _) ⟨⟨hsl, by simp; omega⟩, fun _ => Iff.rfl⟩ hF⟩
theorem term_of {H : Type} {enc : TypeId × Value → H} {W : World} {v : Value} {d : DataW H} {ds : List (DataW H)} {ps : List MemPlace} {base : Nat} (hval : Value.okWide PP W .any base T_Term v) (h : DataW.Trod enc PP W 0 (fun _ => true) true T_Term v d ps) (hk : Rows.uptoSmall H ds = true) (hd : d ∈ ds) :
  ∃ (y : PTerm) (s : SlV), v = .agg (Term.C (⟨y.kind, y.name, y.other, y.form, s⟩ : Term)).toArray ∧ nmT y ∧ ∃ F, (oDTerm s y.sub).holds W F := by
 obtain ⟨fuel, hf⟩ := h
 have hb : Rows.uptoBulk d ≤ 1048576 := by
  have h1 := bulk_part hd
  have h3 : Rows.uptoBulkAll ds ≤ 1048576 := by simpa [Rows.uptoSmall] using hk
  omega
 obtain ⟨m, y, hc, he, hn, hF⟩ := term_trod fuel hf hb
 have hu : ∃ fs, PP.underlying T_Term = some (.struct fs) := by
  obtain ⟨fs, fd, hu, _⟩ := fv_Term_sub; exact ⟨fs, hu⟩
 obtain ⟨fs, hu⟩ := hu
 unfold Value.okWide at hval
 rw [hu] at hval
 obtain ⟨cs, rfl, _⟩ := hval
 refine ⟨y, m.sub, ?_, hn, hF⟩
 have hm : m = (⟨y.kind, y.name, y.other, y.form, m.sub⟩ : Term) := by rw [← he.1, ← he.2.1, ← he.2.2.1, ← he.2.2.2]
 rw [← hm]
 have hc' : cs.toList = Term.C m := hc
 rw [← hc']
theorem Held.f {W : World} {Z : List OA} {s : SlV} {l : List PTerm} (h : ∃ F, (oDTerm s l).holds W F) (hz : Held W Z) : Held W (oDTerm s l :: Z) := .cons h hz
-- hypotheses
instance : Inhabited Hyp := ⟨Hyp.z⟩
theorem hyp_trod {H : Type} {enc : TypeId × Value → H} {W : World} {n : Nat} {cs : List Value} {x : DataW H × List MemPlace} (hx : DataW.trod enc PP W 0 (fun _ => true) true n T_Hyp cs = some x) : ∃ a : Hyp, cs = Hyp.C a ∧ True := by
 obtain ⟨a, ha, has⟩ := fld_str fv_Hyp_name un_string (by kernel_rfl) hx
 obtain ⟨b, hb⟩ := fld_int fv_Hyp_form un_int (by kernel_rfl) hx
 obtain ⟨fs, fd, hu, _⟩ := fv_Hyp_name
 obtain ⟨xs, n', _, _, hl, _⟩ := DataW.trod_struct hu hx
 have hl : cs.length = 2 := hl.trans (by kernel_rfl)
 refine ⟨⟨a, b⟩, ?_, trivial⟩
 match cs, hl with
 | [v0, v1], _ =>
  simp at ha hb
  subst ha hb
  rfl
theorem hyps_of {H : Type} {enc : TypeId × Value → H} {W : World} {base : Nat} {v : Value} {d : DataW H} {ps : List MemPlace} (hval : Value.okWide PP W .any base T_L_api_Hyp v) (h : DataW.Trod enc PP W 0 (fun _ => true) true T_L_api_Hyp v d ps) :
  ∃ (l : List Hyp) (s : SlV), v = s.v ∧ Rd W 2 s (l.map Hyp.C) ∧ (∀ a ∈ l, True) ∧ (l = [] ∨ ∃ elems spare, d = .slice elems spare ∧ elems.length = l.length) :=
 slice_of sl_L_api_Hyp.1 (by kernel_rfl) Hyp.len (by decide) (fun n cs x hx => hyp_trod hx) hval h
end Go.Proofs.YtjebgcoknpcadaaDoor
end
section
namespace Go.Proofs.YtjebgcoknpcadaaDoor
open Gw Go.ChangeShapes Go.WideShapes Go.ChangeAt Go.RowKit
set_option maxRecDepth 100000
namespace LawTypesNobody
theorem contract (H : Type) (enc : TypeId × Value → H) (W : World) (base : Nat) (args : Array Value) (ds gs : List (DataW H)) (before : List MemPlace)
  (hval : ∀ (j : Nat) t v, D_law13_TypesNobody.params[j]? = some t → args[j]? = some v → Value.okWide PP W .any base t v)
  (hW : DataW.Whole enc PP D_law13_TypesNobody.params.toList Rows.typesNobodySpec.vars false W args.toList ds gs before) (hL : laidMetH PP Rows.typesNobodyUptoRow.laid W) (hsm : Rows.uptoSmall H (ds ++ gs) = true) :
  Calls PP F_law13_TypesNobody args W fun e W' => ∃ v, e = .returned v ∧ Rows.typesNobodySpec.post enc PP D_law13_TypesNobody false true false false W args v W' := by
 have hW' := hW
 have hlt := hW.lt
 obtain ⟨p, q, hA0, hV, rfl, hfz, hnd⟩ := hW
 have hA : DataW.TrodAll enc PP W 0 (fun _ => true) true D_law13_TypesNobody.params.toList args.toList ds p := hA0
 have hpar : D_law13_TypesNobody.params = #[T_L_api_Hyp, T_Term, T_int] := by kernel_rfl
 rw [hpar] at hA hval
 obtain ⟨v0, v1, v2, d0, d1, d2, p0, p1, p2, rfl, rfl, rfl, h0, h1, h2⟩ := trodAll_three hA
 obtain ⟨rfl, rfl⟩ := trodVars_none hV
 obtain ⟨a0, s0, rfl, hrd0, hnm0, hsl0⟩ := hyps_of (hval 0 _ _ rfl rfl) h0
 have hln0 := small_len hsm (by simp) hsl0
 obtain ⟨a1, s1, rfl, hnm1, hf1⟩ := term_of (hval 1 _ _ rfl rfl) h1 hsm (by simp)
 obtain ⟨a2, rfl, hr2⟩ := int_of (k := .i64) un_int (hval 2 _ _ rfl rfl)
 have S := stheld (W := W) (.s hrd0 (by omega) (.f hf1 (.et (et_of hL) .nil)))
 refine (law13_TypesNobody_st S (TypesNobody_true (k := 70000) heads13 a0 a1 a2)).mono fun e W' ⟨v, he, hv, hS⟩ => ?_
 subst hv
 have hx := hS.frame
 refine ⟨_, he, post_of_same (pa := p0 ++ p1 ++ p2) (pv := []) hW' (fun _ _ _ => trodAll_cons_mk (shut_bool un_bool _) trodAll_mk0) (fun sp hsp => ?_) (fun _ _ => rfl) (by simp) ((Ext.below hx).frame _) hx.froz (ok_one (by kernel_rfl) rfl (okWide_bool_mk un_bool _))⟩
 rw [hpar]
 refine trodAll_stays (ts := [T_L_api_Hyp, T_Term, T_int]) (fun t ht => ?_) hA (fun p hp => (Ext.below hx).same (hlt p (by simpa using hp))) (fun p hp => hsp p (by simpa using hp))
 simp only [List.mem_cons, List.not_mem_nil, or_false] at ht
 rcases ht with rfl | rfl | rfl <;> exact ⟨by kernel_rfl, of_decide_eq_true (by kernel_rfl)⟩
noncomputable def laidWorld (os : Os) : World :=
 { World.holding PP os ⟨#[], #[], []⟩ with heap := (World.holding PP os ⟨#[], #[], []⟩).heap.modify 0 fun
   | .cells _ t frozen => .cells #[etV] t frozen
   | o => o }
def argsN : Array Value := #[.slice none 0 0, .agg #[.int .i64 0, .string ByteArray.empty, .string ByteArray.empty, .int .i64 0, .slice none 0 0], .int .i64 0]
theorem laid_met (os : Os) : laidMetH PP Rows.typesNobodyUptoRow.laid ((laidWorld os).forCall (fun _ _ => 0) ⟨#[], argsN, []⟩).memory :=
 laidMetH_of_parts (laidMet_nil _ _) (by kernel_rfl)
def ddN (H : Type) : List (DataW H) := [.nil, .agg [.lit (.int .i64 0), .lit (.string []), .lit (.string []), .lit (.int .i64 0), .nil], .lit (.int .i64 0)]
theorem reads (os : Os) {H : Type} (enc : TypeId × Value → H) : ∃ places, DataW.whole enc PP ((laidWorld os).forCall (fun _ _ => 0) ⟨#[], argsN, []⟩).memory D_law13_TypesNobody.params.toList Rows.typesNobodySpec.vars false argsN.toList 8 = some (ddN H, [], places) :=
 ⟨[], by kernel_rfl⟩
theorem lifted (os : Os) (started : os.Started) (H : Type) (enc : TypeId × Value → H) (F : Stop.Interp) :
  ReturnsInHanded {} Tryd.checked os F_law13_TypesNobody .any ((Rows.OpenSpec.upto Rows.typesNobodySpec).preRow enc PP D_law13_TypesNobody Rows.typesNobodyUptoRow.domain false Rows.typesNobodyUptoRow.laid) (((Rows.OpenSpec.upto Rows.typesNobodySpec).at F).post enc PP D_law13_TypesNobody false true false false) := by
 obtain ⟨places, hx⟩ := reads os enc
 refine returnsInHanded_of_row (C := Tryd.checked) (s := Rows.OpenSpec.upto Rows.typesNobodySpec) ownKnob_none started (by kernel_rfl) fn_law13_TypesNobody
  (witness_row_at (enc := enc) (C := Tryd.checked) false (laidWorld os) argsN rfl (by kernel_rfl) (by kernel_rfl) (by kernel_rfl)
   (OpenSpec.preRow_of_cond 8 hx (by kernel_rfl) (fun k hk => by cases hk; kernel_rfl) (by kernel_rfl) (laid_met os))) ?_
 intro W base args ds gs before hval hW _ hcond _ hL _ _
 exact contract H enc W base args ds gs before hval hW hL (hcond _ rfl)
theorem said : Rows.TypesNobodyUptoSaid :=
 OpenClaim.holds_of_cond F_law13_TypesNobody D_law13_TypesNobody rfl rfl rfl rfl rfl rfl rfl ⟨rfl, rfl, rfl, rfl, rfl⟩ rfl rfl rfl rfl rfl (by kernel_rfl) fn_law13_TypesNobody (by kernel_rfl)
  (of_decide_eq_true (by kernel_rfl)) (by unfold Func.isWrapper; first | (rw [if_pos (by decide +kernel)]; kernel_rfl) | (rw [if_neg (by decide +kernel)]; exact ⟨rfl, rfl⟩))
  (fun os started H enc _ F => by rw [OpenClaim.pre_eq_preRow]; exact lifted os started H enc F)
theorem plain (f : FuncId) (fn : Func) (hf : Tryd.pinned.checked.prog.funcNamed "dictum/dictumlaw13.TypesNobody" = some f) (hfn : Tryd.pinned.checked.prog.funcs[f]? = some fn) :
  true = Tryd.pinned.checked.prog.looks [] ∧ ∀ (j : Nat) t, fn.params[j]? = some t → Tryd.pinned.checked.prog.wantsStandIn t = false := by
 obtain rfl : f = F_law13_TypesNobody := Option.some.inj ((show PP.funcNamed "dictum/dictumlaw13.TypesNobody" = some F_law13_TypesNobody by kernel_rfl).symm.trans hf) |>.symm
 obtain rfl : fn = D_law13_TypesNobody := (Option.some.inj (fn_law13_TypesNobody.symm.trans hfn)).symm
 refine ⟨by kernel_rfl, fun j t ht => ?_⟩
 rw [show D_law13_TypesNobody.params = #[T_L_api_Hyp, T_Term, T_int] by kernel_rfl] at ht
 have hm : t ∈ [T_L_api_Hyp, T_Term, T_int] := by simpa using Array.mem_of_getElem? ht
 simp only [List.mem_cons, List.not_mem_nil, or_false] at hm
 rcases hm with rfl | rfl | rfl
 ·exact (show PP.wantsStandIn T_L_api_Hyp = false by kernel_rfl)
 ·exact (show PP.wantsStandIn T_Term = false by kernel_rfl)
 ·exact (show PP.wantsStandIn T_int = false by kernel_rfl)
theorem card : Rows.TypesNobodyUptoCardSaid :=
 Claim7.holds_tied_plain_at .later [] _ _ _ _ said (fun _ h => by cases h) (by kernel_rfl) (fun _ h => by cases h) typesNobodyUpto_row_tie rfl ⟨rfl, rfl⟩ (by kernel_rfl) rfl plain (by kernel_rfl)
end LawTypesNobody
end Go.Proofs.YtjebgcoknpcadaaDoor
end
