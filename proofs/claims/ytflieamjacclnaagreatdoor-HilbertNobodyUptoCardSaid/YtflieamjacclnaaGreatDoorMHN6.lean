/- HilbertNobody, where what it reads is of the bulk that the row names: the row's statement and its card. The package variables that the row lists read as the program lays them. Printed by card16.py, a program of mine. -/
import Derived.Test.YtflieamjacclnaaGreatDoorMHN5
import Derived.Test.YtflieamjacclnaaGreatDoorCards
import Derived.Test.YtflieamjacclnaaGreatDoorTie
import Derived.WalkKit
import Derived.ProofKit
import Derived.OpenShut
import Derived.Deep.DeepHandedRow
import Derived.Deep.Slices
import Derived.LaidHandle
import Derived.Lib.LaidTab
import Derived.Lib.TrailingZeros
import Derived.ChangeSame
set_option linter.unusedVariables false
set_option linter.unusedSimpArgs false
section
namespace Go.Proofs.YtflieamjacclnaaGreatDoor
open Gw Go.RowKit
set_option maxHeartbeats 4000000
set_option maxRecDepth 20000
theorem octet_Dec_st {A : Nat → Prop} {N : Oth} {w : World} {a0 : Int} (S : St A N w w [] [oPw]) {r : ByteArray} (H : octet_Dec.f a0 = some r) :
  Calls PP F_octet_Dec #[.int .i64 a0] w fun e w' => ∃ v, e = .returned v ∧ (v = .string r ∧ St A N w w' [] []) := by
 unfold octet_Dec.f at H
 refine calls_of_wc (n := 5) fn_octet_Dec rfl rfl (by simp) (wc_seq (wc_region (wd (does_as_s rfl) (wl_nil (wc_seq (wc_region (wd (does_mv_i rfl) ?_)))))))
 obtain ⟨r1, er1, H⟩ := bind_ex H
 obtain ⟨B3, MB3, SB3, back⟩ := S.calln 0 ((.z 0 rfl .nil))
 refine wl_call (does_call ca_strconv_Itoa) (by decide) (strconv_Itoa_st SB3 er1) ?_
 rintro _ w2 ⟨rfl, S2⟩
 replace S := back _ _ _ _ S2 rfl
 clear back S2 SB3
 refine wd (does_as_s rfl) (wl_nil (wc_ret ?_))
 refine ⟨_, (rets1 (retOne_tmp rfl)), ?_⟩
 replace S := S.arr [] []
 obtain rfl := Option.some.inj H
 exact ⟨rfl, S⟩
theorem hilbert_Term_1_st {A : Nat → Prop} {N : Oth} {w : World} {a0 : Int} (S : St A N w w [] [oPw]) {r : ByteArray} (H : hilbert_Term_1.f a0 = some r) :
  Calls PP F_hilbert_Term_1 #[.int .i64 a0] w fun e w' => ∃ v, e = .returned v ∧ (v = .string r ∧ St A N w w' [] []) := by
 unfold hilbert_Term_1.f at H
 refine calls_of_wc (n := 6) fn_hilbert_Term_1 rfl rfl (by simp) (wc_seq (wc_region (wd (does_as_s rfl) (wl_nil (wc_seq (wc_region (wd (does_mv_i rfl) ?_)))))))
 obtain ⟨r1, er1, H⟩ := bind_ex H
 obtain ⟨B3, MB3, SB3, back⟩ := S.calln 0 ((.z 0 rfl .nil))
 refine wl_call (does_call ca_octet_Dec) (by decide) (octet_Dec_st SB3 er1) ?_
 rintro _ w2 ⟨rfl, S2⟩
 replace S := back _ _ _ _ S2 rfl
 clear back S2 SB3
 obtain ⟨hs4, H⟩ := chk_ex H
 refine wd (does_concat rfl rfl (of_decide_eq_true hs4)) (wd (does_as_s rfl) (wl_nil (wc_ret ?_)))
 refine ⟨_, (rets1 (retOne_tmp rfl)), ?_⟩
 replace S := S.arr [] []
 obtain rfl := Option.some.inj H
 exact ⟨rfl, S⟩
theorem hilbert_v_st {A : Nat → Prop} {N : Oth} {w : World} {a0 : ByteArray} (S : St A N w w [] []) {r : PTerm} (H : hilbert_v.f a0 = some r) :
  Calls PP F_hilbert_v #[.string a0] w fun e w' => ∃ v, e = .returned v ∧ (∃ so0 : SlV, v = .agg (Term.C (⟨r.kind, r.name, r.other, r.form, so0⟩ : Term)).toArray ∧ St A N w w' [] [oDTerm so0 r.sub]) := by
 unfold hilbert_v.f at H
 refine calls_of_wc (n := 5) fn_hilbert_v rfl rfl (by simp) (wc_seq (wc_region ?_))
 refine wl_alloc ze_Term (by decide) fun b2 w1 hw1 => ?_
 replace S := S.new hw1
 refine wl_nil (wc_seq (wc_region (wd (does_mv_s rfl) (wd (Does.to (v' := .agg (Term.C (⟨1, a0, ByteArray.empty, 0, SlV.nil⟩ : Term)).toArray) (does_buildv (vs := [(0, .int .i64 1), (1, .string a0)]) bu_Term (consP rfl (consP rfl rfl)) (Bld.one rfl rfl (by rw [Term.len]; decide) (Term.set_kind _ _) (Bld.one rfl rfl (by rw [Term.len]; decide) (Term.set_name _ _) Bld.nil))) rfl) ?_))))
 refine wl_store_agg ag_Term rfl rfl (S.blk 0) (Term.len _) (by rw [Term.len]; decide) (Term.one _) (store_all (Term.len _)) fun w3 B hw3 zw3 => ?_
 replace S := S.store 0 B hw3
 clear B
 refine wl_nil (wc_ret ?_)
 replace S := S.nilTm
 refine ⟨_, (rets1 (retOne_agg ag_Term rfl ((S.blk 0).all _ (Term.len _)) (Term.len _))), ?_⟩
 replace S := S.arr [] [0]
 obtain rfl := Option.some.inj H
 exact ⟨SlV.nil, rfl, S⟩
theorem hilbert_node_st {A : Nat → Prop} {N : Oth} {w : World} {a0 : Int} {a1 : List PTerm} {s_1 : SlV} (S : St A N w w [] [oDTerm s_1 a1]) {r : PTerm} (H : hilbert_node.f a0 a1 = some r) :
  Calls PP F_hilbert_node #[.int .i64 a0, s_1.v] w fun e w' => ∃ v, e = .returned v ∧ (∃ so0 : SlV, v = .agg (Term.C (⟨r.kind, r.name, r.other, r.form, so0⟩ : Term)).toArray ∧ St A N w w' [] [oDTerm so0 r.sub]) := by
 unfold hilbert_node.f at H
 refine calls_of_wc (n := 8) fn_hilbert_node rfl rfl (by simp) (wc_seq (wc_region ?_))
 refine wl_alloc ze_Term (by decide) fun b2 w1 hw1 => ?_
 replace S := S.new hw1
 refine wl_nil (wc_seq (wc_region (wd (does_mv_i rfl) (wd (does_mv_l rfl) (wd (Does.to (v' := .agg (Term.C (⟨a0, ByteArray.empty, ByteArray.empty, 0, s_1⟩ : Term)).toArray) (does_buildv (vs := [(0, .int .i64 a0), (4, s_1.v)]) bu_Term (consP rfl (consP rfl rfl)) (Bld.one rfl rfl (by rw [Term.len]; decide) (Term.set_kind _ _) (Bld.one rfl (SlV.one _ _ rfl) (by rw [Term.len]; decide) (Term.set_sub _ _) Bld.nil))) rfl) ?_)))))
 refine wl_store_agg ag_Term rfl rfl (S.blk 0) (Term.len _) (by rw [Term.len]; decide) (Term.one _) (store_all (Term.len _)) fun w3 B hw3 zw3 => ?_
 replace S := S.store 0 B hw3
 clear B
 refine wl_nil (wc_ret ?_)
 refine ⟨_, (rets1 (retOne_agg ag_Term rfl ((S.blk 0).all _ (Term.len _)) (Term.len _))), ?_⟩
 replace S := S.arr [] [0]
 obtain rfl := Option.some.inj H
 exact ⟨s_1, rfl, S⟩
theorem hilbert_fun_st {A : Nat → Prop} {N : Oth} {w : World} {a0 : PTerm} {s_0 : SlV} {a1 : List ByteArray} {s_1 : SlV} (S : St A N w w [] [oDTerm s_0 a0.sub, fS 1 SC s_1 a1]) {r : PTerm} (H : hilbert_fun.f a0 a1 = some r) :
  Calls PP F_hilbert_fun #[.agg (Term.C (⟨a0.kind, a0.name, a0.other, a0.form, s_0⟩ : Term)).toArray, s_1.v] w fun e w' => ∃ v, e = .returned v ∧ (∃ so0 : SlV, v = .agg (Term.C (⟨r.kind, r.name, r.other, r.form, so0⟩ : Term)).toArray ∧ St A N w w' [] [oDTerm so0 r.sub]) := by
 unfold hilbert_fun.f at H
 refine calls_of_wc (n := 16) fn_hilbert_fun rfl rfl (by simp) (wc_seq (wc_region ?_))
 refine wl_box_agg rfl (by decide) fun b2 w1 hw1 => ?_
 replace S := S.new hw1
 refine wl_alloc ze_Term (by decide) fun b4 w3 hw3 => ?_
 replace S := S.new hw3
 refine wl_nil (wc_seq (wc_seq (wc_region (wd (does_mv_l rfl) ?_))))
 refine wl_call (does_call ca_slices_Backward_string_string) (by decide) (slices_Backward_string_string_ok _ s_1) ?_
 rintro _ w5 ⟨c6, rfl, Bc6, hc6, Ec6⟩
 replace S := S.addZ (b := oB c6 T_L_string [s_1.v]) (G := (· = c6)) Ec6 ⟨Bc6, fun _ => Iff.rfl⟩ (fun i hi => by rw [hi]; exact hc6)
 refine wl_nil ?_
 refine wc_block ?_
 replace S := S.nilTm
 obtain ⟨o7, e7, Ho7⟩ := bind_ex H
 clear H
 refine wc_rangeSt2 (xs := bwd a1) (enc := fun (x : Int × ByteArray) => Value.int .i64 x.1) (enc2 := fun (x : Int × ByteArray) => Value.string x.2) (bd := (fun (x : Int × ByteArray) (s : PTerm) => hilbert_fun.b0 x.1 x.2 s)) (L := (fun (s : PTerm) (c : SlV) => [oB b4 T_Term (Term.C (⟨0, ByteArray.empty, ByteArray.empty, 0, SlV.nil⟩ : Term)), oB b2 T_Term (Term.C (⟨s.kind, s.name, s.other, s.form, c⟩ : Term))])) (Lr := (fun (_ : Empty) (_ : Unit) => [])) (Zf := (fun (s : PTerm) (c : SlV) => [oDTerm SlV.nil ([]), oB c6 T_L_string [s_1.v], oDTerm c s.sub, fS 1 SC s_1 a1])) (Zr := (fun (_ : Empty) (_ : Unit) => [])) s_0 false 0 rfl ca_slices_Backward_string_string_1 (slices_Backward_string_string_1_gives (S.len 3) c6) (by decide) (by decide) (fun N' s c W h => ⟨h.blkZ 1, h.rd 3⟩) S e7 ?_ ?_ ?_ ?_
 ·rintro ⟨i7, y7⟩ x7_0 s8 q7 N7 rd u7 H S
  replace S := S
  refine wc_region (wd (does_as_s rfl) (wl_nil ?_))
  refine ⟨rfl, _, _, S, fun M7 v7 S => ?_⟩
  replace S := S
  replace H : hilbert_fun.b0  i7 y7 x7_0 = some q7 := H
  unfold hilbert_fun.b0 at H
  try dsimp only at H
  refine wc_block (wc_region (wd (does_mv_s rfl) (wd (does_load_agg ag_Term rfl ((S.blk 1).all _ (Term.len _)) (Term.len _)) ?_)))
  refine wl_lits (C := Term.C) (l := [(⟨x7_0.kind, x7_0.name, x7_0.other, x7_0.form, s8⟩ : Term)]) (vs := [.agg (Term.C (⟨x7_0.kind, x7_0.name, x7_0.other, x7_0.form, s8⟩ : Term)).toArray]) sl_L_api_Term el_Term.zero rfl rfl (fun a _ => Term.len a) (by decide) rfl (by decide) fun b10 w9 s11 hBw9 hw9 => ?_
  replace S := ((S.lit hBw9 hw9 (by simp)).bigTm).consTm (x := x7_0) 2
  replace S := (S.frzTm 0 0).zs [0, 2, 3, 4, 5]
  refine wd (Does.to (v' := .agg (Term.C (⟨2, y7, ByteArray.empty, 0, s11⟩ : Term)).toArray) (does_buildv (vs := [(0, .int .i64 2), (1, .string y7), (4, s11.v)]) bu_Term (consP rfl (consP rfl (consP rfl rfl))) (Bld.one rfl rfl (by rw [Term.len]; decide) (Term.set_kind _ _) (Bld.one rfl rfl (by rw [Term.len]; decide) (Term.set_name _ _) (Bld.one rfl (SlV.one _ _ rfl) (by rw [Term.len]; decide) (Term.set_sub _ _) Bld.nil)))) rfl) ?_
  refine wl_store_agg ag_Term rfl rfl (S.blk 1) (Term.len _) (by rw [Term.len]; decide) (Term.one _) (store_all (Term.len _)) fun w12 B hw12 zw12 => ?_
  replace S := S.store 1 B hw12
  clear B
  refine wl_nil ?_
  replace S := S.arr [1, 0] [1, 2, 0, 4]
  obtain rfl := Option.some.inj H
  exact ⟨_, rfl, s11, S⟩
 ·rintro s7 s14 B7 w13 rfl S hB7
  replace S := S
  have H := Ho7
  dsimp only [fin] at H
  refine wc_seq (wc_region (wd (does_load_agg ag_Term rfl ((S.blk 1).all _ (Term.len _)) (Term.len _)) ?_))
  refine wl_store_agg ag_Term rfl rfl (S.blk 0) (Term.len _) (by rw [Term.len]; decide) (Term.one _) (store_all (Term.len _)) fun w15 B hw15 zw15 => ?_
  replace S := S.store 0 B hw15
  clear B
  refine wl_nil (wc_ret ?_)
  refine end1 (.inl rfl) (S.take hB7).1 fun w16 hcw16 => ?_
  replace S := (S.take hB7).2 _ hcw16
  refine ⟨_, (rets1 (retOne_agg ag_Term rfl ((S.blk 0).all _ (Term.len _)) (Term.len _))), ?_⟩
  replace S := S.arr [] [2]
  obtain rfl := Option.some.inj H
  exact ⟨s14, rfl, S⟩
 ·intro r; exact r.elim
 ·intro h; cases h
theorem hilbert_axiom_st {A : Nat → Prop} {N : Oth} {w : World} {a0 : Int} (S : St A N w w [] []) {r : PTerm} (H : hilbert_axiom.f a0 = some r) :
  Calls PP F_hilbert_axiom #[.int .i64 a0] w fun e w' => ∃ v, e = .returned v ∧ (∃ so0 : SlV, v = .agg (Term.C (⟨r.kind, r.name, r.other, r.form, so0⟩ : Term)).toArray ∧ St A N w w' [] [oDTerm so0 r.sub]) := by
 unfold hilbert_axiom.f at H
 refine calls_of_wc (n := 89) fn_hilbert_axiom rfl rfl (by simp) (wc_seq (wc_region ?_))
 refine wl_alloc ze_Term (by decide) fun b2 w1 hw1 => ?_
 replace S := S.new hw1
 refine wl_nil (wc_seq (wc_region ?_))
 obtain ⟨r3, er3, H⟩ := bind_ex H
 obtain ⟨B5, MB5, SB5, back⟩ := S.sub [] [] [oB b2 T_Term (Term.C (⟨0, ByteArray.empty, ByteArray.empty, 0, SlV.nil⟩ : Term))]
 refine wl_call (does_call ca_hilbert_v) (by decide) (hilbert_v_st SB5 er3) ?_
 rintro _ w4 ⟨s6, rfl, S2⟩
 replace S := back _ _ _ _ _ S2 rfl rfl
 clear back S2 SB5
 obtain ⟨r7, er7, H⟩ := bind_ex H
 obtain ⟨B9, MB9, SB9, back⟩ := S.sub [] [] [oB b2 T_Term (Term.C (⟨0, ByteArray.empty, ByteArray.empty, 0, SlV.nil⟩ : Term))]
 refine wl_call (does_call ca_hilbert_v) (by decide) (hilbert_v_st SB9 er7) ?_
 rintro _ w8 ⟨s10, rfl, S2⟩
 replace S := back _ _ _ _ _ S2 rfl rfl
 clear back S2 SB9
 obtain ⟨r11, er11, H⟩ := bind_ex H
 obtain ⟨B13, MB13, SB13, back⟩ := S.sub [] [] [oB b2 T_Term (Term.C (⟨0, ByteArray.empty, ByteArray.empty, 0, SlV.nil⟩ : Term))]
 refine wl_call (does_call ca_hilbert_v) (by decide) (hilbert_v_st SB13 er11) ?_
 rintro _ w12 ⟨s14, rfl, S2⟩
 replace S := back _ _ _ _ _ S2 rfl rfl
 clear back S2 SB13
 refine wl_alloc ze_Term (by decide) fun b16 w15 hw15 => ?_
 replace S := S.new hw15
 refine wl_alloc ze_Term (by decide) fun b18 w17 hw17 => ?_
 replace S := S.new hw17
 refine wl_alloc ze_Term (by decide) fun b20 w19 hw19 => ?_
 replace S := S.new hw19
 refine wl_store_agg ag_Term rfl rfl (S.blk 2) (Term.len _) (by rw [Term.len]; decide) (Term.one _) (store_all (Term.len _)) fun w21 B hw21 zw21 => ?_
 replace S := S.store 2 B hw21
 clear B
 refine wl_store_agg ag_Term rfl rfl (S.blk 2) (Term.len _) (by rw [Term.len]; decide) (Term.one _) (store_all (Term.len _)) fun w22 B hw22 zw22 => ?_
 replace S := S.store 2 B hw22
 clear B
 refine wl_store_agg ag_Term rfl rfl (S.blk 2) (Term.len _) (by rw [Term.len]; decide) (Term.one _) (store_all (Term.len _)) fun w23 B hw23 zw23 => ?_
 replace S := S.store 2 B hw23
 clear B
 refine wl_nil (wc_seq (wc_seq (wc_region (wd (does_mv_i rfl) (wl_nil ?_)))))
 refine wc_block (wc_seq (wc_region (wd (does_eq rfl rfl) (wd (does_as_b rfl) (wl_nil ?_)))))
 refine wc_if rfl (fun hc24 => ?_) (fun hc24 => ?_)
 ·replace H := if_t hc24 H
  refine wc_seq (wc_region (wd (does_load_agg ag_Term rfl ((S.blk 2).all _ (Term.len _)) (Term.len _)) ?_))
  refine wl_lits (C := SC) (l := [(⟨#[97]⟩ : ByteArray), (⟨#[98]⟩ : ByteArray)]) (vs := [.string (⟨#[97]⟩ : ByteArray), .string (⟨#[98]⟩ : ByteArray)]) sl_L_string el_string.zero rfl rfl (fun _ _ => rfl) (by decide) rfl (by decide) fun b26 w25 s27 hBw25 hw25 => ?_
  replace S := S.lit hBw25 hw25 (by simp)
  obtain ⟨r28, er28, H⟩ := bind_ex H
  replace S := S.frzS 0
  obtain ⟨B30, MB30, SB30, back⟩ := S.sub [3, 0] [] [oB b20 T_Term (Term.C (⟨r11.kind, r11.name, r11.other, r11.form, s14⟩ : Term)), oB b18 T_Term (Term.C (⟨r7.kind, r7.name, r7.other, r7.form, s10⟩ : Term)), oB b16 T_Term (Term.C (⟨r3.kind, r3.name, r3.other, r3.form, s6⟩ : Term)), oB b2 T_Term (Term.C (⟨0, ByteArray.empty, ByteArray.empty, 0, SlV.nil⟩ : Term))]
  refine wl_call (does_call ca_hilbert_fun) (by decide) (hilbert_fun_st (a0 := r3) SB30 er28) ?_
  rintro _ w29 ⟨s31, rfl, S2⟩
  replace S := back _ _ _ _ _ S2 rfl rfl
  clear back S2 SB30
  refine wl_store_agg ag_Term rfl rfl (S.blk 3) (Term.len _) (by rw [Term.len]; decide) (Term.one _) (store_all (Term.len _)) fun w32 B hw32 zw32 => ?_
  replace S := S.store 3 B hw32
  clear B
  refine wl_nil (wc_ret ?_)
  refine ⟨_, (rets1 (retOne_agg ag_Term rfl ((S.blk 0).all _ (Term.len _)) (Term.len _))), ?_⟩
  replace S := S.arr [] [0]
  obtain rfl := Option.some.inj H
  exact ⟨s31, rfl, S⟩
 replace H := if_f hc24 H
 refine wc_seq (wc_region (wd (does_eq rfl rfl) (wd (does_as_b rfl) (wl_nil ?_))))
 refine wc_if rfl (fun hc33 => ?_) (fun hc33 => ?_)
 ·replace H := if_t hc33 H
  refine wc_seq ?_
  obtain ⟨r37, er37, H⟩ := bind_ex H
  obtain ⟨r44, er44, H⟩ := bind_ex H
  obtain ⟨r51, er51, H⟩ := bind_ex H
  refine wc_draw5 11 ⟨fun _ _ => True, fun _ _ _ => True, fun i v _ => match i with
   | 0 => v = Value.agg (Term.C (⟨r3.kind, r3.name, r3.other, r3.form, s6⟩ : Term)).toArray
   | 1 => v = Value.agg (Term.C (⟨r11.kind, r11.name, r11.other, r11.form, s14⟩ : Term)).toArray
   | 4 => v = Value.agg (Term.C (⟨r7.kind, r7.name, r7.other, r7.form, s10⟩ : Term)).toArray
   | 5 => v = Value.agg (Term.C (⟨r11.kind, r11.name, r11.other, r11.form, s14⟩ : Term)).toArray
   | _ => True⟩ (fun L g v => ∃ Z58 : List OA, (∀ z ∈ [oDTerm s14 r11.sub, oDTerm s10 r7.sub, oDTerm s6 r3.sub], z ∈ Z58) ∧ Made L g Z58 2 20 (fun (c : SlV) => c.v) (fun (c : SlV) => [oDTerm c ([r3, r11])]) ∧ Made L g Z58 3 21 (fun (c : SlV) => Value.agg (Term.C (⟨r37.kind, r37.name, r37.other, r37.form, c⟩ : Term)).toArray) (fun (c : SlV) => [oDTerm c r37.sub]) ∧ Made L g Z58 6 24 (fun (c : SlV) => c.v) (fun (c : SlV) => [oDTerm c ([r7, r11])]) ∧ Made L g Z58 7 25 (fun (c : SlV) => Value.agg (Term.C (⟨r44.kind, r44.name, r44.other, r44.form, c⟩ : Term)).toArray) (fun (c : SlV) => [oDTerm c r44.sub]) ∧ Made L g Z58 8 26 (fun (c : SlV) => c.v) (fun (c : SlV) => [oDTerm c ([r37, r44])]) ∧ Made L g Z58 9 27 (fun (c : SlV) => Value.agg (Term.C (⟨r51.kind, r51.name, r51.other, r51.form, c⟩ : Term)).toArray) (fun (c : SlV) => [oDTerm c r51.sub]) ∧ (bif L 10 then (∃ s57 : SlV, g 28 = s57.v ∧ St A N w v [oS T_string 1 SC s57 ([(⟨#[97]⟩ : ByteArray), (⟨#[98]⟩ : ByteArray), (⟨#[99]⟩ : ByteArray)]), oB b20 T_Term (Term.C (⟨r11.kind, r11.name, r11.other, r11.form, s14⟩ : Term)), oB b18 T_Term (Term.C (⟨r7.kind, r7.name, r7.other, r7.form, s10⟩ : Term)), oB b16 T_Term (Term.C (⟨r3.kind, r3.name, r3.other, r3.form, s6⟩ : Term)), oB b2 T_Term (Term.C (⟨0, ByteArray.empty, ByteArray.empty, 0, SlV.nil⟩ : Term))] Z58) else St A N w v [oB b20 T_Term (Term.C (⟨r11.kind, r11.name, r11.other, r11.form, s14⟩ : Term)), oB b18 T_Term (Term.C (⟨r7.kind, r7.name, r7.other, r7.form, s10⟩ : Term)), oB b16 T_Term (Term.C (⟨r3.kind, r3.name, r3.other, r3.form, s6⟩ : Term)), oB b2 T_Term (Term.C (⟨0, ByteArray.empty, ByteArray.empty, 0, SlV.nil⟩ : Term))] Z58)) hmix (by kernel_rfl) (fun _ _ _ _ _ _ _ hv => hv) (fun g => ⟨_, fun _ h => h, Made.no, Made.no, Made.no, Made.no, Made.no, Made.no, S.ext (Ext.drawn _)⟩) ⟨?_, ?_, ?_, ?_, ?_, ?_, ?_, ?_, ?_, ?_, ?_, trivial⟩ ?_
  ·rintro L g v hL hcl hclo ⟨Z58, hZ, hm2, hm3, hm6, hm7, hm8, hm9, hT⟩ 
   cases hl10 : L 10 with
   | true =>
    simp only [hl10, cond_true, cond_false] at hT
    obtain ⟨s57, he10, S⟩ := hT
    replace S := S.zneed hZ
    refine wd (does_load_agg ag_Term rfl ((S.blk 3).all _ (Term.len _)) (Term.len _)) (wl_nil (ob4 trivial rfl ⟨(oDTerm s14 r11.sub :: oDTerm s10 r7.sub :: oDTerm s6 r3.sub :: Z58), fun z h => ?_, hm2.keep rfl rfl fun z h => ?_, hm3.keep rfl rfl fun z h => ?_, hm6.keep rfl rfl fun z h => ?_, hm7.keep rfl rfl fun z h => ?_, hm8.keep rfl rfl fun z h => ?_, hm9.keep rfl rfl fun z h => ?_, by simp only [plus_ne (L := L) (i := 0) (j := 10) rfl, hl10, cond_true]; exact ⟨s57, by rw [upd_other _ _ _ _ (by decide)]; exact he10, S⟩⟩))
    ·have := hZ z h; simp only [List.mem_cons, this, or_true]
    all_goals first | simp only [List.mem_cons, h, or_true] | simp only [List.mem_cons, true_or, or_true]
   | false =>
    simp only [hl10, cond_true, cond_false] at hT
    replace S : St A N w v [oB b20 T_Term (Term.C (⟨r11.kind, r11.name, r11.other, r11.form, s14⟩ : Term)), oB b18 T_Term (Term.C (⟨r7.kind, r7.name, r7.other, r7.form, s10⟩ : Term)), oB b16 T_Term (Term.C (⟨r3.kind, r3.name, r3.other, r3.form, s6⟩ : Term)), oB b2 T_Term (Term.C (⟨0, ByteArray.empty, ByteArray.empty, 0, SlV.nil⟩ : Term))] Z58 := hT
    replace S := S.zneed hZ
    refine wd (does_load_agg ag_Term rfl ((S.blk 2).all _ (Term.len _)) (Term.len _)) (wl_nil (ob4 trivial rfl ⟨(oDTerm s14 r11.sub :: oDTerm s10 r7.sub :: oDTerm s6 r3.sub :: Z58), fun z h => ?_, hm2.keep rfl rfl fun z h => ?_, hm3.keep rfl rfl fun z h => ?_, hm6.keep rfl rfl fun z h => ?_, hm7.keep rfl rfl fun z h => ?_, hm8.keep rfl rfl fun z h => ?_, hm9.keep rfl rfl fun z h => ?_, by simp only [plus_ne (L := L) (i := 0) (j := 10) rfl, hl10, cond_false]; exact S⟩))
    ·have := hZ z h; simp only [List.mem_cons, this, or_true]
    all_goals first | simp only [List.mem_cons, h, or_true] | simp only [List.mem_cons, true_or, or_true]
  ·rintro L g v hL hcl hclo ⟨Z58, hZ, hm2, hm3, hm6, hm7, hm8, hm9, hT⟩ 
   cases hl10 : L 10 with
   | true =>
    simp only [hl10, cond_true, cond_false] at hT
    obtain ⟨s57, he10, S⟩ := hT
    replace S := S.zneed hZ
    refine wd (does_load_agg ag_Term rfl ((S.blk 1).all _ (Term.len _)) (Term.len _)) (wl_nil (ob4 trivial rfl ⟨(oDTerm s14 r11.sub :: oDTerm s10 r7.sub :: oDTerm s6 r3.sub :: Z58), fun z h => ?_, hm2.keep rfl rfl fun z h => ?_, hm3.keep rfl rfl fun z h => ?_, hm6.keep rfl rfl fun z h => ?_, hm7.keep rfl rfl fun z h => ?_, hm8.keep rfl rfl fun z h => ?_, hm9.keep rfl rfl fun z h => ?_, by simp only [plus_ne (L := L) (i := 1) (j := 10) rfl, hl10, cond_true]; exact ⟨s57, by rw [upd_other _ _ _ _ (by decide)]; exact he10, S⟩⟩))
    ·have := hZ z h; simp only [List.mem_cons, this, or_true]
    all_goals first | simp only [List.mem_cons, h, or_true] | simp only [List.mem_cons, true_or, or_true]
   | false =>
    simp only [hl10, cond_true, cond_false] at hT
    replace S : St A N w v [oB b20 T_Term (Term.C (⟨r11.kind, r11.name, r11.other, r11.form, s14⟩ : Term)), oB b18 T_Term (Term.C (⟨r7.kind, r7.name, r7.other, r7.form, s10⟩ : Term)), oB b16 T_Term (Term.C (⟨r3.kind, r3.name, r3.other, r3.form, s6⟩ : Term)), oB b2 T_Term (Term.C (⟨0, ByteArray.empty, ByteArray.empty, 0, SlV.nil⟩ : Term))] Z58 := hT
    replace S := S.zneed hZ
    refine wd (does_load_agg ag_Term rfl ((S.blk 0).all _ (Term.len _)) (Term.len _)) (wl_nil (ob4 trivial rfl ⟨(oDTerm s14 r11.sub :: oDTerm s10 r7.sub :: oDTerm s6 r3.sub :: Z58), fun z h => ?_, hm2.keep rfl rfl fun z h => ?_, hm3.keep rfl rfl fun z h => ?_, hm6.keep rfl rfl fun z h => ?_, hm7.keep rfl rfl fun z h => ?_, hm8.keep rfl rfl fun z h => ?_, hm9.keep rfl rfl fun z h => ?_, by simp only [plus_ne (L := L) (i := 1) (j := 10) rfl, hl10, cond_false]; exact S⟩))
    ·have := hZ z h; simp only [List.mem_cons, this, or_true]
    all_goals first | simp only [List.mem_cons, h, or_true] | simp only [List.mem_cons, true_or, or_true]
  ·rintro L g v hL hcl hclo ⟨Z58, hZ, hm2, hm3, hm6, hm7, hm8, hm9, hT⟩ hv0 hv1
   cases hl10 : L 10 with
   | true =>
    simp only [hl10, cond_true, cond_false] at hT
    obtain ⟨s57, he10, S⟩ := hT
    replace S := S.zneed hZ
    refine wl_lits (C := Term.C) (l := [(⟨r3.kind, r3.name, r3.other, r3.form, s6⟩ : Term), (⟨r11.kind, r11.name, r11.other, r11.form, s14⟩ : Term)]) (vs := [.agg (Term.C (⟨r3.kind, r3.name, r3.other, r3.form, s6⟩ : Term)).toArray, .agg (Term.C (⟨r11.kind, r11.name, r11.other, r11.form, s14⟩ : Term)).toArray]) sl_L_api_Term el_Term.zero (consP hv0 (consP hv1 rfl)) rfl (fun a _ => Term.len a) (by decide) rfl (by decide) fun b60 w59 s61 hBw59 hw59 => ?_
    replace S := ((S.lit hBw59 hw59 (by simp)).bigTm).consTm (x := r11) 0
    replace S := (S.consTm (x := r3) 2).frzTm 0 0
    refine wl_nil (ob4 trivial trivial ⟨(oDTerm s61 ([r3, r11]) :: bigA fTerm [(⟨r3.kind, r3.name, r3.other, r3.form, s6⟩ : Term), (⟨r11.kind, r11.name, r11.other, r11.form, s14⟩ : Term)] [r3, r11] :: oDTerm s14 r11.sub :: oDTerm s10 r7.sub :: oDTerm s6 r3.sub :: Z58), fun z h => ?_, Made.one (val := (fun (c : SlV) => c.v)) (ps := (fun (c : SlV) => [oDTerm c ([r3, r11])])) s61 (zs_cons ?_ zs_nil), hm3.keep rfl rfl fun z h => ?_, hm6.keep rfl rfl fun z h => ?_, hm7.keep rfl rfl fun z h => ?_, hm8.keep rfl rfl fun z h => ?_, hm9.keep rfl rfl fun z h => ?_, by simp only [plus_ne (L := L) (i := 2) (j := 10) rfl, hl10, cond_true]; exact ⟨s57, by rw [upd_other _ _ _ _ (by decide)]; exact he10, S⟩⟩)
    ·have := hZ z h; simp only [List.mem_cons, this, or_true]
    all_goals first | simp only [List.mem_cons, h, or_true] | simp only [List.mem_cons, true_or, or_true]
   | false =>
    simp only [hl10, cond_true, cond_false] at hT
    replace S : St A N w v [oB b20 T_Term (Term.C (⟨r11.kind, r11.name, r11.other, r11.form, s14⟩ : Term)), oB b18 T_Term (Term.C (⟨r7.kind, r7.name, r7.other, r7.form, s10⟩ : Term)), oB b16 T_Term (Term.C (⟨r3.kind, r3.name, r3.other, r3.form, s6⟩ : Term)), oB b2 T_Term (Term.C (⟨0, ByteArray.empty, ByteArray.empty, 0, SlV.nil⟩ : Term))] Z58 := hT
    replace S := S.zneed hZ
    refine wl_lits (C := Term.C) (l := [(⟨r3.kind, r3.name, r3.other, r3.form, s6⟩ : Term), (⟨r11.kind, r11.name, r11.other, r11.form, s14⟩ : Term)]) (vs := [.agg (Term.C (⟨r3.kind, r3.name, r3.other, r3.form, s6⟩ : Term)).toArray, .agg (Term.C (⟨r11.kind, r11.name, r11.other, r11.form, s14⟩ : Term)).toArray]) sl_L_api_Term el_Term.zero (consP hv0 (consP hv1 rfl)) rfl (fun a _ => Term.len a) (by decide) rfl (by decide) fun b63 w62 s64 hBw62 hw62 => ?_
    replace S := ((S.lit hBw62 hw62 (by simp)).bigTm).consTm (x := r11) 0
    replace S := (S.consTm (x := r3) 2).frzTm 0 0
    refine wl_nil (ob4 trivial trivial ⟨(oDTerm s64 ([r3, r11]) :: bigA fTerm [(⟨r3.kind, r3.name, r3.other, r3.form, s6⟩ : Term), (⟨r11.kind, r11.name, r11.other, r11.form, s14⟩ : Term)] [r3, r11] :: oDTerm s14 r11.sub :: oDTerm s10 r7.sub :: oDTerm s6 r3.sub :: Z58), fun z h => ?_, Made.one (val := (fun (c : SlV) => c.v)) (ps := (fun (c : SlV) => [oDTerm c ([r3, r11])])) s64 (zs_cons ?_ zs_nil), hm3.keep rfl rfl fun z h => ?_, hm6.keep rfl rfl fun z h => ?_, hm7.keep rfl rfl fun z h => ?_, hm8.keep rfl rfl fun z h => ?_, hm9.keep rfl rfl fun z h => ?_, by simp only [plus_ne (L := L) (i := 2) (j := 10) rfl, hl10, cond_false]; exact S⟩)
    ·have := hZ z h; simp only [List.mem_cons, this, or_true]
    all_goals first | simp only [List.mem_cons, h, or_true] | simp only [List.mem_cons, true_or, or_true]
  ·rintro L g v hL hcl hclo ⟨Z58, hZ, hm2, hm3, hm6, hm7, hm8, hm9, hT⟩ _
   obtain ⟨s36, he2, hp2⟩ := hm2 (hcl 2 (by kernel_rfl))
   cases hl10 : L 10 with
   | true =>
    simp only [hl10, cond_true, cond_false] at hT
    obtain ⟨s57, he10, S⟩ := hT
    replace S := S.zneed (zs_app (l1 := [oDTerm s36 ([r3, r11])]) hp2 hZ)
    obtain ⟨B67, MB67, SB67, back⟩ := S.sub [0] [] [oS T_string 1 SC s57 ([(⟨#[97]⟩ : ByteArray), (⟨#[98]⟩ : ByteArray), (⟨#[99]⟩ : ByteArray)]), oB b20 T_Term (Term.C (⟨r11.kind, r11.name, r11.other, r11.form, s14⟩ : Term)), oB b18 T_Term (Term.C (⟨r7.kind, r7.name, r7.other, r7.form, s10⟩ : Term)), oB b16 T_Term (Term.C (⟨r3.kind, r3.name, r3.other, r3.form, s6⟩ : Term)), oB b2 T_Term (Term.C (⟨0, ByteArray.empty, ByteArray.empty, 0, SlV.nil⟩ : Term))]
    refine wl_call (does_callg ca_hilbert_node (cons2 rfl (cons2 he2 rfl))) (by decide) (hilbert_node_st SB67 er37) ?_
    rintro _ w66 ⟨s68, rfl, S2⟩
    replace S := back _ _ _ _ _ S2 rfl rfl
    clear back S2 SB67
    refine wl_nil (ob4 trivial trivial ⟨(oDTerm s68 r37.sub :: oDTerm s36 ([r3, r11]) :: oDTerm s14 r11.sub :: oDTerm s10 r7.sub :: oDTerm s6 r3.sub :: Z58), fun z h => ?_, hm2.keep rfl rfl fun z h => ?_, Made.one (val := (fun (c : SlV) => Value.agg (Term.C (⟨r37.kind, r37.name, r37.other, r37.form, c⟩ : Term)).toArray)) (ps := (fun (c : SlV) => [oDTerm c r37.sub])) s68 (zs_cons ?_ zs_nil), hm6.keep rfl rfl fun z h => ?_, hm7.keep rfl rfl fun z h => ?_, hm8.keep rfl rfl fun z h => ?_, hm9.keep rfl rfl fun z h => ?_, by simp only [plus_ne (L := L) (i := 3) (j := 10) rfl, hl10, cond_true]; exact ⟨s57, by rw [upd_other _ _ _ _ (by decide)]; exact he10, S⟩⟩)
    ·have := hZ z h; simp only [List.mem_cons, this, or_true]
    all_goals first | simp only [List.mem_cons, h, or_true] | simp only [List.mem_cons, true_or, or_true]
   | false =>
    simp only [hl10, cond_true, cond_false] at hT
    replace S : St A N w v [oB b20 T_Term (Term.C (⟨r11.kind, r11.name, r11.other, r11.form, s14⟩ : Term)), oB b18 T_Term (Term.C (⟨r7.kind, r7.name, r7.other, r7.form, s10⟩ : Term)), oB b16 T_Term (Term.C (⟨r3.kind, r3.name, r3.other, r3.form, s6⟩ : Term)), oB b2 T_Term (Term.C (⟨0, ByteArray.empty, ByteArray.empty, 0, SlV.nil⟩ : Term))] Z58 := hT
    replace S := S.zneed (zs_app (l1 := [oDTerm s36 ([r3, r11])]) hp2 hZ)
    obtain ⟨B71, MB71, SB71, back⟩ := S.sub [0] [] [oB b20 T_Term (Term.C (⟨r11.kind, r11.name, r11.other, r11.form, s14⟩ : Term)), oB b18 T_Term (Term.C (⟨r7.kind, r7.name, r7.other, r7.form, s10⟩ : Term)), oB b16 T_Term (Term.C (⟨r3.kind, r3.name, r3.other, r3.form, s6⟩ : Term)), oB b2 T_Term (Term.C (⟨0, ByteArray.empty, ByteArray.empty, 0, SlV.nil⟩ : Term))]
    refine wl_call (does_callg ca_hilbert_node (cons2 rfl (cons2 he2 rfl))) (by decide) (hilbert_node_st SB71 er37) ?_
    rintro _ w70 ⟨s72, rfl, S2⟩
    replace S := back _ _ _ _ _ S2 rfl rfl
    clear back S2 SB71
    refine wl_nil (ob4 trivial trivial ⟨(oDTerm s72 r37.sub :: oDTerm s36 ([r3, r11]) :: oDTerm s14 r11.sub :: oDTerm s10 r7.sub :: oDTerm s6 r3.sub :: Z58), fun z h => ?_, hm2.keep rfl rfl fun z h => ?_, Made.one (val := (fun (c : SlV) => Value.agg (Term.C (⟨r37.kind, r37.name, r37.other, r37.form, c⟩ : Term)).toArray)) (ps := (fun (c : SlV) => [oDTerm c r37.sub])) s72 (zs_cons ?_ zs_nil), hm6.keep rfl rfl fun z h => ?_, hm7.keep rfl rfl fun z h => ?_, hm8.keep rfl rfl fun z h => ?_, hm9.keep rfl rfl fun z h => ?_, by simp only [plus_ne (L := L) (i := 3) (j := 10) rfl, hl10, cond_false]; exact S⟩)
    ·have := hZ z h; simp only [List.mem_cons, this, or_true]
    all_goals first | simp only [List.mem_cons, h, or_true] | simp only [List.mem_cons, true_or, or_true]
  ·rintro L g v hL hcl hclo ⟨Z58, hZ, hm2, hm3, hm6, hm7, hm8, hm9, hT⟩ 
   cases hl10 : L 10 with
   | true =>
    simp only [hl10, cond_true, cond_false] at hT
    obtain ⟨s57, he10, S⟩ := hT
    replace S := S.zneed hZ
    refine wd (does_load_agg ag_Term rfl ((S.blk 2).all _ (Term.len _)) (Term.len _)) (wl_nil (ob4 trivial rfl ⟨(oDTerm s14 r11.sub :: oDTerm s10 r7.sub :: oDTerm s6 r3.sub :: Z58), fun z h => ?_, hm2.keep rfl rfl fun z h => ?_, hm3.keep rfl rfl fun z h => ?_, hm6.keep rfl rfl fun z h => ?_, hm7.keep rfl rfl fun z h => ?_, hm8.keep rfl rfl fun z h => ?_, hm9.keep rfl rfl fun z h => ?_, by simp only [plus_ne (L := L) (i := 4) (j := 10) rfl, hl10, cond_true]; exact ⟨s57, by rw [upd_other _ _ _ _ (by decide)]; exact he10, S⟩⟩))
    ·have := hZ z h; simp only [List.mem_cons, this, or_true]
    all_goals first | simp only [List.mem_cons, h, or_true] | simp only [List.mem_cons, true_or, or_true]
   | false =>
    simp only [hl10, cond_true, cond_false] at hT
    replace S : St A N w v [oB b20 T_Term (Term.C (⟨r11.kind, r11.name, r11.other, r11.form, s14⟩ : Term)), oB b18 T_Term (Term.C (⟨r7.kind, r7.name, r7.other, r7.form, s10⟩ : Term)), oB b16 T_Term (Term.C (⟨r3.kind, r3.name, r3.other, r3.form, s6⟩ : Term)), oB b2 T_Term (Term.C (⟨0, ByteArray.empty, ByteArray.empty, 0, SlV.nil⟩ : Term))] Z58 := hT
    replace S := S.zneed hZ
    refine wd (does_load_agg ag_Term rfl ((S.blk 1).all _ (Term.len _)) (Term.len _)) (wl_nil (ob4 trivial rfl ⟨(oDTerm s14 r11.sub :: oDTerm s10 r7.sub :: oDTerm s6 r3.sub :: Z58), fun z h => ?_, hm2.keep rfl rfl fun z h => ?_, hm3.keep rfl rfl fun z h => ?_, hm6.keep rfl rfl fun z h => ?_, hm7.keep rfl rfl fun z h => ?_, hm8.keep rfl rfl fun z h => ?_, hm9.keep rfl rfl fun z h => ?_, by simp only [plus_ne (L := L) (i := 4) (j := 10) rfl, hl10, cond_false]; exact S⟩))
    ·have := hZ z h; simp only [List.mem_cons, this, or_true]
    all_goals first | simp only [List.mem_cons, h, or_true] | simp only [List.mem_cons, true_or, or_true]
  ·rintro L g v hL hcl hclo ⟨Z58, hZ, hm2, hm3, hm6, hm7, hm8, hm9, hT⟩ 
   cases hl10 : L 10 with
   | true =>
    simp only [hl10, cond_true, cond_false] at hT
    obtain ⟨s57, he10, S⟩ := hT
    replace S := S.zneed hZ
    refine wd (does_load_agg ag_Term rfl ((S.blk 1).all _ (Term.len _)) (Term.len _)) (wl_nil (ob4 trivial rfl ⟨(oDTerm s14 r11.sub :: oDTerm s10 r7.sub :: oDTerm s6 r3.sub :: Z58), fun z h => ?_, hm2.keep rfl rfl fun z h => ?_, hm3.keep rfl rfl fun z h => ?_, hm6.keep rfl rfl fun z h => ?_, hm7.keep rfl rfl fun z h => ?_, hm8.keep rfl rfl fun z h => ?_, hm9.keep rfl rfl fun z h => ?_, by simp only [plus_ne (L := L) (i := 5) (j := 10) rfl, hl10, cond_true]; exact ⟨s57, by rw [upd_other _ _ _ _ (by decide)]; exact he10, S⟩⟩))
    ·have := hZ z h; simp only [List.mem_cons, this, or_true]
    all_goals first | simp only [List.mem_cons, h, or_true] | simp only [List.mem_cons, true_or, or_true]
   | false =>
    simp only [hl10, cond_true, cond_false] at hT
    replace S : St A N w v [oB b20 T_Term (Term.C (⟨r11.kind, r11.name, r11.other, r11.form, s14⟩ : Term)), oB b18 T_Term (Term.C (⟨r7.kind, r7.name, r7.other, r7.form, s10⟩ : Term)), oB b16 T_Term (Term.C (⟨r3.kind, r3.name, r3.other, r3.form, s6⟩ : Term)), oB b2 T_Term (Term.C (⟨0, ByteArray.empty, ByteArray.empty, 0, SlV.nil⟩ : Term))] Z58 := hT
    replace S := S.zneed hZ
    refine wd (does_load_agg ag_Term rfl ((S.blk 0).all _ (Term.len _)) (Term.len _)) (wl_nil (ob4 trivial rfl ⟨(oDTerm s14 r11.sub :: oDTerm s10 r7.sub :: oDTerm s6 r3.sub :: Z58), fun z h => ?_, hm2.keep rfl rfl fun z h => ?_, hm3.keep rfl rfl fun z h => ?_, hm6.keep rfl rfl fun z h => ?_, hm7.keep rfl rfl fun z h => ?_, hm8.keep rfl rfl fun z h => ?_, hm9.keep rfl rfl fun z h => ?_, by simp only [plus_ne (L := L) (i := 5) (j := 10) rfl, hl10, cond_false]; exact S⟩))
    ·have := hZ z h; simp only [List.mem_cons, this, or_true]
    all_goals first | simp only [List.mem_cons, h, or_true] | simp only [List.mem_cons, true_or, or_true]
  ·rintro L g v hL hcl hclo ⟨Z58, hZ, hm2, hm3, hm6, hm7, hm8, hm9, hT⟩ hv4 hv5
   cases hl10 : L 10 with
   | true =>
    simp only [hl10, cond_true, cond_false] at hT
    obtain ⟨s57, he10, S⟩ := hT
    replace S := S.zneed hZ
    refine wl_lits (C := Term.C) (l := [(⟨r7.kind, r7.name, r7.other, r7.form, s10⟩ : Term), (⟨r11.kind, r11.name, r11.other, r11.form, s14⟩ : Term)]) (vs := [.agg (Term.C (⟨r7.kind, r7.name, r7.other, r7.form, s10⟩ : Term)).toArray, .agg (Term.C (⟨r11.kind, r11.name, r11.other, r11.form, s14⟩ : Term)).toArray]) sl_L_api_Term el_Term.zero (consP hv4 (consP hv5 rfl)) rfl (fun a _ => Term.len a) (by decide) rfl (by decide) fun b74 w73 s75 hBw73 hw73 => ?_
    replace S := ((S.lit hBw73 hw73 (by simp)).bigTm).consTm (x := r11) 0
    replace S := (S.consTm (x := r7) 1).frzTm 0 0
    refine wl_nil (ob4 trivial trivial ⟨(oDTerm s75 ([r7, r11]) :: bigA fTerm [(⟨r7.kind, r7.name, r7.other, r7.form, s10⟩ : Term), (⟨r11.kind, r11.name, r11.other, r11.form, s14⟩ : Term)] [r7, r11] :: oDTerm s14 r11.sub :: oDTerm s10 r7.sub :: oDTerm s6 r3.sub :: Z58), fun z h => ?_, hm2.keep rfl rfl fun z h => ?_, hm3.keep rfl rfl fun z h => ?_, Made.one (val := (fun (c : SlV) => c.v)) (ps := (fun (c : SlV) => [oDTerm c ([r7, r11])])) s75 (zs_cons ?_ zs_nil), hm7.keep rfl rfl fun z h => ?_, hm8.keep rfl rfl fun z h => ?_, hm9.keep rfl rfl fun z h => ?_, by simp only [plus_ne (L := L) (i := 6) (j := 10) rfl, hl10, cond_true]; exact ⟨s57, by rw [upd_other _ _ _ _ (by decide)]; exact he10, S⟩⟩)
    ·have := hZ z h; simp only [List.mem_cons, this, or_true]
    all_goals first | simp only [List.mem_cons, h, or_true] | simp only [List.mem_cons, true_or, or_true]
   | false =>
    simp only [hl10, cond_true, cond_false] at hT
    replace S : St A N w v [oB b20 T_Term (Term.C (⟨r11.kind, r11.name, r11.other, r11.form, s14⟩ : Term)), oB b18 T_Term (Term.C (⟨r7.kind, r7.name, r7.other, r7.form, s10⟩ : Term)), oB b16 T_Term (Term.C (⟨r3.kind, r3.name, r3.other, r3.form, s6⟩ : Term)), oB b2 T_Term (Term.C (⟨0, ByteArray.empty, ByteArray.empty, 0, SlV.nil⟩ : Term))] Z58 := hT
    replace S := S.zneed hZ
    refine wl_lits (C := Term.C) (l := [(⟨r7.kind, r7.name, r7.other, r7.form, s10⟩ : Term), (⟨r11.kind, r11.name, r11.other, r11.form, s14⟩ : Term)]) (vs := [.agg (Term.C (⟨r7.kind, r7.name, r7.other, r7.form, s10⟩ : Term)).toArray, .agg (Term.C (⟨r11.kind, r11.name, r11.other, r11.form, s14⟩ : Term)).toArray]) sl_L_api_Term el_Term.zero (consP hv4 (consP hv5 rfl)) rfl (fun a _ => Term.len a) (by decide) rfl (by decide) fun b77 w76 s78 hBw76 hw76 => ?_
    replace S := ((S.lit hBw76 hw76 (by simp)).bigTm).consTm (x := r11) 0
    replace S := (S.consTm (x := r7) 1).frzTm 0 0
    refine wl_nil (ob4 trivial trivial ⟨(oDTerm s78 ([r7, r11]) :: bigA fTerm [(⟨r7.kind, r7.name, r7.other, r7.form, s10⟩ : Term), (⟨r11.kind, r11.name, r11.other, r11.form, s14⟩ : Term)] [r7, r11] :: oDTerm s14 r11.sub :: oDTerm s10 r7.sub :: oDTerm s6 r3.sub :: Z58), fun z h => ?_, hm2.keep rfl rfl fun z h => ?_, hm3.keep rfl rfl fun z h => ?_, Made.one (val := (fun (c : SlV) => c.v)) (ps := (fun (c : SlV) => [oDTerm c ([r7, r11])])) s78 (zs_cons ?_ zs_nil), hm7.keep rfl rfl fun z h => ?_, hm8.keep rfl rfl fun z h => ?_, hm9.keep rfl rfl fun z h => ?_, by simp only [plus_ne (L := L) (i := 6) (j := 10) rfl, hl10, cond_false]; exact S⟩)
    ·have := hZ z h; simp only [List.mem_cons, this, or_true]
    all_goals first | simp only [List.mem_cons, h, or_true] | simp only [List.mem_cons, true_or, or_true]
  ·rintro L g v hL hcl hclo ⟨Z58, hZ, hm2, hm3, hm6, hm7, hm8, hm9, hT⟩ _
   obtain ⟨s43, he6, hp6⟩ := hm6 (hcl 6 (by kernel_rfl))
   cases hl10 : L 10 with
   | true =>
    simp only [hl10, cond_true, cond_false] at hT
    obtain ⟨s57, he10, S⟩ := hT
    replace S := S.zneed (zs_app (l1 := [oDTerm s43 ([r7, r11])]) hp6 hZ)
    obtain ⟨B81, MB81, SB81, back⟩ := S.sub [0] [] [oS T_string 1 SC s57 ([(⟨#[97]⟩ : ByteArray), (⟨#[98]⟩ : ByteArray), (⟨#[99]⟩ : ByteArray)]), oB b20 T_Term (Term.C (⟨r11.kind, r11.name, r11.other, r11.form, s14⟩ : Term)), oB b18 T_Term (Term.C (⟨r7.kind, r7.name, r7.other, r7.form, s10⟩ : Term)), oB b16 T_Term (Term.C (⟨r3.kind, r3.name, r3.other, r3.form, s6⟩ : Term)), oB b2 T_Term (Term.C (⟨0, ByteArray.empty, ByteArray.empty, 0, SlV.nil⟩ : Term))]
    refine wl_call (does_callg ca_hilbert_node (cons2 rfl (cons2 he6 rfl))) (by decide) (hilbert_node_st SB81 er44) ?_
    rintro _ w80 ⟨s82, rfl, S2⟩
    replace S := back _ _ _ _ _ S2 rfl rfl
    clear back S2 SB81
    refine wl_nil (ob4 trivial trivial ⟨(oDTerm s82 r44.sub :: oDTerm s43 ([r7, r11]) :: oDTerm s14 r11.sub :: oDTerm s10 r7.sub :: oDTerm s6 r3.sub :: Z58), fun z h => ?_, hm2.keep rfl rfl fun z h => ?_, hm3.keep rfl rfl fun z h => ?_, hm6.keep rfl rfl fun z h => ?_, Made.one (val := (fun (c : SlV) => Value.agg (Term.C (⟨r44.kind, r44.name, r44.other, r44.form, c⟩ : Term)).toArray)) (ps := (fun (c : SlV) => [oDTerm c r44.sub])) s82 (zs_cons ?_ zs_nil), hm8.keep rfl rfl fun z h => ?_, hm9.keep rfl rfl fun z h => ?_, by simp only [plus_ne (L := L) (i := 7) (j := 10) rfl, hl10, cond_true]; exact ⟨s57, by rw [upd_other _ _ _ _ (by decide)]; exact he10, S⟩⟩)
    ·have := hZ z h; simp only [List.mem_cons, this, or_true]
    all_goals first | simp only [List.mem_cons, h, or_true] | simp only [List.mem_cons, true_or, or_true]
   | false =>
    simp only [hl10, cond_true, cond_false] at hT
    replace S : St A N w v [oB b20 T_Term (Term.C (⟨r11.kind, r11.name, r11.other, r11.form, s14⟩ : Term)), oB b18 T_Term (Term.C (⟨r7.kind, r7.name, r7.other, r7.form, s10⟩ : Term)), oB b16 T_Term (Term.C (⟨r3.kind, r3.name, r3.other, r3.form, s6⟩ : Term)), oB b2 T_Term (Term.C (⟨0, ByteArray.empty, ByteArray.empty, 0, SlV.nil⟩ : Term))] Z58 := hT
    replace S := S.zneed (zs_app (l1 := [oDTerm s43 ([r7, r11])]) hp6 hZ)
    obtain ⟨B85, MB85, SB85, back⟩ := S.sub [0] [] [oB b20 T_Term (Term.C (⟨r11.kind, r11.name, r11.other, r11.form, s14⟩ : Term)), oB b18 T_Term (Term.C (⟨r7.kind, r7.name, r7.other, r7.form, s10⟩ : Term)), oB b16 T_Term (Term.C (⟨r3.kind, r3.name, r3.other, r3.form, s6⟩ : Term)), oB b2 T_Term (Term.C (⟨0, ByteArray.empty, ByteArray.empty, 0, SlV.nil⟩ : Term))]
    refine wl_call (does_callg ca_hilbert_node (cons2 rfl (cons2 he6 rfl))) (by decide) (hilbert_node_st SB85 er44) ?_
    rintro _ w84 ⟨s86, rfl, S2⟩
    replace S := back _ _ _ _ _ S2 rfl rfl
    clear back S2 SB85
    refine wl_nil (ob4 trivial trivial ⟨(oDTerm s86 r44.sub :: oDTerm s43 ([r7, r11]) :: oDTerm s14 r11.sub :: oDTerm s10 r7.sub :: oDTerm s6 r3.sub :: Z58), fun z h => ?_, hm2.keep rfl rfl fun z h => ?_, hm3.keep rfl rfl fun z h => ?_, hm6.keep rfl rfl fun z h => ?_, Made.one (val := (fun (c : SlV) => Value.agg (Term.C (⟨r44.kind, r44.name, r44.other, r44.form, c⟩ : Term)).toArray)) (ps := (fun (c : SlV) => [oDTerm c r44.sub])) s86 (zs_cons ?_ zs_nil), hm8.keep rfl rfl fun z h => ?_, hm9.keep rfl rfl fun z h => ?_, by simp only [plus_ne (L := L) (i := 7) (j := 10) rfl, hl10, cond_false]; exact S⟩)
    ·have := hZ z h; simp only [List.mem_cons, this, or_true]
    all_goals first | simp only [List.mem_cons, h, or_true] | simp only [List.mem_cons, true_or, or_true]
  ·rintro L g v hL hcl hclo ⟨Z58, hZ, hm2, hm3, hm6, hm7, hm8, hm9, hT⟩ _ _
   obtain ⟨s40, he3, hp3⟩ := hm3 (hcl 3 (by kernel_rfl))
   obtain ⟨s47, he7, hp7⟩ := hm7 (hcl 7 (by kernel_rfl))
   cases hl10 : L 10 with
   | true =>
    simp only [hl10, cond_true, cond_false] at hT
    obtain ⟨s57, he10, S⟩ := hT
    replace S := S.zneed (zs_app (l1 := [oDTerm s40 r37.sub]) hp3 (zs_app (l1 := [oDTerm s47 r44.sub]) hp7 hZ))
    refine wl_lits (C := Term.C) (l := [(⟨r37.kind, r37.name, r37.other, r37.form, s40⟩ : Term), (⟨r44.kind, r44.name, r44.other, r44.form, s47⟩ : Term)]) (vs := [.agg (Term.C (⟨r37.kind, r37.name, r37.other, r37.form, s40⟩ : Term)).toArray, .agg (Term.C (⟨r44.kind, r44.name, r44.other, r44.form, s47⟩ : Term)).toArray]) sl_L_api_Term el_Term.zero (consP he3 (consP he7 rfl)) rfl (fun a _ => Term.len a) (by decide) rfl (by decide) fun b88 w87 s89 hBw87 hw87 => ?_
    replace S := ((S.lit hBw87 hw87 (by simp)).bigTm).consTm (x := r44) 1
    replace S := (S.consTm (x := r37) 0).frzTm 0 0
    refine wl_nil (ob4 trivial trivial ⟨(oDTerm s89 ([r37, r44]) :: bigA fTerm [(⟨r37.kind, r37.name, r37.other, r37.form, s40⟩ : Term), (⟨r44.kind, r44.name, r44.other, r44.form, s47⟩ : Term)] [r37, r44] :: oDTerm s40 r37.sub :: oDTerm s47 r44.sub :: oDTerm s14 r11.sub :: oDTerm s10 r7.sub :: oDTerm s6 r3.sub :: Z58), fun z h => ?_, hm2.keep rfl rfl fun z h => ?_, hm3.keep rfl rfl fun z h => ?_, hm6.keep rfl rfl fun z h => ?_, hm7.keep rfl rfl fun z h => ?_, Made.one (val := (fun (c : SlV) => c.v)) (ps := (fun (c : SlV) => [oDTerm c ([r37, r44])])) s89 (zs_cons ?_ zs_nil), hm9.keep rfl rfl fun z h => ?_, by simp only [plus_ne (L := L) (i := 8) (j := 10) rfl, hl10, cond_true]; exact ⟨s57, by rw [upd_other _ _ _ _ (by decide)]; exact he10, S⟩⟩)
    ·have := hZ z h; simp only [List.mem_cons, this, or_true]
    all_goals first | simp only [List.mem_cons, h, or_true] | simp only [List.mem_cons, true_or, or_true]
   | false =>
    simp only [hl10, cond_true, cond_false] at hT
    replace S : St A N w v [oB b20 T_Term (Term.C (⟨r11.kind, r11.name, r11.other, r11.form, s14⟩ : Term)), oB b18 T_Term (Term.C (⟨r7.kind, r7.name, r7.other, r7.form, s10⟩ : Term)), oB b16 T_Term (Term.C (⟨r3.kind, r3.name, r3.other, r3.form, s6⟩ : Term)), oB b2 T_Term (Term.C (⟨0, ByteArray.empty, ByteArray.empty, 0, SlV.nil⟩ : Term))] Z58 := hT
    replace S := S.zneed (zs_app (l1 := [oDTerm s40 r37.sub]) hp3 (zs_app (l1 := [oDTerm s47 r44.sub]) hp7 hZ))
    refine wl_lits (C := Term.C) (l := [(⟨r37.kind, r37.name, r37.other, r37.form, s40⟩ : Term), (⟨r44.kind, r44.name, r44.other, r44.form, s47⟩ : Term)]) (vs := [.agg (Term.C (⟨r37.kind, r37.name, r37.other, r37.form, s40⟩ : Term)).toArray, .agg (Term.C (⟨r44.kind, r44.name, r44.other, r44.form, s47⟩ : Term)).toArray]) sl_L_api_Term el_Term.zero (consP he3 (consP he7 rfl)) rfl (fun a _ => Term.len a) (by decide) rfl (by decide) fun b91 w90 s92 hBw90 hw90 => ?_
    replace S := ((S.lit hBw90 hw90 (by simp)).bigTm).consTm (x := r44) 1
    replace S := (S.consTm (x := r37) 0).frzTm 0 0
    refine wl_nil (ob4 trivial trivial ⟨(oDTerm s92 ([r37, r44]) :: bigA fTerm [(⟨r37.kind, r37.name, r37.other, r37.form, s40⟩ : Term), (⟨r44.kind, r44.name, r44.other, r44.form, s47⟩ : Term)] [r37, r44] :: oDTerm s40 r37.sub :: oDTerm s47 r44.sub :: oDTerm s14 r11.sub :: oDTerm s10 r7.sub :: oDTerm s6 r3.sub :: Z58), fun z h => ?_, hm2.keep rfl rfl fun z h => ?_, hm3.keep rfl rfl fun z h => ?_, hm6.keep rfl rfl fun z h => ?_, hm7.keep rfl rfl fun z h => ?_, Made.one (val := (fun (c : SlV) => c.v)) (ps := (fun (c : SlV) => [oDTerm c ([r37, r44])])) s92 (zs_cons ?_ zs_nil), hm9.keep rfl rfl fun z h => ?_, by simp only [plus_ne (L := L) (i := 8) (j := 10) rfl, hl10, cond_false]; exact S⟩)
    ·have := hZ z h; simp only [List.mem_cons, this, or_true]
    all_goals first | simp only [List.mem_cons, h, or_true] | simp only [List.mem_cons, true_or, or_true]
  ·rintro L g v hL hcl hclo ⟨Z58, hZ, hm2, hm3, hm6, hm7, hm8, hm9, hT⟩ _
   obtain ⟨s50, he8, hp8⟩ := hm8 (hcl 8 (by kernel_rfl))
   cases hl10 : L 10 with
   | true =>
    simp only [hl10, cond_true, cond_false] at hT
    obtain ⟨s57, he10, S⟩ := hT
    replace S := S.zneed (zs_app (l1 := [oDTerm s50 ([r37, r44])]) hp8 hZ)
    obtain ⟨B95, MB95, SB95, back⟩ := S.sub [0] [] [oS T_string 1 SC s57 ([(⟨#[97]⟩ : ByteArray), (⟨#[98]⟩ : ByteArray), (⟨#[99]⟩ : ByteArray)]), oB b20 T_Term (Term.C (⟨r11.kind, r11.name, r11.other, r11.form, s14⟩ : Term)), oB b18 T_Term (Term.C (⟨r7.kind, r7.name, r7.other, r7.form, s10⟩ : Term)), oB b16 T_Term (Term.C (⟨r3.kind, r3.name, r3.other, r3.form, s6⟩ : Term)), oB b2 T_Term (Term.C (⟨0, ByteArray.empty, ByteArray.empty, 0, SlV.nil⟩ : Term))]
    refine wl_call (does_callg ca_hilbert_node (cons2 rfl (cons2 he8 rfl))) (by decide) (hilbert_node_st SB95 er51) ?_
    rintro _ w94 ⟨s96, rfl, S2⟩
    replace S := back _ _ _ _ _ S2 rfl rfl
    clear back S2 SB95
    refine wl_nil (ob4 trivial trivial ⟨(oDTerm s96 r51.sub :: oDTerm s50 ([r37, r44]) :: oDTerm s14 r11.sub :: oDTerm s10 r7.sub :: oDTerm s6 r3.sub :: Z58), fun z h => ?_, hm2.keep rfl rfl fun z h => ?_, hm3.keep rfl rfl fun z h => ?_, hm6.keep rfl rfl fun z h => ?_, hm7.keep rfl rfl fun z h => ?_, hm8.keep rfl rfl fun z h => ?_, Made.one (val := (fun (c : SlV) => Value.agg (Term.C (⟨r51.kind, r51.name, r51.other, r51.form, c⟩ : Term)).toArray)) (ps := (fun (c : SlV) => [oDTerm c r51.sub])) s96 (zs_cons ?_ zs_nil), by simp only [plus_ne (L := L) (i := 9) (j := 10) rfl, hl10, cond_true]; exact ⟨s57, by rw [upd_other _ _ _ _ (by decide)]; exact he10, S⟩⟩)
    ·have := hZ z h; simp only [List.mem_cons, this, or_true]
    all_goals first | simp only [List.mem_cons, h, or_true] | simp only [List.mem_cons, true_or, or_true]
   | false =>
    simp only [hl10, cond_true, cond_false] at hT
    replace S : St A N w v [oB b20 T_Term (Term.C (⟨r11.kind, r11.name, r11.other, r11.form, s14⟩ : Term)), oB b18 T_Term (Term.C (⟨r7.kind, r7.name, r7.other, r7.form, s10⟩ : Term)), oB b16 T_Term (Term.C (⟨r3.kind, r3.name, r3.other, r3.form, s6⟩ : Term)), oB b2 T_Term (Term.C (⟨0, ByteArray.empty, ByteArray.empty, 0, SlV.nil⟩ : Term))] Z58 := hT
    replace S := S.zneed (zs_app (l1 := [oDTerm s50 ([r37, r44])]) hp8 hZ)
    obtain ⟨B99, MB99, SB99, back⟩ := S.sub [0] [] [oB b20 T_Term (Term.C (⟨r11.kind, r11.name, r11.other, r11.form, s14⟩ : Term)), oB b18 T_Term (Term.C (⟨r7.kind, r7.name, r7.other, r7.form, s10⟩ : Term)), oB b16 T_Term (Term.C (⟨r3.kind, r3.name, r3.other, r3.form, s6⟩ : Term)), oB b2 T_Term (Term.C (⟨0, ByteArray.empty, ByteArray.empty, 0, SlV.nil⟩ : Term))]
    refine wl_call (does_callg ca_hilbert_node (cons2 rfl (cons2 he8 rfl))) (by decide) (hilbert_node_st SB99 er51) ?_
    rintro _ w98 ⟨s100, rfl, S2⟩
    replace S := back _ _ _ _ _ S2 rfl rfl
    clear back S2 SB99
    refine wl_nil (ob4 trivial trivial ⟨(oDTerm s100 r51.sub :: oDTerm s50 ([r37, r44]) :: oDTerm s14 r11.sub :: oDTerm s10 r7.sub :: oDTerm s6 r3.sub :: Z58), fun z h => ?_, hm2.keep rfl rfl fun z h => ?_, hm3.keep rfl rfl fun z h => ?_, hm6.keep rfl rfl fun z h => ?_, hm7.keep rfl rfl fun z h => ?_, hm8.keep rfl rfl fun z h => ?_, Made.one (val := (fun (c : SlV) => Value.agg (Term.C (⟨r51.kind, r51.name, r51.other, r51.form, c⟩ : Term)).toArray)) (ps := (fun (c : SlV) => [oDTerm c r51.sub])) s100 (zs_cons ?_ zs_nil), by simp only [plus_ne (L := L) (i := 9) (j := 10) rfl, hl10, cond_false]; exact S⟩)
    ·have := hZ z h; simp only [List.mem_cons, this, or_true]
    all_goals first | simp only [List.mem_cons, h, or_true] | simp only [List.mem_cons, true_or, or_true]
  ·rintro L g v hL hcl hclo ⟨Z58, hZ, hm2, hm3, hm6, hm7, hm8, hm9, hT⟩ 
   have hl10 : L 10 = false := hL
   simp only [hl10, cond_true, cond_false] at hT
   replace S : St A N w v [oB b20 T_Term (Term.C (⟨r11.kind, r11.name, r11.other, r11.form, s14⟩ : Term)), oB b18 T_Term (Term.C (⟨r7.kind, r7.name, r7.other, r7.form, s10⟩ : Term)), oB b16 T_Term (Term.C (⟨r3.kind, r3.name, r3.other, r3.form, s6⟩ : Term)), oB b2 T_Term (Term.C (⟨0, ByteArray.empty, ByteArray.empty, 0, SlV.nil⟩ : Term))] Z58 := hT
   replace S := S.zneed hZ
   refine wl_lits (C := SC) (l := [(⟨#[97]⟩ : ByteArray), (⟨#[98]⟩ : ByteArray), (⟨#[99]⟩ : ByteArray)]) (vs := [.string (⟨#[97]⟩ : ByteArray), .string (⟨#[98]⟩ : ByteArray), .string (⟨#[99]⟩ : ByteArray)]) sl_L_string el_string.zero rfl rfl (fun _ _ => rfl) (by decide) rfl (by decide) fun b102 w101 s103 hBw101 hw101 => ?_
   replace S := S.lit hBw101 hw101 (by simp)
   refine wl_nil (ob4 trivial trivial ⟨(oDTerm s14 r11.sub :: oDTerm s10 r7.sub :: oDTerm s6 r3.sub :: Z58), fun z h => ?_, hm2.keep rfl rfl fun z h => ?_, hm3.keep rfl rfl fun z h => ?_, hm6.keep rfl rfl fun z h => ?_, hm7.keep rfl rfl fun z h => ?_, hm8.keep rfl rfl fun z h => ?_, hm9.keep rfl rfl fun z h => ?_, by simp only [plus_self, cond_true]; exact ⟨s103, upd_same _ _ _, S⟩⟩)
   ·have := hZ z h; simp only [List.mem_cons, this, or_true]
   all_goals first | simp only [List.mem_cons, h, or_true] | simp only [List.mem_cons, true_or, or_true]
  rintro L g w104 hLm ⟨Z58, hZ, hm2, hm3, hm6, hm7, hm8, hm9, hT⟩ hv105_0 hv105_1 _ _ hv105_4 hv105_5 _ _ _ _ _
  have hLt : ∀ j, j < 11 → L j = true := fun j hj => by rw [hLm]; exact decide_eq_true hj
  obtain ⟨s36, hv105_2, hp2⟩ := hm2 (hLt 2 (by decide))
  obtain ⟨s40, hv105_3, hp3⟩ := hm3 (hLt 3 (by decide))
  obtain ⟨s43, hv105_6, hp6⟩ := hm6 (hLt 6 (by decide))
  obtain ⟨s47, hv105_7, hp7⟩ := hm7 (hLt 7 (by decide))
  obtain ⟨s50, hv105_8, hp8⟩ := hm8 (hLt 8 (by decide))
  obtain ⟨s54, hv105_9, hp9⟩ := hm9 (hLt 9 (by decide))
  simp only [hLt 10 (by decide), cond_true] at hT
  obtain ⟨s57, hv105_10, S⟩ := hT
  replace S := S.pickZ (zs_app (l1 := [oDTerm s36 ([r3, r11])]) hp2 (zs_app (l1 := [oDTerm s40 r37.sub]) hp3 (zs_app (l1 := [oDTerm s43 ([r7, r11])]) hp6 (zs_app (l1 := [oDTerm s47 r44.sub]) hp7 (zs_app (l1 := [oDTerm s50 ([r37, r44])]) hp8 (zs_app (l1 := [oDTerm s54 r51.sub]) hp9 hZ))))))
  clear hp2 hp3 hp6 hp7 hp8 hp9 hZ hm2 hm3 hm6 hm7 hm8 hm9
  obtain ⟨r106, er106, H⟩ := bind_ex H
  replace S := S.frzS 0
  obtain ⟨B108, MB108, SB108, back⟩ := S.sub [6, 0] [] [oB b20 T_Term (Term.C (⟨r11.kind, r11.name, r11.other, r11.form, s14⟩ : Term)), oB b18 T_Term (Term.C (⟨r7.kind, r7.name, r7.other, r7.form, s10⟩ : Term)), oB b16 T_Term (Term.C (⟨r3.kind, r3.name, r3.other, r3.form, s6⟩ : Term)), oB b2 T_Term (Term.C (⟨0, ByteArray.empty, ByteArray.empty, 0, SlV.nil⟩ : Term))]
  refine wl_call (does_callg ca_hilbert_fun (cons2 hv105_9 (cons2 hv105_10 rfl))) (by decide) (hilbert_fun_st (a0 := r51) SB108 er106) ?_
  rintro _ w107 ⟨s109, rfl, S2⟩
  replace S := back _ _ _ _ _ S2 rfl rfl
  clear back S2 SB108
  refine wl_store_agg ag_Term rfl rfl (S.blk 3) (Term.len _) (by rw [Term.len]; decide) (Term.one _) (store_all (Term.len _)) fun w110 B hw110 zw110 => ?_
  replace S := S.store 3 B hw110
  clear B
  refine wl_nil (wc_ret ?_)
  refine ⟨_, (rets1 (retOne_agg ag_Term rfl ((S.blk 0).all _ (Term.len _)) (Term.len _))), ?_⟩
  replace S := S.arr [] [0]
  obtain rfl := Option.some.inj H
  exact ⟨s109, rfl, S⟩
 replace H := if_f hc33 H
 refine wc_seq (wc_region (wd (does_eq rfl rfl) (wd (does_as_b rfl) (wl_nil ?_))))
 refine wc_if rfl (fun hc111 => ?_) (fun hc111 => ?_)
 ·replace H := if_t hc111 H
  refine wc_seq (wc_region (wd (does_load_agg ag_Term rfl ((S.blk 2).all _ (Term.len _)) (Term.len _)) ?_))
  refine wl_lits (C := Term.C) (l := [(⟨r3.kind, r3.name, r3.other, r3.form, s6⟩ : Term)]) (vs := [.agg (Term.C (⟨r3.kind, r3.name, r3.other, r3.form, s6⟩ : Term)).toArray]) sl_L_api_Term el_Term.zero rfl rfl (fun a _ => Term.len a) (by decide) rfl (by decide) fun b113 w112 s114 hBw112 hw112 => ?_
  replace S := ((S.lit hBw112 hw112 (by simp)).bigTm).consTm (x := r3) 2
  replace S := (S.frzTm 0 0).zs [0, 2, 3, 4]
  obtain ⟨r115, er115, H⟩ := bind_ex H
  obtain ⟨B117, MB117, SB117, back⟩ := S.sub [0] [] [oB b20 T_Term (Term.C (⟨r11.kind, r11.name, r11.other, r11.form, s14⟩ : Term)), oB b18 T_Term (Term.C (⟨r7.kind, r7.name, r7.other, r7.form, s10⟩ : Term)), oB b16 T_Term (Term.C (⟨r3.kind, r3.name, r3.other, r3.form, s6⟩ : Term)), oB b2 T_Term (Term.C (⟨0, ByteArray.empty, ByteArray.empty, 0, SlV.nil⟩ : Term))]
  refine wl_call (does_call ca_hilbert_node) (by decide) (hilbert_node_st SB117 er115) ?_
  rintro _ w116 ⟨s118, rfl, S2⟩
  replace S := back _ _ _ _ _ S2 rfl rfl
  clear back S2 SB117
  refine wl_lits (C := SC) (l := [(⟨#[97]⟩ : ByteArray)]) (vs := [.string (⟨#[97]⟩ : ByteArray)]) sl_L_string el_string.zero rfl rfl (fun _ _ => rfl) (by decide) rfl (by decide) fun b120 w119 s121 hBw119 hw119 => ?_
  replace S := S.lit hBw119 hw119 (by simp)
  obtain ⟨r122, er122, H⟩ := bind_ex H
  replace S := S.frzS 0
  obtain ⟨B124, MB124, SB124, back⟩ := S.sub [1, 0] [] [oB b20 T_Term (Term.C (⟨r11.kind, r11.name, r11.other, r11.form, s14⟩ : Term)), oB b18 T_Term (Term.C (⟨r7.kind, r7.name, r7.other, r7.form, s10⟩ : Term)), oB b16 T_Term (Term.C (⟨r3.kind, r3.name, r3.other, r3.form, s6⟩ : Term)), oB b2 T_Term (Term.C (⟨0, ByteArray.empty, ByteArray.empty, 0, SlV.nil⟩ : Term))]
  refine wl_call (does_call ca_hilbert_fun) (by decide) (hilbert_fun_st (a0 := r115) SB124 er122) ?_
  rintro _ w123 ⟨s125, rfl, S2⟩
  replace S := back _ _ _ _ _ S2 rfl rfl
  clear back S2 SB124
  refine wl_store_agg ag_Term rfl rfl (S.blk 3) (Term.len _) (by rw [Term.len]; decide) (Term.one _) (store_all (Term.len _)) fun w126 B hw126 zw126 => ?_
  replace S := S.store 3 B hw126
  clear B
  refine wl_nil (wc_ret ?_)
  refine ⟨_, (rets1 (retOne_agg ag_Term rfl ((S.blk 0).all _ (Term.len _)) (Term.len _))), ?_⟩
  replace S := S.arr [] [0]
  obtain rfl := Option.some.inj H
  exact ⟨s125, rfl, S⟩
 replace H := if_f hc111 H
 refine wc_seq (wc_region (wd (does_eq rfl rfl) (wd (does_as_b rfl) (wl_nil ?_))))
 refine wc_if rfl (fun hc127 => ?_) (fun hc127 => ?_)
 ·replace H := if_t hc127 H
  refine wc_seq (wc_region (wd (does_load_agg ag_Term rfl ((S.blk 2).all _ (Term.len _)) (Term.len _)) ?_))
  refine wl_lits (C := Term.C) (l := [(⟨r3.kind, r3.name, r3.other, r3.form, s6⟩ : Term)]) (vs := [.agg (Term.C (⟨r3.kind, r3.name, r3.other, r3.form, s6⟩ : Term)).toArray]) sl_L_api_Term el_Term.zero rfl rfl (fun a _ => Term.len a) (by decide) rfl (by decide) fun b129 w128 s130 hBw128 hw128 => ?_
  replace S := ((S.lit hBw128 hw128 (by simp)).bigTm).consTm (x := r3) 2
  replace S := (S.frzTm 0 0).zs [0, 2, 3, 4]
  obtain ⟨r131, er131, H⟩ := bind_ex H
  obtain ⟨B133, MB133, SB133, back⟩ := S.sub [0] [] [oB b20 T_Term (Term.C (⟨r11.kind, r11.name, r11.other, r11.form, s14⟩ : Term)), oB b18 T_Term (Term.C (⟨r7.kind, r7.name, r7.other, r7.form, s10⟩ : Term)), oB b16 T_Term (Term.C (⟨r3.kind, r3.name, r3.other, r3.form, s6⟩ : Term)), oB b2 T_Term (Term.C (⟨0, ByteArray.empty, ByteArray.empty, 0, SlV.nil⟩ : Term))]
  refine wl_call (does_call ca_hilbert_node) (by decide) (hilbert_node_st SB133 er131) ?_
  rintro _ w132 ⟨s134, rfl, S2⟩
  replace S := back _ _ _ _ _ S2 rfl rfl
  clear back S2 SB133
  refine wl_lits (C := SC) (l := [(⟨#[97]⟩ : ByteArray)]) (vs := [.string (⟨#[97]⟩ : ByteArray)]) sl_L_string el_string.zero rfl rfl (fun _ _ => rfl) (by decide) rfl (by decide) fun b136 w135 s137 hBw135 hw135 => ?_
  replace S := S.lit hBw135 hw135 (by simp)
  obtain ⟨r138, er138, H⟩ := bind_ex H
  replace S := S.frzS 0
  obtain ⟨B140, MB140, SB140, back⟩ := S.sub [1, 0] [] [oB b20 T_Term (Term.C (⟨r11.kind, r11.name, r11.other, r11.form, s14⟩ : Term)), oB b18 T_Term (Term.C (⟨r7.kind, r7.name, r7.other, r7.form, s10⟩ : Term)), oB b16 T_Term (Term.C (⟨r3.kind, r3.name, r3.other, r3.form, s6⟩ : Term)), oB b2 T_Term (Term.C (⟨0, ByteArray.empty, ByteArray.empty, 0, SlV.nil⟩ : Term))]
  refine wl_call (does_call ca_hilbert_fun) (by decide) (hilbert_fun_st (a0 := r131) SB140 er138) ?_
  rintro _ w139 ⟨s141, rfl, S2⟩
  replace S := back _ _ _ _ _ S2 rfl rfl
  clear back S2 SB140
  refine wl_store_agg ag_Term rfl rfl (S.blk 3) (Term.len _) (by rw [Term.len]; decide) (Term.one _) (store_all (Term.len _)) fun w142 B hw142 zw142 => ?_
  replace S := S.store 3 B hw142
  clear B
  refine wl_nil (wc_ret ?_)
  refine ⟨_, (rets1 (retOne_agg ag_Term rfl ((S.blk 0).all _ (Term.len _)) (Term.len _))), ?_⟩
  replace S := S.arr [] [0]
  obtain rfl := Option.some.inj H
  exact ⟨s141, rfl, S⟩
 replace H := if_f hc127 H
 refine wc_seq (wc_region (wd (does_eq rfl rfl) (wd (does_as_b rfl) (wl_nil ?_))))
 refine wc_if rfl (fun hc143 => ?_) (fun hc143 => ?_)
 ·replace H := if_t hc143 H
  refine wc_seq (wc_region (wd (does_load_agg ag_Term rfl ((S.blk 2).all _ (Term.len _)) (Term.len _)) (wd (does_load_agg ag_Term rfl ((S.blk 1).all _ (Term.len _)) (Term.len _)) ?_)))
  refine wl_lits (C := Term.C) (l := [(⟨r3.kind, r3.name, r3.other, r3.form, s6⟩ : Term), (⟨r7.kind, r7.name, r7.other, r7.form, s10⟩ : Term)]) (vs := [.agg (Term.C (⟨r3.kind, r3.name, r3.other, r3.form, s6⟩ : Term)).toArray, .agg (Term.C (⟨r7.kind, r7.name, r7.other, r7.form, s10⟩ : Term)).toArray]) sl_L_api_Term el_Term.zero rfl rfl (fun a _ => Term.len a) (by decide) rfl (by decide) fun b145 w144 s146 hBw144 hw144 => ?_
  replace S := ((S.lit hBw144 hw144 (by simp)).bigTm).consTm (x := r7) 1
  replace S := ((S.consTm (x := r3) 2).frzTm 0 0).zs [0, 2, 3, 4]
  obtain ⟨r147, er147, H⟩ := bind_ex H
  obtain ⟨B149, MB149, SB149, back⟩ := S.sub [0] [] [oB b20 T_Term (Term.C (⟨r11.kind, r11.name, r11.other, r11.form, s14⟩ : Term)), oB b18 T_Term (Term.C (⟨r7.kind, r7.name, r7.other, r7.form, s10⟩ : Term)), oB b16 T_Term (Term.C (⟨r3.kind, r3.name, r3.other, r3.form, s6⟩ : Term)), oB b2 T_Term (Term.C (⟨0, ByteArray.empty, ByteArray.empty, 0, SlV.nil⟩ : Term))]
  refine wl_call (does_call ca_hilbert_node) (by decide) (hilbert_node_st SB149 er147) ?_
  rintro _ w148 ⟨s150, rfl, S2⟩
  replace S := back _ _ _ _ _ S2 rfl rfl
  clear back S2 SB149
  refine wl_lits (C := SC) (l := [(⟨#[97]⟩ : ByteArray), (⟨#[98]⟩ : ByteArray)]) (vs := [.string (⟨#[97]⟩ : ByteArray), .string (⟨#[98]⟩ : ByteArray)]) sl_L_string el_string.zero rfl rfl (fun _ _ => rfl) (by decide) rfl (by decide) fun b152 w151 s153 hBw151 hw151 => ?_
  replace S := S.lit hBw151 hw151 (by simp)
  obtain ⟨r154, er154, H⟩ := bind_ex H
  replace S := S.frzS 0
  obtain ⟨B156, MB156, SB156, back⟩ := S.sub [1, 0] [] [oB b20 T_Term (Term.C (⟨r11.kind, r11.name, r11.other, r11.form, s14⟩ : Term)), oB b18 T_Term (Term.C (⟨r7.kind, r7.name, r7.other, r7.form, s10⟩ : Term)), oB b16 T_Term (Term.C (⟨r3.kind, r3.name, r3.other, r3.form, s6⟩ : Term)), oB b2 T_Term (Term.C (⟨0, ByteArray.empty, ByteArray.empty, 0, SlV.nil⟩ : Term))]
  refine wl_call (does_call ca_hilbert_fun) (by decide) (hilbert_fun_st (a0 := r147) SB156 er154) ?_
  rintro _ w155 ⟨s157, rfl, S2⟩
  replace S := back _ _ _ _ _ S2 rfl rfl
  clear back S2 SB156
  refine wl_store_agg ag_Term rfl rfl (S.blk 3) (Term.len _) (by rw [Term.len]; decide) (Term.one _) (store_all (Term.len _)) fun w158 B hw158 zw158 => ?_
  replace S := S.store 3 B hw158
  clear B
  refine wl_nil (wc_ret ?_)
  refine ⟨_, (rets1 (retOne_agg ag_Term rfl ((S.blk 0).all _ (Term.len _)) (Term.len _))), ?_⟩
  replace S := S.arr [] [0]
  obtain rfl := Option.some.inj H
  exact ⟨s157, rfl, S⟩
 replace H := if_f hc143 H
 refine wc_seq (wc_region (wd (does_eq rfl rfl) (wd (does_as_b rfl) (wl_nil ?_))))
 refine wc_if rfl (fun hc159 => ?_) (fun hc159 => ?_)
 ·replace H := if_t hc159 H
  refine wc_seq (wc_region (wd (does_load_agg ag_Term rfl ((S.blk 2).all _ (Term.len _)) (Term.len _)) ?_))
  refine wl_lits (C := Term.C) (l := [(⟨r3.kind, r3.name, r3.other, r3.form, s6⟩ : Term)]) (vs := [.agg (Term.C (⟨r3.kind, r3.name, r3.other, r3.form, s6⟩ : Term)).toArray]) sl_L_api_Term el_Term.zero rfl rfl (fun a _ => Term.len a) (by decide) rfl (by decide) fun b161 w160 s162 hBw160 hw160 => ?_
  replace S := ((S.lit hBw160 hw160 (by simp)).bigTm).consTm (x := r3) 2
  replace S := (S.frzTm 0 0).zs [0, 2, 3, 4]
  obtain ⟨r163, er163, H⟩ := bind_ex H
  obtain ⟨B165, MB165, SB165, back⟩ := S.sub [0] [] [oB b20 T_Term (Term.C (⟨r11.kind, r11.name, r11.other, r11.form, s14⟩ : Term)), oB b18 T_Term (Term.C (⟨r7.kind, r7.name, r7.other, r7.form, s10⟩ : Term)), oB b16 T_Term (Term.C (⟨r3.kind, r3.name, r3.other, r3.form, s6⟩ : Term)), oB b2 T_Term (Term.C (⟨0, ByteArray.empty, ByteArray.empty, 0, SlV.nil⟩ : Term))]
  refine wl_call (does_call ca_hilbert_node) (by decide) (hilbert_node_st SB165 er163) ?_
  rintro _ w164 ⟨s166, rfl, S2⟩
  replace S := back _ _ _ _ _ S2 rfl rfl
  clear back S2 SB165
  refine wl_lits (C := SC) (l := [(⟨#[97]⟩ : ByteArray)]) (vs := [.string (⟨#[97]⟩ : ByteArray)]) sl_L_string el_string.zero rfl rfl (fun _ _ => rfl) (by decide) rfl (by decide) fun b168 w167 s169 hBw167 hw167 => ?_
  replace S := S.lit hBw167 hw167 (by simp)
  obtain ⟨r170, er170, H⟩ := bind_ex H
  replace S := S.frzS 0
  obtain ⟨B172, MB172, SB172, back⟩ := S.sub [1, 0] [] [oB b20 T_Term (Term.C (⟨r11.kind, r11.name, r11.other, r11.form, s14⟩ : Term)), oB b18 T_Term (Term.C (⟨r7.kind, r7.name, r7.other, r7.form, s10⟩ : Term)), oB b16 T_Term (Term.C (⟨r3.kind, r3.name, r3.other, r3.form, s6⟩ : Term)), oB b2 T_Term (Term.C (⟨0, ByteArray.empty, ByteArray.empty, 0, SlV.nil⟩ : Term))]
  refine wl_call (does_call ca_hilbert_fun) (by decide) (hilbert_fun_st (a0 := r163) SB172 er170) ?_
  rintro _ w171 ⟨s173, rfl, S2⟩
  replace S := back _ _ _ _ _ S2 rfl rfl
  clear back S2 SB172
  refine wl_store_agg ag_Term rfl rfl (S.blk 3) (Term.len _) (by rw [Term.len]; decide) (Term.one _) (store_all (Term.len _)) fun w174 B hw174 zw174 => ?_
  replace S := S.store 3 B hw174
  clear B
  refine wl_nil (wc_ret ?_)
  refine ⟨_, (rets1 (retOne_agg ag_Term rfl ((S.blk 0).all _ (Term.len _)) (Term.len _))), ?_⟩
  replace S := S.arr [] [0]
  obtain rfl := Option.some.inj H
  exact ⟨s173, rfl, S⟩
 replace H := if_f hc159 H
 refine wc_seq (wc_region (wd (does_eq rfl rfl) (wd (does_as_b rfl) (wl_nil ?_))))
 refine wc_if rfl (fun hc175 => ?_) (fun hc175 => ?_)
 ·replace H := if_t hc175 H
  refine wc_seq (wc_region (wd (does_load_agg ag_Term rfl ((S.blk 2).all _ (Term.len _)) (Term.len _)) ?_))
  refine wl_lits (C := Term.C) (l := [(⟨r3.kind, r3.name, r3.other, r3.form, s6⟩ : Term)]) (vs := [.agg (Term.C (⟨r3.kind, r3.name, r3.other, r3.form, s6⟩ : Term)).toArray]) sl_L_api_Term el_Term.zero rfl rfl (fun a _ => Term.len a) (by decide) rfl (by decide) fun b177 w176 s178 hBw176 hw176 => ?_
  replace S := ((S.lit hBw176 hw176 (by simp)).bigTm).consTm (x := r3) 2
  replace S := (S.frzTm 0 0).zs [0, 2, 3, 4]
  obtain ⟨r179, er179, H⟩ := bind_ex H
  obtain ⟨B181, MB181, SB181, back⟩ := S.sub [0] [] [oB b20 T_Term (Term.C (⟨r11.kind, r11.name, r11.other, r11.form, s14⟩ : Term)), oB b18 T_Term (Term.C (⟨r7.kind, r7.name, r7.other, r7.form, s10⟩ : Term)), oB b16 T_Term (Term.C (⟨r3.kind, r3.name, r3.other, r3.form, s6⟩ : Term)), oB b2 T_Term (Term.C (⟨0, ByteArray.empty, ByteArray.empty, 0, SlV.nil⟩ : Term))]
  refine wl_call (does_call ca_hilbert_node) (by decide) (hilbert_node_st SB181 er179) ?_
  rintro _ w180 ⟨s182, rfl, S2⟩
  replace S := back _ _ _ _ _ S2 rfl rfl
  clear back S2 SB181
  refine wl_lits (C := SC) (l := [(⟨#[97]⟩ : ByteArray)]) (vs := [.string (⟨#[97]⟩ : ByteArray)]) sl_L_string el_string.zero rfl rfl (fun _ _ => rfl) (by decide) rfl (by decide) fun b184 w183 s185 hBw183 hw183 => ?_
  replace S := S.lit hBw183 hw183 (by simp)
  obtain ⟨r186, er186, H⟩ := bind_ex H
  replace S := S.frzS 0
  obtain ⟨B188, MB188, SB188, back⟩ := S.sub [1, 0] [] [oB b20 T_Term (Term.C (⟨r11.kind, r11.name, r11.other, r11.form, s14⟩ : Term)), oB b18 T_Term (Term.C (⟨r7.kind, r7.name, r7.other, r7.form, s10⟩ : Term)), oB b16 T_Term (Term.C (⟨r3.kind, r3.name, r3.other, r3.form, s6⟩ : Term)), oB b2 T_Term (Term.C (⟨0, ByteArray.empty, ByteArray.empty, 0, SlV.nil⟩ : Term))]
  refine wl_call (does_call ca_hilbert_fun) (by decide) (hilbert_fun_st (a0 := r179) SB188 er186) ?_
  rintro _ w187 ⟨s189, rfl, S2⟩
  replace S := back _ _ _ _ _ S2 rfl rfl
  clear back S2 SB188
  refine wl_store_agg ag_Term rfl rfl (S.blk 3) (Term.len _) (by rw [Term.len]; decide) (Term.one _) (store_all (Term.len _)) fun w190 B hw190 zw190 => ?_
  replace S := S.store 3 B hw190
  clear B
  refine wl_nil (wc_ret ?_)
  refine ⟨_, (rets1 (retOne_agg ag_Term rfl ((S.blk 0).all _ (Term.len _)) (Term.len _))), ?_⟩
  replace S := S.arr [] [0]
  obtain rfl := Option.some.inj H
  exact ⟨s189, rfl, S⟩
 replace H := if_f hc175 H
 refine wc_seq (wc_region (wd (does_eq rfl rfl) (wd (does_as_b rfl) (wl_nil ?_))))
 refine wc_if rfl (fun hc191 => ?_) (fun hc191 => ?_)
 ·replace H := if_t hc191 H
  refine wc_seq ?_
  obtain ⟨r192, er192, H⟩ := bind_ex H
  obtain ⟨r199, er199, H⟩ := bind_ex H
  obtain ⟨r203, er203, H⟩ := bind_ex H
  obtain ⟨r210, er210, H⟩ := bind_ex H
  obtain ⟨r217, er217, H⟩ := bind_ex H
  refine wc_draw5 12 ⟨fun _ _ => True, fun _ _ _ => True, fun i v _ => match i with
   | 0 => v = Value.agg (Term.C (⟨r11.kind, r11.name, r11.other, r11.form, s14⟩ : Term)).toArray
   | 1 => v = Value.agg (Term.C (⟨r3.kind, r3.name, r3.other, r3.form, s6⟩ : Term)).toArray
   | 5 => v = Value.agg (Term.C (⟨r7.kind, r7.name, r7.other, r7.form, s10⟩ : Term)).toArray
   | _ => True⟩ (fun L g v => ∃ Z223 : List OA, (∀ z ∈ [oDTerm s14 r11.sub, oDTerm s10 r7.sub, oDTerm s6 r3.sub], z ∈ Z223) ∧ Made L g Z223 2 70 (fun (c : SlV) => Value.agg (Term.C (⟨r192.kind, r192.name, r192.other, r192.form, c⟩ : Term)).toArray) (fun (c : SlV) => [oDTerm c r192.sub]) ∧ Made L g Z223 3 71 (fun (c : SlV) => c.v) (fun (c : SlV) => [oDTerm c ([r3, r192])]) ∧ Made L g Z223 4 72 (fun (c : SlV) => Value.agg (Term.C (⟨r199.kind, r199.name, r199.other, r199.form, c⟩ : Term)).toArray) (fun (c : SlV) => [oDTerm c r199.sub]) ∧ Made L g Z223 6 74 (fun (c : SlV) => Value.agg (Term.C (⟨r203.kind, r203.name, r203.other, r203.form, c⟩ : Term)).toArray) (fun (c : SlV) => [oDTerm c r203.sub]) ∧ Made L g Z223 7 75 (fun (c : SlV) => c.v) (fun (c : SlV) => [oDTerm c ([r7, r203])]) ∧ Made L g Z223 8 76 (fun (c : SlV) => Value.agg (Term.C (⟨r210.kind, r210.name, r210.other, r210.form, c⟩ : Term)).toArray) (fun (c : SlV) => [oDTerm c r210.sub]) ∧ Made L g Z223 9 77 (fun (c : SlV) => c.v) (fun (c : SlV) => [oDTerm c ([r11, r199, r210])]) ∧ Made L g Z223 10 78 (fun (c : SlV) => Value.agg (Term.C (⟨r217.kind, r217.name, r217.other, r217.form, c⟩ : Term)).toArray) (fun (c : SlV) => [oDTerm c r217.sub]) ∧ (bif L 11 then (∃ b222 : Nat, g 6 = Value.pointer (some ⟨b222, 0, none⟩) ∧ St A N w v [oB b222 T_Term (Term.C (⟨0, ByteArray.empty, ByteArray.empty, 0, SlV.nil⟩ : Term)), oB b20 T_Term (Term.C (⟨r11.kind, r11.name, r11.other, r11.form, s14⟩ : Term)), oB b18 T_Term (Term.C (⟨r7.kind, r7.name, r7.other, r7.form, s10⟩ : Term)), oB b16 T_Term (Term.C (⟨r3.kind, r3.name, r3.other, r3.form, s6⟩ : Term)), oB b2 T_Term (Term.C (⟨0, ByteArray.empty, ByteArray.empty, 0, SlV.nil⟩ : Term))] Z223) else St A N w v [oB b20 T_Term (Term.C (⟨r11.kind, r11.name, r11.other, r11.form, s14⟩ : Term)), oB b18 T_Term (Term.C (⟨r7.kind, r7.name, r7.other, r7.form, s10⟩ : Term)), oB b16 T_Term (Term.C (⟨r3.kind, r3.name, r3.other, r3.form, s6⟩ : Term)), oB b2 T_Term (Term.C (⟨0, ByteArray.empty, ByteArray.empty, 0, SlV.nil⟩ : Term))] Z223)) hmix (by kernel_rfl) (fun _ _ _ _ _ _ _ hv => hv) (fun g => ⟨_, fun _ h => h, Made.no, Made.no, Made.no, Made.no, Made.no, Made.no, Made.no, Made.no, S.ext (Ext.drawn _)⟩) ⟨?_, ?_, ?_, ?_, ?_, ?_, ?_, ?_, ?_, ?_, ?_, ?_, trivial⟩ ?_
  ·rintro L g v hL hcl hclo ⟨Z223, hZ, hm2, hm3, hm4, hm6, hm7, hm8, hm9, hm10, hT⟩ 
   cases hl11 : L 11 with
   | true =>
    simp only [hl11, cond_true, cond_false] at hT
    obtain ⟨b222, he11, S⟩ := hT
    replace S := S.zneed hZ
    refine wd (does_load_agg ag_Term rfl ((S.blk 1).all _ (Term.len _)) (Term.len _)) (wl_nil (ob4 trivial rfl ⟨(oDTerm s14 r11.sub :: oDTerm s10 r7.sub :: oDTerm s6 r3.sub :: Z223), fun z h => ?_, hm2.keep rfl rfl fun z h => ?_, hm3.keep rfl rfl fun z h => ?_, hm4.keep rfl rfl fun z h => ?_, hm6.keep rfl rfl fun z h => ?_, hm7.keep rfl rfl fun z h => ?_, hm8.keep rfl rfl fun z h => ?_, hm9.keep rfl rfl fun z h => ?_, hm10.keep rfl rfl fun z h => ?_, by simp only [plus_ne (L := L) (i := 0) (j := 11) rfl, hl11, cond_true]; exact ⟨b222, by rw [upd_other _ _ _ _ (by decide)]; exact he11, S⟩⟩))
    ·have := hZ z h; simp only [List.mem_cons, this, or_true]
    all_goals first | simp only [List.mem_cons, h, or_true] | simp only [List.mem_cons, true_or, or_true]
   | false =>
    simp only [hl11, cond_true, cond_false] at hT
    replace S : St A N w v [oB b20 T_Term (Term.C (⟨r11.kind, r11.name, r11.other, r11.form, s14⟩ : Term)), oB b18 T_Term (Term.C (⟨r7.kind, r7.name, r7.other, r7.form, s10⟩ : Term)), oB b16 T_Term (Term.C (⟨r3.kind, r3.name, r3.other, r3.form, s6⟩ : Term)), oB b2 T_Term (Term.C (⟨0, ByteArray.empty, ByteArray.empty, 0, SlV.nil⟩ : Term))] Z223 := hT
    replace S := S.zneed hZ
    refine wd (does_load_agg ag_Term rfl ((S.blk 0).all _ (Term.len _)) (Term.len _)) (wl_nil (ob4 trivial rfl ⟨(oDTerm s14 r11.sub :: oDTerm s10 r7.sub :: oDTerm s6 r3.sub :: Z223), fun z h => ?_, hm2.keep rfl rfl fun z h => ?_, hm3.keep rfl rfl fun z h => ?_, hm4.keep rfl rfl fun z h => ?_, hm6.keep rfl rfl fun z h => ?_, hm7.keep rfl rfl fun z h => ?_, hm8.keep rfl rfl fun z h => ?_, hm9.keep rfl rfl fun z h => ?_, hm10.keep rfl rfl fun z h => ?_, by simp only [plus_ne (L := L) (i := 0) (j := 11) rfl, hl11, cond_false]; exact S⟩))
    ·have := hZ z h; simp only [List.mem_cons, this, or_true]
    all_goals first | simp only [List.mem_cons, h, or_true] | simp only [List.mem_cons, true_or, or_true]
  ·rintro L g v hL hcl hclo ⟨Z223, hZ, hm2, hm3, hm4, hm6, hm7, hm8, hm9, hm10, hT⟩ 
   cases hl11 : L 11 with
   | true =>
    simp only [hl11, cond_true, cond_false] at hT
    obtain ⟨b222, he11, S⟩ := hT
    replace S := S.zneed hZ
    refine wd (does_load_agg ag_Term rfl ((S.blk 3).all _ (Term.len _)) (Term.len _)) (wl_nil (ob4 trivial rfl ⟨(oDTerm s14 r11.sub :: oDTerm s10 r7.sub :: oDTerm s6 r3.sub :: Z223), fun z h => ?_, hm2.keep rfl rfl fun z h => ?_, hm3.keep rfl rfl fun z h => ?_, hm4.keep rfl rfl fun z h => ?_, hm6.keep rfl rfl fun z h => ?_, hm7.keep rfl rfl fun z h => ?_, hm8.keep rfl rfl fun z h => ?_, hm9.keep rfl rfl fun z h => ?_, hm10.keep rfl rfl fun z h => ?_, by simp only [plus_ne (L := L) (i := 1) (j := 11) rfl, hl11, cond_true]; exact ⟨b222, by rw [upd_other _ _ _ _ (by decide)]; exact he11, S⟩⟩))
    ·have := hZ z h; simp only [List.mem_cons, this, or_true]
    all_goals first | simp only [List.mem_cons, h, or_true] | simp only [List.mem_cons, true_or, or_true]
   | false =>
    simp only [hl11, cond_true, cond_false] at hT
    replace S : St A N w v [oB b20 T_Term (Term.C (⟨r11.kind, r11.name, r11.other, r11.form, s14⟩ : Term)), oB b18 T_Term (Term.C (⟨r7.kind, r7.name, r7.other, r7.form, s10⟩ : Term)), oB b16 T_Term (Term.C (⟨r3.kind, r3.name, r3.other, r3.form, s6⟩ : Term)), oB b2 T_Term (Term.C (⟨0, ByteArray.empty, ByteArray.empty, 0, SlV.nil⟩ : Term))] Z223 := hT
    replace S := S.zneed hZ
    refine wd (does_load_agg ag_Term rfl ((S.blk 2).all _ (Term.len _)) (Term.len _)) (wl_nil (ob4 trivial rfl ⟨(oDTerm s14 r11.sub :: oDTerm s10 r7.sub :: oDTerm s6 r3.sub :: Z223), fun z h => ?_, hm2.keep rfl rfl fun z h => ?_, hm3.keep rfl rfl fun z h => ?_, hm4.keep rfl rfl fun z h => ?_, hm6.keep rfl rfl fun z h => ?_, hm7.keep rfl rfl fun z h => ?_, hm8.keep rfl rfl fun z h => ?_, hm9.keep rfl rfl fun z h => ?_, hm10.keep rfl rfl fun z h => ?_, by simp only [plus_ne (L := L) (i := 1) (j := 11) rfl, hl11, cond_false]; exact S⟩))
    ·have := hZ z h; simp only [List.mem_cons, this, or_true]
    all_goals first | simp only [List.mem_cons, h, or_true] | simp only [List.mem_cons, true_or, or_true]
  ·rintro L g v hL hcl hclo ⟨Z223, hZ, hm2, hm3, hm4, hm6, hm7, hm8, hm9, hm10, hT⟩ 
   cases hl11 : L 11 with
   | true =>
    simp only [hl11, cond_true, cond_false] at hT
    obtain ⟨b222, he11, S⟩ := hT
    replace S := S.zneed hZ
    obtain ⟨B226, MB226, SB226, back⟩ := S.sub [] [] [oB b222 T_Term (Term.C (⟨0, ByteArray.empty, ByteArray.empty, 0, SlV.nil⟩ : Term)), oB b20 T_Term (Term.C (⟨r11.kind, r11.name, r11.other, r11.form, s14⟩ : Term)), oB b18 T_Term (Term.C (⟨r7.kind, r7.name, r7.other, r7.form, s10⟩ : Term)), oB b16 T_Term (Term.C (⟨r3.kind, r3.name, r3.other, r3.form, s6⟩ : Term)), oB b2 T_Term (Term.C (⟨0, ByteArray.empty, ByteArray.empty, 0, SlV.nil⟩ : Term))]
    refine wl_call (does_call ca_hilbert_v) (by decide) (hilbert_v_st SB226 er192) ?_
    rintro _ w225 ⟨s227, rfl, S2⟩
    replace S := back _ _ _ _ _ S2 rfl rfl
    clear back S2 SB226
    refine wl_nil (ob4 trivial trivial ⟨(oDTerm s227 r192.sub :: oDTerm s14 r11.sub :: oDTerm s10 r7.sub :: oDTerm s6 r3.sub :: Z223), fun z h => ?_, Made.one (val := (fun (c : SlV) => Value.agg (Term.C (⟨r192.kind, r192.name, r192.other, r192.form, c⟩ : Term)).toArray)) (ps := (fun (c : SlV) => [oDTerm c r192.sub])) s227 (zs_cons ?_ zs_nil), hm3.keep rfl rfl fun z h => ?_, hm4.keep rfl rfl fun z h => ?_, hm6.keep rfl rfl fun z h => ?_, hm7.keep rfl rfl fun z h => ?_, hm8.keep rfl rfl fun z h => ?_, hm9.keep rfl rfl fun z h => ?_, hm10.keep rfl rfl fun z h => ?_, by simp only [plus_ne (L := L) (i := 2) (j := 11) rfl, hl11, cond_true]; exact ⟨b222, by rw [upd_other _ _ _ _ (by decide)]; exact he11, S⟩⟩)
    ·have := hZ z h; simp only [List.mem_cons, this, or_true]
    all_goals first | simp only [List.mem_cons, h, or_true] | simp only [List.mem_cons, true_or, or_true]
   | false =>
    simp only [hl11, cond_true, cond_false] at hT
    replace S : St A N w v [oB b20 T_Term (Term.C (⟨r11.kind, r11.name, r11.other, r11.form, s14⟩ : Term)), oB b18 T_Term (Term.C (⟨r7.kind, r7.name, r7.other, r7.form, s10⟩ : Term)), oB b16 T_Term (Term.C (⟨r3.kind, r3.name, r3.other, r3.form, s6⟩ : Term)), oB b2 T_Term (Term.C (⟨0, ByteArray.empty, ByteArray.empty, 0, SlV.nil⟩ : Term))] Z223 := hT
    replace S := S.zneed hZ
    obtain ⟨B230, MB230, SB230, back⟩ := S.sub [] [] [oB b20 T_Term (Term.C (⟨r11.kind, r11.name, r11.other, r11.form, s14⟩ : Term)), oB b18 T_Term (Term.C (⟨r7.kind, r7.name, r7.other, r7.form, s10⟩ : Term)), oB b16 T_Term (Term.C (⟨r3.kind, r3.name, r3.other, r3.form, s6⟩ : Term)), oB b2 T_Term (Term.C (⟨0, ByteArray.empty, ByteArray.empty, 0, SlV.nil⟩ : Term))]
    refine wl_call (does_call ca_hilbert_v) (by decide) (hilbert_v_st SB230 er192) ?_
    rintro _ w229 ⟨s231, rfl, S2⟩
    replace S := back _ _ _ _ _ S2 rfl rfl
    clear back S2 SB230
    refine wl_nil (ob4 trivial trivial ⟨(oDTerm s231 r192.sub :: oDTerm s14 r11.sub :: oDTerm s10 r7.sub :: oDTerm s6 r3.sub :: Z223), fun z h => ?_, Made.one (val := (fun (c : SlV) => Value.agg (Term.C (⟨r192.kind, r192.name, r192.other, r192.form, c⟩ : Term)).toArray)) (ps := (fun (c : SlV) => [oDTerm c r192.sub])) s231 (zs_cons ?_ zs_nil), hm3.keep rfl rfl fun z h => ?_, hm4.keep rfl rfl fun z h => ?_, hm6.keep rfl rfl fun z h => ?_, hm7.keep rfl rfl fun z h => ?_, hm8.keep rfl rfl fun z h => ?_, hm9.keep rfl rfl fun z h => ?_, hm10.keep rfl rfl fun z h => ?_, by simp only [plus_ne (L := L) (i := 2) (j := 11) rfl, hl11, cond_false]; exact S⟩)
    ·have := hZ z h; simp only [List.mem_cons, this, or_true]
    all_goals first | simp only [List.mem_cons, h, or_true] | simp only [List.mem_cons, true_or, or_true]
  ·rintro L g v hL hcl hclo ⟨Z223, hZ, hm2, hm3, hm4, hm6, hm7, hm8, hm9, hm10, hT⟩ hv1 _
   obtain ⟨s195, he2, hp2⟩ := hm2 (hcl 2 (by kernel_rfl))
   cases hl11 : L 11 with
   | true =>
    simp only [hl11, cond_true, cond_false] at hT
    obtain ⟨b222, he11, S⟩ := hT
    replace S := S.zneed (zs_app (l1 := [oDTerm s195 r192.sub]) hp2 hZ)
    refine wl_lits (C := Term.C) (l := [(⟨r3.kind, r3.name, r3.other, r3.form, s6⟩ : Term), (⟨r192.kind, r192.name, r192.other, r192.form, s195⟩ : Term)]) (vs := [.agg (Term.C (⟨r3.kind, r3.name, r3.other, r3.form, s6⟩ : Term)).toArray, .agg (Term.C (⟨r192.kind, r192.name, r192.other, r192.form, s195⟩ : Term)).toArray]) sl_L_api_Term el_Term.zero (consP hv1 (consP he2 rfl)) rfl (fun a _ => Term.len a) (by decide) rfl (by decide) fun b233 w232 s234 hBw232 hw232 => ?_
    replace S := ((S.lit hBw232 hw232 (by simp)).bigTm).consTm (x := r192) 0
    replace S := (S.consTm (x := r3) 3).frzTm 0 0
    refine wl_nil (ob4 trivial trivial ⟨(oDTerm s234 ([r3, r192]) :: bigA fTerm [(⟨r3.kind, r3.name, r3.other, r3.form, s6⟩ : Term), (⟨r192.kind, r192.name, r192.other, r192.form, s195⟩ : Term)] [r3, r192] :: oDTerm s195 r192.sub :: oDTerm s14 r11.sub :: oDTerm s10 r7.sub :: oDTerm s6 r3.sub :: Z223), fun z h => ?_, hm2.keep rfl rfl fun z h => ?_, Made.one (val := (fun (c : SlV) => c.v)) (ps := (fun (c : SlV) => [oDTerm c ([r3, r192])])) s234 (zs_cons ?_ zs_nil), hm4.keep rfl rfl fun z h => ?_, hm6.keep rfl rfl fun z h => ?_, hm7.keep rfl rfl fun z h => ?_, hm8.keep rfl rfl fun z h => ?_, hm9.keep rfl rfl fun z h => ?_, hm10.keep rfl rfl fun z h => ?_, by simp only [plus_ne (L := L) (i := 3) (j := 11) rfl, hl11, cond_true]; exact ⟨b222, by rw [upd_other _ _ _ _ (by decide)]; exact he11, S⟩⟩)
    ·have := hZ z h; simp only [List.mem_cons, this, or_true]
    all_goals first | simp only [List.mem_cons, h, or_true] | simp only [List.mem_cons, true_or, or_true]
   | false =>
    simp only [hl11, cond_true, cond_false] at hT
    replace S : St A N w v [oB b20 T_Term (Term.C (⟨r11.kind, r11.name, r11.other, r11.form, s14⟩ : Term)), oB b18 T_Term (Term.C (⟨r7.kind, r7.name, r7.other, r7.form, s10⟩ : Term)), oB b16 T_Term (Term.C (⟨r3.kind, r3.name, r3.other, r3.form, s6⟩ : Term)), oB b2 T_Term (Term.C (⟨0, ByteArray.empty, ByteArray.empty, 0, SlV.nil⟩ : Term))] Z223 := hT
    replace S := S.zneed (zs_app (l1 := [oDTerm s195 r192.sub]) hp2 hZ)
    refine wl_lits (C := Term.C) (l := [(⟨r3.kind, r3.name, r3.other, r3.form, s6⟩ : Term), (⟨r192.kind, r192.name, r192.other, r192.form, s195⟩ : Term)]) (vs := [.agg (Term.C (⟨r3.kind, r3.name, r3.other, r3.form, s6⟩ : Term)).toArray, .agg (Term.C (⟨r192.kind, r192.name, r192.other, r192.form, s195⟩ : Term)).toArray]) sl_L_api_Term el_Term.zero (consP hv1 (consP he2 rfl)) rfl (fun a _ => Term.len a) (by decide) rfl (by decide) fun b236 w235 s237 hBw235 hw235 => ?_
    replace S := ((S.lit hBw235 hw235 (by simp)).bigTm).consTm (x := r192) 0
    replace S := (S.consTm (x := r3) 3).frzTm 0 0
    refine wl_nil (ob4 trivial trivial ⟨(oDTerm s237 ([r3, r192]) :: bigA fTerm [(⟨r3.kind, r3.name, r3.other, r3.form, s6⟩ : Term), (⟨r192.kind, r192.name, r192.other, r192.form, s195⟩ : Term)] [r3, r192] :: oDTerm s195 r192.sub :: oDTerm s14 r11.sub :: oDTerm s10 r7.sub :: oDTerm s6 r3.sub :: Z223), fun z h => ?_, hm2.keep rfl rfl fun z h => ?_, Made.one (val := (fun (c : SlV) => c.v)) (ps := (fun (c : SlV) => [oDTerm c ([r3, r192])])) s237 (zs_cons ?_ zs_nil), hm4.keep rfl rfl fun z h => ?_, hm6.keep rfl rfl fun z h => ?_, hm7.keep rfl rfl fun z h => ?_, hm8.keep rfl rfl fun z h => ?_, hm9.keep rfl rfl fun z h => ?_, hm10.keep rfl rfl fun z h => ?_, by simp only [plus_ne (L := L) (i := 3) (j := 11) rfl, hl11, cond_false]; exact S⟩)
    ·have := hZ z h; simp only [List.mem_cons, this, or_true]
    all_goals first | simp only [List.mem_cons, h, or_true] | simp only [List.mem_cons, true_or, or_true]
  ·rintro L g v hL hcl hclo ⟨Z223, hZ, hm2, hm3, hm4, hm6, hm7, hm8, hm9, hm10, hT⟩ _
   obtain ⟨s198, he3, hp3⟩ := hm3 (hcl 3 (by kernel_rfl))
   cases hl11 : L 11 with
   | true =>
    simp only [hl11, cond_true, cond_false] at hT
    obtain ⟨b222, he11, S⟩ := hT
    replace S := S.zneed (zs_app (l1 := [oDTerm s198 ([r3, r192])]) hp3 hZ)
    obtain ⟨B240, MB240, SB240, back⟩ := S.sub [0] [] [oB b222 T_Term (Term.C (⟨0, ByteArray.empty, ByteArray.empty, 0, SlV.nil⟩ : Term)), oB b20 T_Term (Term.C (⟨r11.kind, r11.name, r11.other, r11.form, s14⟩ : Term)), oB b18 T_Term (Term.C (⟨r7.kind, r7.name, r7.other, r7.form, s10⟩ : Term)), oB b16 T_Term (Term.C (⟨r3.kind, r3.name, r3.other, r3.form, s6⟩ : Term)), oB b2 T_Term (Term.C (⟨0, ByteArray.empty, ByteArray.empty, 0, SlV.nil⟩ : Term))]
    refine wl_call (does_callg ca_hilbert_node (cons2 rfl (cons2 he3 rfl))) (by decide) (hilbert_node_st SB240 er199) ?_
    rintro _ w239 ⟨s241, rfl, S2⟩
    replace S := back _ _ _ _ _ S2 rfl rfl
    clear back S2 SB240
    refine wl_nil (ob4 trivial trivial ⟨(oDTerm s241 r199.sub :: oDTerm s198 ([r3, r192]) :: oDTerm s14 r11.sub :: oDTerm s10 r7.sub :: oDTerm s6 r3.sub :: Z223), fun z h => ?_, hm2.keep rfl rfl fun z h => ?_, hm3.keep rfl rfl fun z h => ?_, Made.one (val := (fun (c : SlV) => Value.agg (Term.C (⟨r199.kind, r199.name, r199.other, r199.form, c⟩ : Term)).toArray)) (ps := (fun (c : SlV) => [oDTerm c r199.sub])) s241 (zs_cons ?_ zs_nil), hm6.keep rfl rfl fun z h => ?_, hm7.keep rfl rfl fun z h => ?_, hm8.keep rfl rfl fun z h => ?_, hm9.keep rfl rfl fun z h => ?_, hm10.keep rfl rfl fun z h => ?_, by simp only [plus_ne (L := L) (i := 4) (j := 11) rfl, hl11, cond_true]; exact ⟨b222, by rw [upd_other _ _ _ _ (by decide)]; exact he11, S⟩⟩)
    ·have := hZ z h; simp only [List.mem_cons, this, or_true]
    all_goals first | simp only [List.mem_cons, h, or_true] | simp only [List.mem_cons, true_or, or_true]
   | false =>
    simp only [hl11, cond_true, cond_false] at hT
    replace S : St A N w v [oB b20 T_Term (Term.C (⟨r11.kind, r11.name, r11.other, r11.form, s14⟩ : Term)), oB b18 T_Term (Term.C (⟨r7.kind, r7.name, r7.other, r7.form, s10⟩ : Term)), oB b16 T_Term (Term.C (⟨r3.kind, r3.name, r3.other, r3.form, s6⟩ : Term)), oB b2 T_Term (Term.C (⟨0, ByteArray.empty, ByteArray.empty, 0, SlV.nil⟩ : Term))] Z223 := hT
    replace S := S.zneed (zs_app (l1 := [oDTerm s198 ([r3, r192])]) hp3 hZ)
    obtain ⟨B244, MB244, SB244, back⟩ := S.sub [0] [] [oB b20 T_Term (Term.C (⟨r11.kind, r11.name, r11.other, r11.form, s14⟩ : Term)), oB b18 T_Term (Term.C (⟨r7.kind, r7.name, r7.other, r7.form, s10⟩ : Term)), oB b16 T_Term (Term.C (⟨r3.kind, r3.name, r3.other, r3.form, s6⟩ : Term)), oB b2 T_Term (Term.C (⟨0, ByteArray.empty, ByteArray.empty, 0, SlV.nil⟩ : Term))]
    refine wl_call (does_callg ca_hilbert_node (cons2 rfl (cons2 he3 rfl))) (by decide) (hilbert_node_st SB244 er199) ?_
    rintro _ w243 ⟨s245, rfl, S2⟩
    replace S := back _ _ _ _ _ S2 rfl rfl
    clear back S2 SB244
    refine wl_nil (ob4 trivial trivial ⟨(oDTerm s245 r199.sub :: oDTerm s198 ([r3, r192]) :: oDTerm s14 r11.sub :: oDTerm s10 r7.sub :: oDTerm s6 r3.sub :: Z223), fun z h => ?_, hm2.keep rfl rfl fun z h => ?_, hm3.keep rfl rfl fun z h => ?_, Made.one (val := (fun (c : SlV) => Value.agg (Term.C (⟨r199.kind, r199.name, r199.other, r199.form, c⟩ : Term)).toArray)) (ps := (fun (c : SlV) => [oDTerm c r199.sub])) s245 (zs_cons ?_ zs_nil), hm6.keep rfl rfl fun z h => ?_, hm7.keep rfl rfl fun z h => ?_, hm8.keep rfl rfl fun z h => ?_, hm9.keep rfl rfl fun z h => ?_, hm10.keep rfl rfl fun z h => ?_, by simp only [plus_ne (L := L) (i := 4) (j := 11) rfl, hl11, cond_false]; exact S⟩)
    ·have := hZ z h; simp only [List.mem_cons, this, or_true]
    all_goals first | simp only [List.mem_cons, h, or_true] | simp only [List.mem_cons, true_or, or_true]
  ·rintro L g v hL hcl hclo ⟨Z223, hZ, hm2, hm3, hm4, hm6, hm7, hm8, hm9, hm10, hT⟩ 
   cases hl11 : L 11 with
   | true =>
    simp only [hl11, cond_true, cond_false] at hT
    obtain ⟨b222, he11, S⟩ := hT
    replace S := S.zneed hZ
    refine wd (does_load_agg ag_Term rfl ((S.blk 2).all _ (Term.len _)) (Term.len _)) (wl_nil (ob4 trivial rfl ⟨(oDTerm s14 r11.sub :: oDTerm s10 r7.sub :: oDTerm s6 r3.sub :: Z223), fun z h => ?_, hm2.keep rfl rfl fun z h => ?_, hm3.keep rfl rfl fun z h => ?_, hm4.keep rfl rfl fun z h => ?_, hm6.keep rfl rfl fun z h => ?_, hm7.keep rfl rfl fun z h => ?_, hm8.keep rfl rfl fun z h => ?_, hm9.keep rfl rfl fun z h => ?_, hm10.keep rfl rfl fun z h => ?_, by simp only [plus_ne (L := L) (i := 5) (j := 11) rfl, hl11, cond_true]; exact ⟨b222, by rw [upd_other _ _ _ _ (by decide)]; exact he11, S⟩⟩))
    ·have := hZ z h; simp only [List.mem_cons, this, or_true]
    all_goals first | simp only [List.mem_cons, h, or_true] | simp only [List.mem_cons, true_or, or_true]
   | false =>
    simp only [hl11, cond_true, cond_false] at hT
    replace S : St A N w v [oB b20 T_Term (Term.C (⟨r11.kind, r11.name, r11.other, r11.form, s14⟩ : Term)), oB b18 T_Term (Term.C (⟨r7.kind, r7.name, r7.other, r7.form, s10⟩ : Term)), oB b16 T_Term (Term.C (⟨r3.kind, r3.name, r3.other, r3.form, s6⟩ : Term)), oB b2 T_Term (Term.C (⟨0, ByteArray.empty, ByteArray.empty, 0, SlV.nil⟩ : Term))] Z223 := hT
    replace S := S.zneed hZ
    refine wd (does_load_agg ag_Term rfl ((S.blk 1).all _ (Term.len _)) (Term.len _)) (wl_nil (ob4 trivial rfl ⟨(oDTerm s14 r11.sub :: oDTerm s10 r7.sub :: oDTerm s6 r3.sub :: Z223), fun z h => ?_, hm2.keep rfl rfl fun z h => ?_, hm3.keep rfl rfl fun z h => ?_, hm4.keep rfl rfl fun z h => ?_, hm6.keep rfl rfl fun z h => ?_, hm7.keep rfl rfl fun z h => ?_, hm8.keep rfl rfl fun z h => ?_, hm9.keep rfl rfl fun z h => ?_, hm10.keep rfl rfl fun z h => ?_, by simp only [plus_ne (L := L) (i := 5) (j := 11) rfl, hl11, cond_false]; exact S⟩))
    ·have := hZ z h; simp only [List.mem_cons, this, or_true]
    all_goals first | simp only [List.mem_cons, h, or_true] | simp only [List.mem_cons, true_or, or_true]
  ·rintro L g v hL hcl hclo ⟨Z223, hZ, hm2, hm3, hm4, hm6, hm7, hm8, hm9, hm10, hT⟩ 
   cases hl11 : L 11 with
   | true =>
    simp only [hl11, cond_true, cond_false] at hT
    obtain ⟨b222, he11, S⟩ := hT
    replace S := S.zneed hZ
    obtain ⟨B248, MB248, SB248, back⟩ := S.sub [] [] [oB b222 T_Term (Term.C (⟨0, ByteArray.empty, ByteArray.empty, 0, SlV.nil⟩ : Term)), oB b20 T_Term (Term.C (⟨r11.kind, r11.name, r11.other, r11.form, s14⟩ : Term)), oB b18 T_Term (Term.C (⟨r7.kind, r7.name, r7.other, r7.form, s10⟩ : Term)), oB b16 T_Term (Term.C (⟨r3.kind, r3.name, r3.other, r3.form, s6⟩ : Term)), oB b2 T_Term (Term.C (⟨0, ByteArray.empty, ByteArray.empty, 0, SlV.nil⟩ : Term))]
    refine wl_call (does_call ca_hilbert_v) (by decide) (hilbert_v_st SB248 er203) ?_
    rintro _ w247 ⟨s249, rfl, S2⟩
    replace S := back _ _ _ _ _ S2 rfl rfl
    clear back S2 SB248
    refine wl_nil (ob4 trivial trivial ⟨(oDTerm s249 r203.sub :: oDTerm s14 r11.sub :: oDTerm s10 r7.sub :: oDTerm s6 r3.sub :: Z223), fun z h => ?_, hm2.keep rfl rfl fun z h => ?_, hm3.keep rfl rfl fun z h => ?_, hm4.keep rfl rfl fun z h => ?_, Made.one (val := (fun (c : SlV) => Value.agg (Term.C (⟨r203.kind, r203.name, r203.other, r203.form, c⟩ : Term)).toArray)) (ps := (fun (c : SlV) => [oDTerm c r203.sub])) s249 (zs_cons ?_ zs_nil), hm7.keep rfl rfl fun z h => ?_, hm8.keep rfl rfl fun z h => ?_, hm9.keep rfl rfl fun z h => ?_, hm10.keep rfl rfl fun z h => ?_, by simp only [plus_ne (L := L) (i := 6) (j := 11) rfl, hl11, cond_true]; exact ⟨b222, by rw [upd_other _ _ _ _ (by decide)]; exact he11, S⟩⟩)
    ·have := hZ z h; simp only [List.mem_cons, this, or_true]
    all_goals first | simp only [List.mem_cons, h, or_true] | simp only [List.mem_cons, true_or, or_true]
   | false =>
    simp only [hl11, cond_true, cond_false] at hT
    replace S : St A N w v [oB b20 T_Term (Term.C (⟨r11.kind, r11.name, r11.other, r11.form, s14⟩ : Term)), oB b18 T_Term (Term.C (⟨r7.kind, r7.name, r7.other, r7.form, s10⟩ : Term)), oB b16 T_Term (Term.C (⟨r3.kind, r3.name, r3.other, r3.form, s6⟩ : Term)), oB b2 T_Term (Term.C (⟨0, ByteArray.empty, ByteArray.empty, 0, SlV.nil⟩ : Term))] Z223 := hT
    replace S := S.zneed hZ
    obtain ⟨B252, MB252, SB252, back⟩ := S.sub [] [] [oB b20 T_Term (Term.C (⟨r11.kind, r11.name, r11.other, r11.form, s14⟩ : Term)), oB b18 T_Term (Term.C (⟨r7.kind, r7.name, r7.other, r7.form, s10⟩ : Term)), oB b16 T_Term (Term.C (⟨r3.kind, r3.name, r3.other, r3.form, s6⟩ : Term)), oB b2 T_Term (Term.C (⟨0, ByteArray.empty, ByteArray.empty, 0, SlV.nil⟩ : Term))]
    refine wl_call (does_call ca_hilbert_v) (by decide) (hilbert_v_st SB252 er203) ?_
    rintro _ w251 ⟨s253, rfl, S2⟩
    replace S := back _ _ _ _ _ S2 rfl rfl
    clear back S2 SB252
    refine wl_nil (ob4 trivial trivial ⟨(oDTerm s253 r203.sub :: oDTerm s14 r11.sub :: oDTerm s10 r7.sub :: oDTerm s6 r3.sub :: Z223), fun z h => ?_, hm2.keep rfl rfl fun z h => ?_, hm3.keep rfl rfl fun z h => ?_, hm4.keep rfl rfl fun z h => ?_, Made.one (val := (fun (c : SlV) => Value.agg (Term.C (⟨r203.kind, r203.name, r203.other, r203.form, c⟩ : Term)).toArray)) (ps := (fun (c : SlV) => [oDTerm c r203.sub])) s253 (zs_cons ?_ zs_nil), hm7.keep rfl rfl fun z h => ?_, hm8.keep rfl rfl fun z h => ?_, hm9.keep rfl rfl fun z h => ?_, hm10.keep rfl rfl fun z h => ?_, by simp only [plus_ne (L := L) (i := 6) (j := 11) rfl, hl11, cond_false]; exact S⟩)
    ·have := hZ z h; simp only [List.mem_cons, this, or_true]
    all_goals first | simp only [List.mem_cons, h, or_true] | simp only [List.mem_cons, true_or, or_true]
  ·rintro L g v hL hcl hclo ⟨Z223, hZ, hm2, hm3, hm4, hm6, hm7, hm8, hm9, hm10, hT⟩ hv5 _
   obtain ⟨s206, he6, hp6⟩ := hm6 (hcl 6 (by kernel_rfl))
   cases hl11 : L 11 with
   | true =>
    simp only [hl11, cond_true, cond_false] at hT
    obtain ⟨b222, he11, S⟩ := hT
    replace S := S.zneed (zs_app (l1 := [oDTerm s206 r203.sub]) hp6 hZ)
    refine wl_lits (C := Term.C) (l := [(⟨r7.kind, r7.name, r7.other, r7.form, s10⟩ : Term), (⟨r203.kind, r203.name, r203.other, r203.form, s206⟩ : Term)]) (vs := [.agg (Term.C (⟨r7.kind, r7.name, r7.other, r7.form, s10⟩ : Term)).toArray, .agg (Term.C (⟨r203.kind, r203.name, r203.other, r203.form, s206⟩ : Term)).toArray]) sl_L_api_Term el_Term.zero (consP hv5 (consP he6 rfl)) rfl (fun a _ => Term.len a) (by decide) rfl (by decide) fun b255 w254 s256 hBw254 hw254 => ?_
    replace S := ((S.lit hBw254 hw254 (by simp)).bigTm).consTm (x := r203) 0
    replace S := (S.consTm (x := r7) 2).frzTm 0 0
    refine wl_nil (ob4 trivial trivial ⟨(oDTerm s256 ([r7, r203]) :: bigA fTerm [(⟨r7.kind, r7.name, r7.other, r7.form, s10⟩ : Term), (⟨r203.kind, r203.name, r203.other, r203.form, s206⟩ : Term)] [r7, r203] :: oDTerm s206 r203.sub :: oDTerm s14 r11.sub :: oDTerm s10 r7.sub :: oDTerm s6 r3.sub :: Z223), fun z h => ?_, hm2.keep rfl rfl fun z h => ?_, hm3.keep rfl rfl fun z h => ?_, hm4.keep rfl rfl fun z h => ?_, hm6.keep rfl rfl fun z h => ?_, Made.one (val := (fun (c : SlV) => c.v)) (ps := (fun (c : SlV) => [oDTerm c ([r7, r203])])) s256 (zs_cons ?_ zs_nil), hm8.keep rfl rfl fun z h => ?_, hm9.keep rfl rfl fun z h => ?_, hm10.keep rfl rfl fun z h => ?_, by simp only [plus_ne (L := L) (i := 7) (j := 11) rfl, hl11, cond_true]; exact ⟨b222, by rw [upd_other _ _ _ _ (by decide)]; exact he11, S⟩⟩)
    ·have := hZ z h; simp only [List.mem_cons, this, or_true]
    all_goals first | simp only [List.mem_cons, h, or_true] | simp only [List.mem_cons, true_or, or_true]
   | false =>
    simp only [hl11, cond_true, cond_false] at hT
    replace S : St A N w v [oB b20 T_Term (Term.C (⟨r11.kind, r11.name, r11.other, r11.form, s14⟩ : Term)), oB b18 T_Term (Term.C (⟨r7.kind, r7.name, r7.other, r7.form, s10⟩ : Term)), oB b16 T_Term (Term.C (⟨r3.kind, r3.name, r3.other, r3.form, s6⟩ : Term)), oB b2 T_Term (Term.C (⟨0, ByteArray.empty, ByteArray.empty, 0, SlV.nil⟩ : Term))] Z223 := hT
    replace S := S.zneed (zs_app (l1 := [oDTerm s206 r203.sub]) hp6 hZ)
    refine wl_lits (C := Term.C) (l := [(⟨r7.kind, r7.name, r7.other, r7.form, s10⟩ : Term), (⟨r203.kind, r203.name, r203.other, r203.form, s206⟩ : Term)]) (vs := [.agg (Term.C (⟨r7.kind, r7.name, r7.other, r7.form, s10⟩ : Term)).toArray, .agg (Term.C (⟨r203.kind, r203.name, r203.other, r203.form, s206⟩ : Term)).toArray]) sl_L_api_Term el_Term.zero (consP hv5 (consP he6 rfl)) rfl (fun a _ => Term.len a) (by decide) rfl (by decide) fun b258 w257 s259 hBw257 hw257 => ?_
    replace S := ((S.lit hBw257 hw257 (by simp)).bigTm).consTm (x := r203) 0
    replace S := (S.consTm (x := r7) 2).frzTm 0 0
    refine wl_nil (ob4 trivial trivial ⟨(oDTerm s259 ([r7, r203]) :: bigA fTerm [(⟨r7.kind, r7.name, r7.other, r7.form, s10⟩ : Term), (⟨r203.kind, r203.name, r203.other, r203.form, s206⟩ : Term)] [r7, r203] :: oDTerm s206 r203.sub :: oDTerm s14 r11.sub :: oDTerm s10 r7.sub :: oDTerm s6 r3.sub :: Z223), fun z h => ?_, hm2.keep rfl rfl fun z h => ?_, hm3.keep rfl rfl fun z h => ?_, hm4.keep rfl rfl fun z h => ?_, hm6.keep rfl rfl fun z h => ?_, Made.one (val := (fun (c : SlV) => c.v)) (ps := (fun (c : SlV) => [oDTerm c ([r7, r203])])) s259 (zs_cons ?_ zs_nil), hm8.keep rfl rfl fun z h => ?_, hm9.keep rfl rfl fun z h => ?_, hm10.keep rfl rfl fun z h => ?_, by simp only [plus_ne (L := L) (i := 7) (j := 11) rfl, hl11, cond_false]; exact S⟩)
    ·have := hZ z h; simp only [List.mem_cons, this, or_true]
    all_goals first | simp only [List.mem_cons, h, or_true] | simp only [List.mem_cons, true_or, or_true]
  ·rintro L g v hL hcl hclo ⟨Z223, hZ, hm2, hm3, hm4, hm6, hm7, hm8, hm9, hm10, hT⟩ _
   obtain ⟨s209, he7, hp7⟩ := hm7 (hcl 7 (by kernel_rfl))
   cases hl11 : L 11 with
   | true =>
    simp only [hl11, cond_true, cond_false] at hT
    obtain ⟨b222, he11, S⟩ := hT
    replace S := S.zneed (zs_app (l1 := [oDTerm s209 ([r7, r203])]) hp7 hZ)
    obtain ⟨B262, MB262, SB262, back⟩ := S.sub [0] [] [oB b222 T_Term (Term.C (⟨0, ByteArray.empty, ByteArray.empty, 0, SlV.nil⟩ : Term)), oB b20 T_Term (Term.C (⟨r11.kind, r11.name, r11.other, r11.form, s14⟩ : Term)), oB b18 T_Term (Term.C (⟨r7.kind, r7.name, r7.other, r7.form, s10⟩ : Term)), oB b16 T_Term (Term.C (⟨r3.kind, r3.name, r3.other, r3.form, s6⟩ : Term)), oB b2 T_Term (Term.C (⟨0, ByteArray.empty, ByteArray.empty, 0, SlV.nil⟩ : Term))]
    refine wl_call (does_callg ca_hilbert_node (cons2 rfl (cons2 he7 rfl))) (by decide) (hilbert_node_st SB262 er210) ?_
    rintro _ w261 ⟨s263, rfl, S2⟩
    replace S := back _ _ _ _ _ S2 rfl rfl
    clear back S2 SB262
    refine wl_nil (ob4 trivial trivial ⟨(oDTerm s263 r210.sub :: oDTerm s209 ([r7, r203]) :: oDTerm s14 r11.sub :: oDTerm s10 r7.sub :: oDTerm s6 r3.sub :: Z223), fun z h => ?_, hm2.keep rfl rfl fun z h => ?_, hm3.keep rfl rfl fun z h => ?_, hm4.keep rfl rfl fun z h => ?_, hm6.keep rfl rfl fun z h => ?_, hm7.keep rfl rfl fun z h => ?_, Made.one (val := (fun (c : SlV) => Value.agg (Term.C (⟨r210.kind, r210.name, r210.other, r210.form, c⟩ : Term)).toArray)) (ps := (fun (c : SlV) => [oDTerm c r210.sub])) s263 (zs_cons ?_ zs_nil), hm9.keep rfl rfl fun z h => ?_, hm10.keep rfl rfl fun z h => ?_, by simp only [plus_ne (L := L) (i := 8) (j := 11) rfl, hl11, cond_true]; exact ⟨b222, by rw [upd_other _ _ _ _ (by decide)]; exact he11, S⟩⟩)
    ·have := hZ z h; simp only [List.mem_cons, this, or_true]
    all_goals first | simp only [List.mem_cons, h, or_true] | simp only [List.mem_cons, true_or, or_true]
   | false =>
    simp only [hl11, cond_true, cond_false] at hT
    replace S : St A N w v [oB b20 T_Term (Term.C (⟨r11.kind, r11.name, r11.other, r11.form, s14⟩ : Term)), oB b18 T_Term (Term.C (⟨r7.kind, r7.name, r7.other, r7.form, s10⟩ : Term)), oB b16 T_Term (Term.C (⟨r3.kind, r3.name, r3.other, r3.form, s6⟩ : Term)), oB b2 T_Term (Term.C (⟨0, ByteArray.empty, ByteArray.empty, 0, SlV.nil⟩ : Term))] Z223 := hT
    replace S := S.zneed (zs_app (l1 := [oDTerm s209 ([r7, r203])]) hp7 hZ)
    obtain ⟨B266, MB266, SB266, back⟩ := S.sub [0] [] [oB b20 T_Term (Term.C (⟨r11.kind, r11.name, r11.other, r11.form, s14⟩ : Term)), oB b18 T_Term (Term.C (⟨r7.kind, r7.name, r7.other, r7.form, s10⟩ : Term)), oB b16 T_Term (Term.C (⟨r3.kind, r3.name, r3.other, r3.form, s6⟩ : Term)), oB b2 T_Term (Term.C (⟨0, ByteArray.empty, ByteArray.empty, 0, SlV.nil⟩ : Term))]
    refine wl_call (does_callg ca_hilbert_node (cons2 rfl (cons2 he7 rfl))) (by decide) (hilbert_node_st SB266 er210) ?_
    rintro _ w265 ⟨s267, rfl, S2⟩
    replace S := back _ _ _ _ _ S2 rfl rfl
    clear back S2 SB266
    refine wl_nil (ob4 trivial trivial ⟨(oDTerm s267 r210.sub :: oDTerm s209 ([r7, r203]) :: oDTerm s14 r11.sub :: oDTerm s10 r7.sub :: oDTerm s6 r3.sub :: Z223), fun z h => ?_, hm2.keep rfl rfl fun z h => ?_, hm3.keep rfl rfl fun z h => ?_, hm4.keep rfl rfl fun z h => ?_, hm6.keep rfl rfl fun z h => ?_, hm7.keep rfl rfl fun z h => ?_, Made.one (val := (fun (c : SlV) => Value.agg (Term.C (⟨r210.kind, r210.name, r210.other, r210.form, c⟩ : Term)).toArray)) (ps := (fun (c : SlV) => [oDTerm c r210.sub])) s267 (zs_cons ?_ zs_nil), hm9.keep rfl rfl fun z h => ?_, hm10.keep rfl rfl fun z h => ?_, by simp only [plus_ne (L := L) (i := 8) (j := 11) rfl, hl11, cond_false]; exact S⟩)
    ·have := hZ z h; simp only [List.mem_cons, this, or_true]
    all_goals first | simp only [List.mem_cons, h, or_true] | simp only [List.mem_cons, true_or, or_true]
  ·rintro L g v hL hcl hclo ⟨Z223, hZ, hm2, hm3, hm4, hm6, hm7, hm8, hm9, hm10, hT⟩ hv0 _ _
   obtain ⟨s202, he4, hp4⟩ := hm4 (hcl 4 (by kernel_rfl))
   obtain ⟨s213, he8, hp8⟩ := hm8 (hcl 8 (by kernel_rfl))
   cases hl11 : L 11 with
   | true =>
    simp only [hl11, cond_true, cond_false] at hT
    obtain ⟨b222, he11, S⟩ := hT
    replace S := S.zneed (zs_app (l1 := [oDTerm s202 r199.sub]) hp4 (zs_app (l1 := [oDTerm s213 r210.sub]) hp8 hZ))
    refine wl_lits (C := Term.C) (l := [(⟨r11.kind, r11.name, r11.other, r11.form, s14⟩ : Term), (⟨r199.kind, r199.name, r199.other, r199.form, s202⟩ : Term), (⟨r210.kind, r210.name, r210.other, r210.form, s213⟩ : Term)]) (vs := [.agg (Term.C (⟨r11.kind, r11.name, r11.other, r11.form, s14⟩ : Term)).toArray, .agg (Term.C (⟨r199.kind, r199.name, r199.other, r199.form, s202⟩ : Term)).toArray, .agg (Term.C (⟨r210.kind, r210.name, r210.other, r210.form, s213⟩ : Term)).toArray]) sl_L_api_Term el_Term.zero (consP hv0 (consP he4 (consP he8 rfl))) rfl (fun a _ => Term.len a) (by decide) rfl (by decide) fun b269 w268 s270 hBw268 hw268 => ?_
    replace S := ((S.lit hBw268 hw268 (by simp)).bigTm).consTm (x := r210) 1
    replace S := ((S.consTm (x := r199) 0).consTm (x := r11) 2).frzTm 0 0
    refine wl_nil (ob4 trivial trivial ⟨(oDTerm s270 ([r11, r199, r210]) :: bigA fTerm [(⟨r11.kind, r11.name, r11.other, r11.form, s14⟩ : Term), (⟨r199.kind, r199.name, r199.other, r199.form, s202⟩ : Term), (⟨r210.kind, r210.name, r210.other, r210.form, s213⟩ : Term)] [r11, r199, r210] :: oDTerm s202 r199.sub :: oDTerm s213 r210.sub :: oDTerm s14 r11.sub :: oDTerm s10 r7.sub :: oDTerm s6 r3.sub :: Z223), fun z h => ?_, hm2.keep rfl rfl fun z h => ?_, hm3.keep rfl rfl fun z h => ?_, hm4.keep rfl rfl fun z h => ?_, hm6.keep rfl rfl fun z h => ?_, hm7.keep rfl rfl fun z h => ?_, hm8.keep rfl rfl fun z h => ?_, Made.one (val := (fun (c : SlV) => c.v)) (ps := (fun (c : SlV) => [oDTerm c ([r11, r199, r210])])) s270 (zs_cons ?_ zs_nil), hm10.keep rfl rfl fun z h => ?_, by simp only [plus_ne (L := L) (i := 9) (j := 11) rfl, hl11, cond_true]; exact ⟨b222, by rw [upd_other _ _ _ _ (by decide)]; exact he11, S⟩⟩)
    ·have := hZ z h; simp only [List.mem_cons, this, or_true]
    all_goals first | simp only [List.mem_cons, h, or_true] | simp only [List.mem_cons, true_or, or_true]
   | false =>
    simp only [hl11, cond_true, cond_false] at hT
    replace S : St A N w v [oB b20 T_Term (Term.C (⟨r11.kind, r11.name, r11.other, r11.form, s14⟩ : Term)), oB b18 T_Term (Term.C (⟨r7.kind, r7.name, r7.other, r7.form, s10⟩ : Term)), oB b16 T_Term (Term.C (⟨r3.kind, r3.name, r3.other, r3.form, s6⟩ : Term)), oB b2 T_Term (Term.C (⟨0, ByteArray.empty, ByteArray.empty, 0, SlV.nil⟩ : Term))] Z223 := hT
    replace S := S.zneed (zs_app (l1 := [oDTerm s202 r199.sub]) hp4 (zs_app (l1 := [oDTerm s213 r210.sub]) hp8 hZ))
    refine wl_lits (C := Term.C) (l := [(⟨r11.kind, r11.name, r11.other, r11.form, s14⟩ : Term), (⟨r199.kind, r199.name, r199.other, r199.form, s202⟩ : Term), (⟨r210.kind, r210.name, r210.other, r210.form, s213⟩ : Term)]) (vs := [.agg (Term.C (⟨r11.kind, r11.name, r11.other, r11.form, s14⟩ : Term)).toArray, .agg (Term.C (⟨r199.kind, r199.name, r199.other, r199.form, s202⟩ : Term)).toArray, .agg (Term.C (⟨r210.kind, r210.name, r210.other, r210.form, s213⟩ : Term)).toArray]) sl_L_api_Term el_Term.zero (consP hv0 (consP he4 (consP he8 rfl))) rfl (fun a _ => Term.len a) (by decide) rfl (by decide) fun b272 w271 s273 hBw271 hw271 => ?_
    replace S := ((S.lit hBw271 hw271 (by simp)).bigTm).consTm (x := r210) 1
    replace S := ((S.consTm (x := r199) 0).consTm (x := r11) 2).frzTm 0 0
    refine wl_nil (ob4 trivial trivial ⟨(oDTerm s273 ([r11, r199, r210]) :: bigA fTerm [(⟨r11.kind, r11.name, r11.other, r11.form, s14⟩ : Term), (⟨r199.kind, r199.name, r199.other, r199.form, s202⟩ : Term), (⟨r210.kind, r210.name, r210.other, r210.form, s213⟩ : Term)] [r11, r199, r210] :: oDTerm s202 r199.sub :: oDTerm s213 r210.sub :: oDTerm s14 r11.sub :: oDTerm s10 r7.sub :: oDTerm s6 r3.sub :: Z223), fun z h => ?_, hm2.keep rfl rfl fun z h => ?_, hm3.keep rfl rfl fun z h => ?_, hm4.keep rfl rfl fun z h => ?_, hm6.keep rfl rfl fun z h => ?_, hm7.keep rfl rfl fun z h => ?_, hm8.keep rfl rfl fun z h => ?_, Made.one (val := (fun (c : SlV) => c.v)) (ps := (fun (c : SlV) => [oDTerm c ([r11, r199, r210])])) s273 (zs_cons ?_ zs_nil), hm10.keep rfl rfl fun z h => ?_, by simp only [plus_ne (L := L) (i := 9) (j := 11) rfl, hl11, cond_false]; exact S⟩)
    ·have := hZ z h; simp only [List.mem_cons, this, or_true]
    all_goals first | simp only [List.mem_cons, h, or_true] | simp only [List.mem_cons, true_or, or_true]
  ·rintro L g v hL hcl hclo ⟨Z223, hZ, hm2, hm3, hm4, hm6, hm7, hm8, hm9, hm10, hT⟩ _
   obtain ⟨s216, he9, hp9⟩ := hm9 (hcl 9 (by kernel_rfl))
   cases hl11 : L 11 with
   | true =>
    simp only [hl11, cond_true, cond_false] at hT
    obtain ⟨b222, he11, S⟩ := hT
    replace S := S.zneed (zs_app (l1 := [oDTerm s216 ([r11, r199, r210])]) hp9 hZ)
    obtain ⟨B276, MB276, SB276, back⟩ := S.sub [0] [] [oB b222 T_Term (Term.C (⟨0, ByteArray.empty, ByteArray.empty, 0, SlV.nil⟩ : Term)), oB b20 T_Term (Term.C (⟨r11.kind, r11.name, r11.other, r11.form, s14⟩ : Term)), oB b18 T_Term (Term.C (⟨r7.kind, r7.name, r7.other, r7.form, s10⟩ : Term)), oB b16 T_Term (Term.C (⟨r3.kind, r3.name, r3.other, r3.form, s6⟩ : Term)), oB b2 T_Term (Term.C (⟨0, ByteArray.empty, ByteArray.empty, 0, SlV.nil⟩ : Term))]
    refine wl_call (does_callg ca_hilbert_node (cons2 rfl (cons2 he9 rfl))) (by decide) (hilbert_node_st SB276 er217) ?_
    rintro _ w275 ⟨s277, rfl, S2⟩
    replace S := back _ _ _ _ _ S2 rfl rfl
    clear back S2 SB276
    refine wl_nil (ob4 trivial trivial ⟨(oDTerm s277 r217.sub :: oDTerm s216 ([r11, r199, r210]) :: oDTerm s14 r11.sub :: oDTerm s10 r7.sub :: oDTerm s6 r3.sub :: Z223), fun z h => ?_, hm2.keep rfl rfl fun z h => ?_, hm3.keep rfl rfl fun z h => ?_, hm4.keep rfl rfl fun z h => ?_, hm6.keep rfl rfl fun z h => ?_, hm7.keep rfl rfl fun z h => ?_, hm8.keep rfl rfl fun z h => ?_, hm9.keep rfl rfl fun z h => ?_, Made.one (val := (fun (c : SlV) => Value.agg (Term.C (⟨r217.kind, r217.name, r217.other, r217.form, c⟩ : Term)).toArray)) (ps := (fun (c : SlV) => [oDTerm c r217.sub])) s277 (zs_cons ?_ zs_nil), by simp only [plus_ne (L := L) (i := 10) (j := 11) rfl, hl11, cond_true]; exact ⟨b222, by rw [upd_other _ _ _ _ (by decide)]; exact he11, S⟩⟩)
    ·have := hZ z h; simp only [List.mem_cons, this, or_true]
    all_goals first | simp only [List.mem_cons, h, or_true] | simp only [List.mem_cons, true_or, or_true]
   | false =>
    simp only [hl11, cond_true, cond_false] at hT
    replace S : St A N w v [oB b20 T_Term (Term.C (⟨r11.kind, r11.name, r11.other, r11.form, s14⟩ : Term)), oB b18 T_Term (Term.C (⟨r7.kind, r7.name, r7.other, r7.form, s10⟩ : Term)), oB b16 T_Term (Term.C (⟨r3.kind, r3.name, r3.other, r3.form, s6⟩ : Term)), oB b2 T_Term (Term.C (⟨0, ByteArray.empty, ByteArray.empty, 0, SlV.nil⟩ : Term))] Z223 := hT
    replace S := S.zneed (zs_app (l1 := [oDTerm s216 ([r11, r199, r210])]) hp9 hZ)
    obtain ⟨B280, MB280, SB280, back⟩ := S.sub [0] [] [oB b20 T_Term (Term.C (⟨r11.kind, r11.name, r11.other, r11.form, s14⟩ : Term)), oB b18 T_Term (Term.C (⟨r7.kind, r7.name, r7.other, r7.form, s10⟩ : Term)), oB b16 T_Term (Term.C (⟨r3.kind, r3.name, r3.other, r3.form, s6⟩ : Term)), oB b2 T_Term (Term.C (⟨0, ByteArray.empty, ByteArray.empty, 0, SlV.nil⟩ : Term))]
    refine wl_call (does_callg ca_hilbert_node (cons2 rfl (cons2 he9 rfl))) (by decide) (hilbert_node_st SB280 er217) ?_
    rintro _ w279 ⟨s281, rfl, S2⟩
    replace S := back _ _ _ _ _ S2 rfl rfl
    clear back S2 SB280
    refine wl_nil (ob4 trivial trivial ⟨(oDTerm s281 r217.sub :: oDTerm s216 ([r11, r199, r210]) :: oDTerm s14 r11.sub :: oDTerm s10 r7.sub :: oDTerm s6 r3.sub :: Z223), fun z h => ?_, hm2.keep rfl rfl fun z h => ?_, hm3.keep rfl rfl fun z h => ?_, hm4.keep rfl rfl fun z h => ?_, hm6.keep rfl rfl fun z h => ?_, hm7.keep rfl rfl fun z h => ?_, hm8.keep rfl rfl fun z h => ?_, hm9.keep rfl rfl fun z h => ?_, Made.one (val := (fun (c : SlV) => Value.agg (Term.C (⟨r217.kind, r217.name, r217.other, r217.form, c⟩ : Term)).toArray)) (ps := (fun (c : SlV) => [oDTerm c r217.sub])) s281 (zs_cons ?_ zs_nil), by simp only [plus_ne (L := L) (i := 10) (j := 11) rfl, hl11, cond_false]; exact S⟩)
    ·have := hZ z h; simp only [List.mem_cons, this, or_true]
    all_goals first | simp only [List.mem_cons, h, or_true] | simp only [List.mem_cons, true_or, or_true]
  ·rintro L g v hL hcl hclo ⟨Z223, hZ, hm2, hm3, hm4, hm6, hm7, hm8, hm9, hm10, hT⟩ 
   have hl11 : L 11 = false := hL
   simp only [hl11, cond_true, cond_false] at hT
   replace S : St A N w v [oB b20 T_Term (Term.C (⟨r11.kind, r11.name, r11.other, r11.form, s14⟩ : Term)), oB b18 T_Term (Term.C (⟨r7.kind, r7.name, r7.other, r7.form, s10⟩ : Term)), oB b16 T_Term (Term.C (⟨r3.kind, r3.name, r3.other, r3.form, s6⟩ : Term)), oB b2 T_Term (Term.C (⟨0, ByteArray.empty, ByteArray.empty, 0, SlV.nil⟩ : Term))] Z223 := hT
   replace S := S.zneed hZ
   refine wl_alloc ze_Term (by decide) fun b283 w282 hw282 => ?_
   replace S := S.new hw282
   refine wl_nil (ob4 trivial trivial ⟨(oDTerm s14 r11.sub :: oDTerm s10 r7.sub :: oDTerm s6 r3.sub :: Z223), fun z h => ?_, hm2.keep rfl rfl fun z h => ?_, hm3.keep rfl rfl fun z h => ?_, hm4.keep rfl rfl fun z h => ?_, hm6.keep rfl rfl fun z h => ?_, hm7.keep rfl rfl fun z h => ?_, hm8.keep rfl rfl fun z h => ?_, hm9.keep rfl rfl fun z h => ?_, hm10.keep rfl rfl fun z h => ?_, by simp only [plus_self, cond_true]; exact ⟨b283, upd_same _ _ _, S⟩⟩)
   ·have := hZ z h; simp only [List.mem_cons, this, or_true]
   all_goals first | simp only [List.mem_cons, h, or_true] | simp only [List.mem_cons, true_or, or_true]
  rintro L g w284 hLm ⟨Z223, hZ, hm2, hm3, hm4, hm6, hm7, hm8, hm9, hm10, hT⟩ hv285_0 hv285_1 _ _ _ hv285_5 _ _ _ _ _ _
  have hLt : ∀ j, j < 12 → L j = true := fun j hj => by rw [hLm]; exact decide_eq_true hj
  obtain ⟨s195, hv285_2, hp2⟩ := hm2 (hLt 2 (by decide))
  obtain ⟨s198, hv285_3, hp3⟩ := hm3 (hLt 3 (by decide))
  obtain ⟨s202, hv285_4, hp4⟩ := hm4 (hLt 4 (by decide))
  obtain ⟨s206, hv285_6, hp6⟩ := hm6 (hLt 6 (by decide))
  obtain ⟨s209, hv285_7, hp7⟩ := hm7 (hLt 7 (by decide))
  obtain ⟨s213, hv285_8, hp8⟩ := hm8 (hLt 8 (by decide))
  obtain ⟨s216, hv285_9, hp9⟩ := hm9 (hLt 9 (by decide))
  obtain ⟨s220, hv285_10, hp10⟩ := hm10 (hLt 10 (by decide))
  simp only [hLt 11 (by decide), cond_true] at hT
  obtain ⟨b222, hv285_11, S⟩ := hT
  replace S := S.pickZ (zs_app (l1 := [oDTerm s195 r192.sub]) hp2 (zs_app (l1 := [oDTerm s198 ([r3, r192])]) hp3 (zs_app (l1 := [oDTerm s202 r199.sub]) hp4 (zs_app (l1 := [oDTerm s206 r203.sub]) hp6 (zs_app (l1 := [oDTerm s209 ([r7, r203])]) hp7 (zs_app (l1 := [oDTerm s213 r210.sub]) hp8 (zs_app (l1 := [oDTerm s216 ([r11, r199, r210])]) hp9 (zs_app (l1 := [oDTerm s220 r217.sub]) hp10 hZ))))))))
  clear hp2 hp3 hp4 hp6 hp7 hp8 hp9 hp10 hZ hm2 hm3 hm4 hm6 hm7 hm8 hm9 hm10
  refine wl_store_agg ag_Term hv285_11 hv285_10 (S.blk 0) (Term.len _) (by rw [Term.len]; decide) (Term.one _) (store_all (Term.len _)) fun w286 B hw286 zw286 => ?_
  replace S := S.store 0 B hw286
  clear B
  refine wl_nil (wc_seq (wc_region (wd (does_fieldAddr fl_Term_name hv285_11 (o' := 1) rfl) ?_)))
  refine wl_store on_string rfl rfl (S.blk 0) (by rw [Term.len]; decide) rfl (Term.set_name _ _) fun w287 B hw287 zw287 => ?_
  replace S := S.store 0 B hw287
  clear B
  refine wd (does_fieldAddr fl_Term_other hv285_11 (o' := 2) rfl) ?_
  refine wl_store on_string rfl rfl (S.blk 0) (by rw [Term.len]; decide) rfl (Term.set_other _ _) fun w288 B hw288 zw288 => ?_
  replace S := S.store 0 B hw288
  clear B
  refine wl_nil (wc_seq (wc_region (wd (does_load_agg ag_Term hv285_11 ((S.blk 0).all _ (Term.len _)) (Term.len _)) ?_)))
  refine wl_lits (C := SC) (l := [(⟨#[97]⟩ : ByteArray), (⟨#[98]⟩ : ByteArray), (⟨#[99]⟩ : ByteArray)]) (vs := [.string (⟨#[97]⟩ : ByteArray), .string (⟨#[98]⟩ : ByteArray), .string (⟨#[99]⟩ : ByteArray)]) sl_L_string el_string.zero rfl rfl (fun _ _ => rfl) (by decide) rfl (by decide) fun b290 w289 s291 hBw289 hw289 => ?_
  replace S := S.lit hBw289 hw289 (by simp)
  obtain ⟨r292, er292, H⟩ := bind_ex H
  replace S := S.frzS 0
  obtain ⟨B294, MB294, SB294, back⟩ := S.sub [8, 0] [] [oB b222 T_Term (Term.C (⟨r217.kind, (⟨#[100]⟩ : ByteArray), (⟨#[101]⟩ : ByteArray), r217.form, s220⟩ : Term)), oB b20 T_Term (Term.C (⟨r11.kind, r11.name, r11.other, r11.form, s14⟩ : Term)), oB b18 T_Term (Term.C (⟨r7.kind, r7.name, r7.other, r7.form, s10⟩ : Term)), oB b16 T_Term (Term.C (⟨r3.kind, r3.name, r3.other, r3.form, s6⟩ : Term)), oB b2 T_Term (Term.C (⟨0, ByteArray.empty, ByteArray.empty, 0, SlV.nil⟩ : Term))]
  refine wl_call (does_call ca_hilbert_fun) (by decide) (hilbert_fun_st (a0 := (⟨r217.kind, (⟨#[100]⟩ : ByteArray), (⟨#[101]⟩ : ByteArray), r217.form, r217.sub⟩ : PTerm)) SB294 er292) ?_
  rintro _ w293 ⟨s295, rfl, S2⟩
  replace S := back _ _ _ _ _ S2 rfl rfl
  clear back S2 SB294
  refine wl_store_agg ag_Term rfl rfl (S.blk 4) (Term.len _) (by rw [Term.len]; decide) (Term.one _) (store_all (Term.len _)) fun w296 B hw296 zw296 => ?_
  replace S := S.store 4 B hw296
  clear B
  refine wl_nil (wc_ret ?_)
  refine ⟨_, (rets1 (retOne_agg ag_Term rfl ((S.blk 0).all _ (Term.len _)) (Term.len _))), ?_⟩
  replace S := S.arr [] [0]
  obtain rfl := Option.some.inj H
  exact ⟨s295, rfl, S⟩
 replace H := if_f hc191 H
 refine wc_skip (wc_seq (wc_region (wd (does_load_agg ag_Term rfl ((S.blk 2).all _ (Term.len _)) (Term.len _)) ?_)))
 refine wl_lits (C := Term.C) (l := [(⟨r3.kind, r3.name, r3.other, r3.form, s6⟩ : Term)]) (vs := [.agg (Term.C (⟨r3.kind, r3.name, r3.other, r3.form, s6⟩ : Term)).toArray]) sl_L_api_Term el_Term.zero rfl rfl (fun a _ => Term.len a) (by decide) rfl (by decide) fun b298 w297 s299 hBw297 hw297 => ?_
 replace S := ((S.lit hBw297 hw297 (by simp)).bigTm).consTm (x := r3) 2
 replace S := (S.frzTm 0 0).zs [0, 2, 3, 4]
 obtain ⟨r300, er300, H⟩ := bind_ex H
 obtain ⟨B302, MB302, SB302, back⟩ := S.sub [0] [] [oB b20 T_Term (Term.C (⟨r11.kind, r11.name, r11.other, r11.form, s14⟩ : Term)), oB b18 T_Term (Term.C (⟨r7.kind, r7.name, r7.other, r7.form, s10⟩ : Term)), oB b16 T_Term (Term.C (⟨r3.kind, r3.name, r3.other, r3.form, s6⟩ : Term)), oB b2 T_Term (Term.C (⟨0, ByteArray.empty, ByteArray.empty, 0, SlV.nil⟩ : Term))]
 refine wl_call (does_call ca_hilbert_node) (by decide) (hilbert_node_st SB302 er300) ?_
 rintro _ w301 ⟨s303, rfl, S2⟩
 replace S := back _ _ _ _ _ S2 rfl rfl
 clear back S2 SB302
 refine wl_lits (C := SC) (l := [(⟨#[97]⟩ : ByteArray)]) (vs := [.string (⟨#[97]⟩ : ByteArray)]) sl_L_string el_string.zero rfl rfl (fun _ _ => rfl) (by decide) rfl (by decide) fun b305 w304 s306 hBw304 hw304 => ?_
 replace S := S.lit hBw304 hw304 (by simp)
 obtain ⟨r307, er307, H⟩ := bind_ex H
 replace S := S.frzS 0
 obtain ⟨B309, MB309, SB309, back⟩ := S.sub [1, 0] [] [oB b20 T_Term (Term.C (⟨r11.kind, r11.name, r11.other, r11.form, s14⟩ : Term)), oB b18 T_Term (Term.C (⟨r7.kind, r7.name, r7.other, r7.form, s10⟩ : Term)), oB b16 T_Term (Term.C (⟨r3.kind, r3.name, r3.other, r3.form, s6⟩ : Term)), oB b2 T_Term (Term.C (⟨0, ByteArray.empty, ByteArray.empty, 0, SlV.nil⟩ : Term))]
 refine wl_call (does_call ca_hilbert_fun) (by decide) (hilbert_fun_st (a0 := r300) SB309 er307) ?_
 rintro _ w308 ⟨s310, rfl, S2⟩
 replace S := back _ _ _ _ _ S2 rfl rfl
 clear back S2 SB309
 refine wl_store_agg ag_Term rfl rfl (S.blk 3) (Term.len _) (by rw [Term.len]; decide) (Term.one _) (store_all (Term.len _)) fun w311 B hw311 zw311 => ?_
 replace S := S.store 3 B hw311
 clear B
 refine wl_nil (wc_ret ?_)
 refine ⟨_, (rets1 (retOne_agg ag_Term rfl ((S.blk 0).all _ (Term.len _)) (Term.len _))), ?_⟩
 replace S := S.arr [] [0]
 obtain rfl := Option.some.inj H
 exact ⟨s310, rfl, S⟩
theorem hilbert_Term_st {A : Nat → Prop} {N : Oth} {w : World} {a0 : Tb} {a_0 : Option Addr} {a1 : List Int} {s_1 : SlV} {a2 : List Ln} {s_2 : SlV} (S : St A N w w [oT a_0 a0] [fS 1 IC s_1 a1, fS 4 Ln.C s_2 a2, oPw]) {k : Nat} {r : Tb × PTerm × Int} (H : hilbert_Term.f k a0 a1 a2 = some r) :
  Calls PP F_hilbert_Term #[.pointer a_0, s_1.v, s_2.v] w fun e w' => ∃ v, e = .returned v ∧ (∃ so0 : SlV, v = .tuple #[.agg (Term.C (⟨r.2.1.kind, r.2.1.name, r.2.1.other, r.2.1.form, so0⟩ : Term)).toArray, .int .i64 r.2.2] ∧ St A N w w' [oT a_0 r.1] [oDTerm so0 r.2.1.sub]) := by
 unfold hilbert_Term.f at H
 refine calls_of_wc (n := 84) fn_hilbert_Term rfl rfl (by simp) (wc_seq (wc_region ?_))
 refine wl_alloc ze_Term (by decide) fun b2 w1 hw1 => ?_
 replace S := S.new hw1
 refine wd (does_as_i rfl) (wl_nil (wc_seq (wc_seq (wc_region (wd (does_mv_p rfl) (wd (does_mv_l rfl) (wd (does_mv_l rfl) ?_)))))))
 obtain ⟨r3, er3, H⟩ := bind_ex H
 replace S := S.front 1
 obtain ⟨B5, MB5, SB5, back⟩ := S.calln 1 ((.z 0 rfl (.z 1 rfl .nil)))
 refine wl_call (does_call ca_hilbert_Check) (by decide) (hilbert_Check_st SB5 er3) ?_
 rintro _ w4 ⟨rfl, S2⟩
 replace S := back _ _ _ _ S2 rfl
 clear back S2 SB5
 refine wd (does_as_i rfl) (wl_nil (wc_seq (wc_region (wd (does_mv_i rfl) (wd (does_ne rfl rfl) (wl_nil ?_))))))
 refine wc_if rfl (fun hc6 => ?_) (fun hc6 => ?_)
 ·replace H := if_t hc6 H
  refine wc_seq (wc_region (wd (Does.to (v' := .agg (Term.C (⟨0, ByteArray.empty, ByteArray.empty, 0, SlV.nil⟩ : Term)).toArray) (does_buildv (vs := []) bu_Term rfl Bld.nil) rfl) (wd (does_mv_i rfl) ?_)))
  refine wl_store_agg ag_Term rfl rfl (S.blk 1) (Term.len _) (by rw [Term.len]; decide) (Term.one _) (store_all (Term.len _)) fun w7 B hw7 zw7 => ?_
  replace S := S.store 1 B hw7
  clear B
  refine wd (does_as_i rfl) (wl_nil (wc_ret ?_))
  replace S := S.nilTm
  refine ⟨_, (rets2 (retOne_agg ag_Term rfl ((S.blk 0).all _ (Term.len _)) (Term.len _)) (retOne_tmp rfl)), ?_⟩
  replace S : St A N w w7 [oT a_0 r3.1] [oDTerm SlV.nil ([])] := S.arr [1] [0]
  obtain rfl := Option.some.inj H
  exact ⟨SlV.nil, rfl, S⟩
 replace H := if_f hc6 H
 refine wc_skip (wc_seq (wc_seq (wc_region (wd (does_mv_l rfl) (wd (does_lenR sl_L_api_Line rfl (S.rd 1)) (wd (does_gt rfl rfl) (wl_nil ?_)))))))
 refine wc_if rfl (fun hc8 => ?_) (fun hc8 => ?_)
 ·replace H := if_t hc8 H
  refine wc_seq (wc_region (wd (Does.to (v' := .agg (Term.C (⟨0, ByteArray.empty, ByteArray.empty, 0, SlV.nil⟩ : Term)).toArray) (does_buildv (vs := []) bu_Term rfl Bld.nil) rfl) ?_))
  refine wl_store_agg ag_Term rfl rfl (S.blk 1) (Term.len _) (by rw [Term.len]; decide) (Term.one _) (store_all (Term.len _)) fun w9 B hw9 zw9 => ?_
  replace S : St A N w w9 [oB b2 T_Term (Term.C (⟨0, ByteArray.empty, ByteArray.empty, 0, SlV.nil⟩ : Term)), oT a_0 r3.1] [fS 1 IC s_1 a1, fS 4 Ln.C s_2 a2, oPw] := S.store 1 B hw9
  clear B
  refine wd (does_as_i rfl) (wl_nil (wc_ret ?_))
  replace S : St A N w w9 [oB b2 T_Term (Term.C (⟨0, ByteArray.empty, ByteArray.empty, 0, SlV.nil⟩ : Term)), oT a_0 r3.1] [oDTerm SlV.nil ([]), fS 1 IC s_1 a1, fS 4 Ln.C s_2 a2, oPw] := S.nilTm
  refine ⟨_, (rets2 (retOne_agg ag_Term rfl ((S.blk 0).all _ (Term.len _)) (Term.len _)) (retOne_tmp rfl)), ?_⟩
  replace S : St A N w w9 [oT a_0 r3.1] [oDTerm SlV.nil ([])] := S.arr [1] [0]
  obtain rfl := Option.some.inj H
  exact ⟨SlV.nil, rfl, S⟩
 replace H := if_f hc8 H
 refine wc_skip (wc_seq (wc_region ?_))
 refine wl_alloc ze_func_int_string (by decide) fun b11 w10 hw10 => ?_
 replace S : St A N w w10 [oB b11 T_func_int_string [.nilFunc], oT a_0 r3.1, oB b2 T_Term (Term.C (⟨0, ByteArray.empty, ByteArray.empty, 0, SlV.nil⟩ : Term))] [fS 1 IC s_1 a1, fS 4 Ln.C s_2 a2, oPw] := S.new hw10
 refine wl_store on_func_int_string rfl rfl (S.blk 0) (by simp) rfl rfl fun w12 B hw12 zw12 => ?_
 replace S : St A N w w12 [oB b11 T_func_int_string [.func (.func F_hilbert_Term_1) #[] #[]], oT a_0 r3.1, oB b2 T_Term (Term.C (⟨0, ByteArray.empty, ByteArray.empty, 0, SlV.nil⟩ : Term))] [fS 1 IC s_1 a1, fS 4 Ln.C s_2 a2, oPw] := S.store 0 B hw12
 clear B
 refine wl_nil (wc_seq (wc_region (wd (does_load on_func_int_string rfl ((S.blk 0).cell rfl)) (wd (does_mv_l rfl) (wd (does_lenR sl_L_api_Line rfl (S.rd 1)) (wd (does_sub rfl rfl) ?_))))))
 obtain ⟨r13, er13, H⟩ := bind_ex H
 obtain ⟨B15, MB15, SB15, back⟩ := S.calln 0 ((.z 2 rfl .nil))
 refine wl_call (does_callv ca_hilbert_Term_1 rfl) (by decide) (hilbert_Term_1_st SB15 er13) ?_
 rintro _ w14 ⟨rfl, S2⟩
 replace S : St A N w w14 [oB b11 T_func_int_string [.func (.func F_hilbert_Term_1) #[] #[]], oT a_0 r3.1, oB b2 T_Term (Term.C (⟨0, ByteArray.empty, ByteArray.empty, 0, SlV.nil⟩ : Term))] [fS 1 IC s_1 a1, fS 4 Ln.C s_2 a2, oPw] := back _ _ _ _ S2 rfl
 clear back S2 SB15
 obtain ⟨r16, er16, H⟩ := bind_ex H
 obtain ⟨B18, MB18, SB18, back⟩ := S.sub [] [] [oB b11 T_func_int_string [.func (.func F_hilbert_Term_1) #[] #[]], oT a_0 r3.1, oB b2 T_Term (Term.C (⟨0, ByteArray.empty, ByteArray.empty, 0, SlV.nil⟩ : Term))]
 refine wl_call (does_call ca_hilbert_v) (by decide) (hilbert_v_st SB18 er16) ?_
 rintro _ w17 ⟨s19, rfl, S2⟩
 replace S : St A N w w17 [oB b11 T_func_int_string [.func (.func F_hilbert_Term_1) #[] #[]], oT a_0 r3.1, oB b2 T_Term (Term.C (⟨0, ByteArray.empty, ByteArray.empty, 0, SlV.nil⟩ : Term))] [oDTerm s19 r16.sub, fS 1 IC s_1 a1, fS 4 Ln.C s_2 a2, oPw] := back _ _ _ _ _ S2 rfl rfl
 clear back S2 SB18
 refine wl_alloc ze_Term (by decide) fun b21 w20 hw20 => ?_
 replace S : St A N w w20 [oB b21 T_Term (Term.C (⟨0, ByteArray.empty, ByteArray.empty, 0, SlV.nil⟩ : Term)), oB b11 T_func_int_string [.func (.func F_hilbert_Term_1) #[] #[]], oT a_0 r3.1, oB b2 T_Term (Term.C (⟨0, ByteArray.empty, ByteArray.empty, 0, SlV.nil⟩ : Term))] [oDTerm s19 r16.sub, fS 1 IC s_1 a1, fS 4 Ln.C s_2 a2, oPw] := S.new hw20
 refine wl_store_agg ag_Term rfl rfl (S.blk 0) (Term.len _) (by rw [Term.len]; decide) (Term.one _) (store_all (Term.len _)) fun w22 B hw22 zw22 => ?_
 replace S : St A N w w22 [oB b21 T_Term (Term.C (⟨r16.kind, r16.name, r16.other, r16.form, s19⟩ : Term)), oB b11 T_func_int_string [.func (.func F_hilbert_Term_1) #[] #[]], oT a_0 r3.1, oB b2 T_Term (Term.C (⟨0, ByteArray.empty, ByteArray.empty, 0, SlV.nil⟩ : Term))] [oDTerm s19 r16.sub, fS 1 IC s_1 a1, fS 4 Ln.C s_2 a2, oPw] := S.store 0 B hw22
 clear B
 refine wl_nil (wc_seq (wc_seq (wc_region (wd (does_mv_l rfl) ?_))))
 refine wl_call (does_call ca_slices_Backward_api_Line_api_Line) (by decide) (slices_Backward_api_Line_api_Line_ok _ s_2) ?_
 rintro _ w23 ⟨c24, rfl, Bc24, hc24, Ec24⟩
 replace S : St A N w w23 [oB b21 T_Term (Term.C (⟨r16.kind, r16.name, r16.other, r16.form, s19⟩ : Term)), oB b11 T_func_int_string [.func (.func F_hilbert_Term_1) #[] #[]], oT a_0 r3.1, oB b2 T_Term (Term.C (⟨0, ByteArray.empty, ByteArray.empty, 0, SlV.nil⟩ : Term))] [oB c24 T_L_api_Line [s_2.v], oDTerm s19 r16.sub, fS 1 IC s_1 a1, fS 4 Ln.C s_2 a2, oPw] := S.addZ (b := oB c24 T_L_api_Line [s_2.v]) (G := (· = c24)) Ec24 ⟨Bc24, fun _ => Iff.rfl⟩ (fun i hi => by rw [hi]; exact hc24)
 refine wl_nil ?_
 refine wc_block ?_
 replace S : St A N w w23 [oB b21 T_Term (Term.C (⟨r16.kind, r16.name, r16.other, r16.form, s19⟩ : Term)), oB b11 T_func_int_string [.func (.func F_hilbert_Term_1) #[] #[]], oT a_0 r3.1, oB b2 T_Term (Term.C (⟨0, ByteArray.empty, ByteArray.empty, 0, SlV.nil⟩ : Term))] [oDTerm SlV.nil ([]), oB c24 T_L_api_Line [s_2.v], oDTerm s19 r16.sub, fS 1 IC s_1 a1, fS 4 Ln.C s_2 a2, oPw] := S.nilTm
 obtain ⟨o25, e25, Ho25⟩ := bind_ex H
 clear H
 refine wc_rangeSt2 (xs := bwd a2) (enc := fun (x : Int × Ln) => Value.int .i64 x.1) (enc2 := fun (x : Int × Ln) => Value.agg (Ln.C x.2).toArray) (bd := (fun (x : Int × Ln) (s : PTerm) => hilbert_Term.b0 x.1 x.2 s)) (L := (fun (s : PTerm) (c : SlV) => [oB b21 T_Term (Term.C (⟨s.kind, s.name, s.other, s.form, c⟩ : Term)), oB b11 T_func_int_string [.func (.func F_hilbert_Term_1) #[] #[]], oT a_0 r3.1, oB b2 T_Term (Term.C (⟨0, ByteArray.empty, ByteArray.empty, 0, SlV.nil⟩ : Term))])) (Lr := (fun (_ : Empty) (_ : Unit) => [])) (Zf := (fun (s : PTerm) (c : SlV) => [oDTerm SlV.nil ([]), oB c24 T_L_api_Line [s_2.v], oDTerm c s.sub, fS 1 IC s_1 a1, fS 4 Ln.C s_2 a2, oPw])) (Zr := (fun (_ : Empty) (_ : Unit) => [])) s19 false 0 rfl ca_slices_Backward_api_Line_api_Line_1 (slices_Backward_api_Line_api_Line_1_gives (S.len 4) c24) (by decide) (by decide) (fun N' s c W h => ⟨h.blkZ 1, h.rd 4⟩) S e25 ?_ ?_ ?_ ?_
 ·rintro ⟨i25, y25⟩ x25_0 s26 q25 N25 rd u25 H S
  replace S : St A N25 w u25 [oB b21 T_Term (Term.C (⟨x25_0.kind, x25_0.name, x25_0.other, x25_0.form, s26⟩ : Term)), oB b11 T_func_int_string [.func (.func F_hilbert_Term_1) #[] #[]], oT a_0 r3.1, oB b2 T_Term (Term.C (⟨0, ByteArray.empty, ByteArray.empty, 0, SlV.nil⟩ : Term))] [oDTerm SlV.nil ([]), oB c24 T_L_api_Line [s_2.v], oDTerm s26 x25_0.sub, fS 1 IC s_1 a1, fS 4 Ln.C s_2 a2, oPw] := S
  refine wc_seq (wc_region (wd (does_as_i rfl) (wl_nil (wc_region ?_))))
  refine wl_alloc ze_Ln (by decide) fun b28 w27 hw27 => ?_
  replace S : St A N25 w w27 [oB b28 T_Ln (Ln.C Ln.z), oB b21 T_Term (Term.C (⟨x25_0.kind, x25_0.name, x25_0.other, x25_0.form, s26⟩ : Term)), oB b11 T_func_int_string [.func (.func F_hilbert_Term_1) #[] #[]], oT a_0 r3.1, oB b2 T_Term (Term.C (⟨0, ByteArray.empty, ByteArray.empty, 0, SlV.nil⟩ : Term))] [oDTerm SlV.nil ([]), oB c24 T_L_api_Line [s_2.v], oDTerm s26 x25_0.sub, fS 1 IC s_1 a1, fS 4 Ln.C s_2 a2, oPw] := S.new hw27
  refine wl_store_agg ag_Ln rfl rfl (S.blk 0) (Ln.len _) (by rw [Ln.len]; decide) (Ln.one _) (store_all (Ln.len _)) fun w29 B hw29 zw29 => ?_
  replace S : St A N25 w w29 [oB b28 T_Ln (Ln.C y25), oB b21 T_Term (Term.C (⟨x25_0.kind, x25_0.name, x25_0.other, x25_0.form, s26⟩ : Term)), oB b11 T_func_int_string [.func (.func F_hilbert_Term_1) #[] #[]], oT a_0 r3.1, oB b2 T_Term (Term.C (⟨0, ByteArray.empty, ByteArray.empty, 0, SlV.nil⟩ : Term))] [oDTerm SlV.nil ([]), oB c24 T_L_api_Line [s_2.v], oDTerm s26 x25_0.sub, fS 1 IC s_1 a1, fS 4 Ln.C s_2 a2, oPw] := S.store 0 B hw29
  clear B
  refine wl_nil ?_
  refine ⟨rfl, _, _, S, fun M25 v25 S => ?_⟩
  replace S : St A M25 w v25 [oB b28 T_Ln (Ln.C y25), oB b21 T_Term (Term.C (⟨x25_0.kind, x25_0.name, x25_0.other, x25_0.form, s26⟩ : Term)), oB b11 T_func_int_string [.func (.func F_hilbert_Term_1) #[] #[]], oT a_0 r3.1, oB b2 T_Term (Term.C (⟨0, ByteArray.empty, ByteArray.empty, 0, SlV.nil⟩ : Term))] [oDTerm SlV.nil ([]), oB c24 T_L_api_Line [s_2.v], oDTerm s26 x25_0.sub, fS 1 IC s_1 a1, fS 4 Ln.C s_2 a2, oPw] := S
  replace H : hilbert_Term.b0  i25 y25 x25_0 = some q25 := H
  unfold hilbert_Term.b0 at H
  try dsimp only at H
  refine wc_block (wc_seq (wc_region ?_))
  refine wl_alloc ze_Term (by decide) fun b31 w30 hw30 => ?_
  replace S : St A M25 w w30 [oB b31 T_Term (Term.C (⟨0, ByteArray.empty, ByteArray.empty, 0, SlV.nil⟩ : Term)), oB b28 T_Ln (Ln.C y25), oB b21 T_Term (Term.C (⟨x25_0.kind, x25_0.name, x25_0.other, x25_0.form, s26⟩ : Term)), oB b11 T_func_int_string [.func (.func F_hilbert_Term_1) #[] #[]], oT a_0 r3.1, oB b2 T_Term (Term.C (⟨0, ByteArray.empty, ByteArray.empty, 0, SlV.nil⟩ : Term))] [oDTerm SlV.nil ([]), oB c24 T_L_api_Line [s_2.v], oDTerm s26 x25_0.sub, fS 1 IC s_1 a1, fS 4 Ln.C s_2 a2, oPw] := S.new hw30
  refine wl_nil (wc_seq (wc_seq (wc_region (wd (does_fieldAddr fl_Ln_kind rfl (o' := 0) rfl) (wd (does_load on_api_LineKind rfl ((S.blk 1).cell (Ln.get_kind _))) (wl_nil ?_))))))
  replace S : St A M25 w w30 [oB b31 T_Term (Term.C (⟨0, ByteArray.empty, ByteArray.empty, 0, SlV.nil⟩ : Term)), oB b28 T_Ln (Ln.C y25), oB b21 T_Term (Term.C (⟨x25_0.kind, x25_0.name, x25_0.other, x25_0.form, s26⟩ : Term)), oB b11 T_func_int_string [.func (.func F_hilbert_Term_1) #[] #[]], oT a_0 r3.1, oB b2 T_Term (Term.C (⟨0, ByteArray.empty, ByteArray.empty, 0, SlV.nil⟩ : Term))] [oDTerm SlV.nil ([]), oDTerm SlV.nil ([]), oB c24 T_L_api_Line [s_2.v], oDTerm s26 x25_0.sub, fS 1 IC s_1 a1, fS 4 Ln.C s_2 a2, oPw] := S.nilTm
  obtain ⟨o32, e32, Ho32⟩ := bind_ex H
  replace H := e32; clear e32
  refine wc_cutq [38, 39, 40, 41, 42, 43, 44, 45, 46, 47, 48, 49, 50, 51, 52, 53, 54, 55, 56, 57, 58, 59, 60, 61, 62, 63, 64, 65, 66] (fun fr W => ∃ s33 : SlV, St A M25 w W [oB b31 T_Term (Term.C (⟨o32.kind, o32.name, o32.other, o32.form, s33⟩ : Term)), oB b28 T_Ln (Ln.C y25), oB b21 T_Term (Term.C (⟨x25_0.kind, x25_0.name, x25_0.other, x25_0.form, s26⟩ : Term)), oB b11 T_func_int_string [.func (.func F_hilbert_Term_1) #[] #[]], oT a_0 r3.1, oB b2 T_Term (Term.C (⟨0, ByteArray.empty, ByteArray.empty, 0, SlV.nil⟩ : Term))] [oDTerm s33 o32.sub, oDTerm SlV.nil ([]), oB c24 T_L_api_Line [s_2.v], oDTerm s26 x25_0.sub, fS 1 IC s_1 a1, fS 4 Ln.C s_2 a2, oPw]) ?_ ?_
  ·refine wc_block (wc_seq (wc_region (wd (does_eq rfl rfl) (wd (does_as_b rfl) (wl_nil ?_)))))
   refine wc_if rfl (fun hc34 => ?_) (fun hc34 => ?_)
   ·replace H := if_t hc34 H
    refine wc_region (wd (does_fieldAddr fl_Ln_form rfl (o' := 1) rfl) (wd (does_load on_int rfl ((S.blk 1).cell (Ln.get_form _))) ?_))
    obtain ⟨r35, er35, H⟩ := bind_ex H
    obtain ⟨B37, MB37, SB37, back⟩ := S.calln 0 ((.z 6 rfl .nil))
    refine wl_call (does_call ca_octet_Dec) (by decide) (octet_Dec_st SB37 er35) ?_
    rintro _ w36 ⟨rfl, S2⟩
    replace S : St A M25 w w36 [oB b31 T_Term (Term.C (⟨0, ByteArray.empty, ByteArray.empty, 0, SlV.nil⟩ : Term)), oB b28 T_Ln (Ln.C y25), oB b21 T_Term (Term.C (⟨x25_0.kind, x25_0.name, x25_0.other, x25_0.form, s26⟩ : Term)), oB b11 T_func_int_string [.func (.func F_hilbert_Term_1) #[] #[]], oT a_0 r3.1, oB b2 T_Term (Term.C (⟨0, ByteArray.empty, ByteArray.empty, 0, SlV.nil⟩ : Term))] [oDTerm SlV.nil ([]), oDTerm SlV.nil ([]), oB c24 T_L_api_Line [s_2.v], oDTerm s26 x25_0.sub, fS 1 IC s_1 a1, fS 4 Ln.C s_2 a2, oPw] := back _ _ _ _ S2 rfl
    clear back S2 SB37
    obtain ⟨hs38, H⟩ := chk_ex H
    refine wd (does_concat rfl rfl (of_decide_eq_true hs38)) ?_
    obtain ⟨r39, er39, H⟩ := bind_ex H
    obtain ⟨B41, MB41, SB41, back⟩ := S.sub [] [] [oB b31 T_Term (Term.C (⟨0, ByteArray.empty, ByteArray.empty, 0, SlV.nil⟩ : Term)), oB b28 T_Ln (Ln.C y25), oB b21 T_Term (Term.C (⟨x25_0.kind, x25_0.name, x25_0.other, x25_0.form, s26⟩ : Term)), oB b11 T_func_int_string [.func (.func F_hilbert_Term_1) #[] #[]], oT a_0 r3.1, oB b2 T_Term (Term.C (⟨0, ByteArray.empty, ByteArray.empty, 0, SlV.nil⟩ : Term))]
    refine wl_call (does_call ca_hilbert_v) (by decide) (hilbert_v_st SB41 er39) ?_
    rintro _ w40 ⟨s42, rfl, S2⟩
    replace S : St A M25 w w40 [oB b31 T_Term (Term.C (⟨0, ByteArray.empty, ByteArray.empty, 0, SlV.nil⟩ : Term)), oB b28 T_Ln (Ln.C y25), oB b21 T_Term (Term.C (⟨x25_0.kind, x25_0.name, x25_0.other, x25_0.form, s26⟩ : Term)), oB b11 T_func_int_string [.func (.func F_hilbert_Term_1) #[] #[]], oT a_0 r3.1, oB b2 T_Term (Term.C (⟨0, ByteArray.empty, ByteArray.empty, 0, SlV.nil⟩ : Term))] [oDTerm s42 r39.sub, oDTerm SlV.nil ([]), oDTerm SlV.nil ([]), oB c24 T_L_api_Line [s_2.v], oDTerm s26 x25_0.sub, fS 1 IC s_1 a1, fS 4 Ln.C s_2 a2, oPw] := back _ _ _ _ _ S2 rfl rfl
    clear back S2 SB41
    refine wl_store_agg ag_Term rfl rfl (S.blk 0) (Term.len _) (by rw [Term.len]; decide) (Term.one _) (store_all (Term.len _)) fun w43 B hw43 zw43 => ?_
    replace S : St A M25 w w43 [oB b31 T_Term (Term.C (⟨r39.kind, r39.name, r39.other, r39.form, s42⟩ : Term)), oB b28 T_Ln (Ln.C y25), oB b21 T_Term (Term.C (⟨x25_0.kind, x25_0.name, x25_0.other, x25_0.form, s26⟩ : Term)), oB b11 T_func_int_string [.func (.func F_hilbert_Term_1) #[] #[]], oT a_0 r3.1, oB b2 T_Term (Term.C (⟨0, ByteArray.empty, ByteArray.empty, 0, SlV.nil⟩ : Term))] [oDTerm s42 r39.sub, oDTerm SlV.nil ([]), oDTerm SlV.nil ([]), oB c24 T_L_api_Line [s_2.v], oDTerm s26 x25_0.sub, fS 1 IC s_1 a1, fS 4 Ln.C s_2 a2, oPw] := S.store 0 B hw43
    clear B
    refine wl_nil ?_
    replace S : St A M25 w w43 [oB b31 T_Term (Term.C (⟨r39.kind, r39.name, r39.other, r39.form, s42⟩ : Term)), oB b28 T_Ln (Ln.C y25), oB b21 T_Term (Term.C (⟨x25_0.kind, x25_0.name, x25_0.other, x25_0.form, s26⟩ : Term)), oB b11 T_func_int_string [.func (.func F_hilbert_Term_1) #[] #[]], oT a_0 r3.1, oB b2 T_Term (Term.C (⟨0, ByteArray.empty, ByteArray.empty, 0, SlV.nil⟩ : Term))] [oDTerm s42 r39.sub, oDTerm SlV.nil ([]), oB c24 T_L_api_Line [s_2.v], oDTerm s26 x25_0.sub, fS 1 IC s_1 a1, fS 4 Ln.C s_2 a2, oPw] := S.arr [0, 1, 2, 3, 4, 5] [0, 2, 3, 4, 5, 6, 7]
    obtain rfl := Option.some.inj H
    exact ⟨rfl, ((((((((Dif.refl _ _).upd rfl _).upd rfl _).upd rfl _).upd rfl _).upd rfl _).upd rfl _).upd rfl _), s42, S⟩
   ·replace H := if_f hc34 H
    refine wc_seq (wc_region (wd (does_eq rfl rfl) (wd (does_as_b rfl) (wl_nil ?_))))
    refine wc_if rfl (fun hc44 => ?_) (fun hc44 => ?_)
    ·replace H := if_t hc44 H
     obtain ⟨r47, er47, H⟩ := bind_ex H
     obtain ⟨r50, er50, H⟩ := bind_ex H
     refine wc_draw5 8 ⟨fun _ _ => True, fun _ _ _ => True, fun i v _ => match i with
      | 0 => v = Value.func (.func F_hilbert_Term_1) #[] #[]
      | 1 => v = Value.pointer (some ⟨b28, 2, none⟩)
      | 2 => v = Value.int .i64 y25.a
      | 3 => v = Value.string r47
      | 5 => v = Value.func (.func F_hilbert_Term_1) #[] #[]
      | 6 => v = Value.pointer (some ⟨b28, 3, none⟩)
      | 7 => v = Value.int .i64 y25.b
      | _ => True⟩ (fun L g v => ∃ Z54 : List OA, (∀ z ∈ [oDTerm SlV.nil ([]), oDTerm SlV.nil ([]), oB c24 T_L_api_Line [s_2.v], oDTerm s26 x25_0.sub, fS 1 IC s_1 a1, fS 4 Ln.C s_2 a2, oPw], z ∈ Z54) ∧ Made L g Z54 4 59 (fun (c : SlV) => Value.agg (Term.C (⟨r50.kind, r50.name, r50.other, r50.form, c⟩ : Term)).toArray) (fun (c : SlV) => [oDTerm c r50.sub]) ∧ (St A M25 w v [oB b31 T_Term (Term.C (⟨0, ByteArray.empty, ByteArray.empty, 0, SlV.nil⟩ : Term)), oB b28 T_Ln (Ln.C y25), oB b21 T_Term (Term.C (⟨x25_0.kind, x25_0.name, x25_0.other, x25_0.form, s26⟩ : Term)), oB b11 T_func_int_string [.func (.func F_hilbert_Term_1) #[] #[]], oT a_0 r3.1, oB b2 T_Term (Term.C (⟨0, ByteArray.empty, ByteArray.empty, 0, SlV.nil⟩ : Term))] Z54)) hmix (by kernel_rfl) (fun _ _ _ _ _ _ _ hv => hv) (fun g => ⟨_, fun _ h => h, Made.no, S.ext (Ext.drawn _)⟩) ⟨?_, ?_, ?_, ?_, ?_, ?_, ?_, ?_, trivial⟩ ?_
     ·rintro L g v hL hcl hclo ⟨Z54, hZ, hm4, hT⟩ 
      replace S : St A M25 w v [oB b31 T_Term (Term.C (⟨0, ByteArray.empty, ByteArray.empty, 0, SlV.nil⟩ : Term)), oB b28 T_Ln (Ln.C y25), oB b21 T_Term (Term.C (⟨x25_0.kind, x25_0.name, x25_0.other, x25_0.form, s26⟩ : Term)), oB b11 T_func_int_string [.func (.func F_hilbert_Term_1) #[] #[]], oT a_0 r3.1, oB b2 T_Term (Term.C (⟨0, ByteArray.empty, ByteArray.empty, 0, SlV.nil⟩ : Term))] Z54 := hT
      replace S : St A M25 w v [oB b31 T_Term (Term.C (⟨0, ByteArray.empty, ByteArray.empty, 0, SlV.nil⟩ : Term)), oB b28 T_Ln (Ln.C y25), oB b21 T_Term (Term.C (⟨x25_0.kind, x25_0.name, x25_0.other, x25_0.form, s26⟩ : Term)), oB b11 T_func_int_string [.func (.func F_hilbert_Term_1) #[] #[]], oT a_0 r3.1, oB b2 T_Term (Term.C (⟨0, ByteArray.empty, ByteArray.empty, 0, SlV.nil⟩ : Term))] (oDTerm SlV.nil ([]) :: oDTerm SlV.nil ([]) :: oB c24 T_L_api_Line [s_2.v] :: oDTerm s26 x25_0.sub :: fS 1 IC s_1 a1 :: fS 4 Ln.C s_2 a2 :: oPw :: Z54) := S.zneed hZ
      refine wd (does_load on_func_int_string rfl ((S.blk 3).cell rfl)) (wl_nil (ob4 trivial rfl ⟨_, fun z h => ?_, hm4.keep rfl rfl fun z h => ?_, S⟩))
      ·have := hZ z h; simp only [List.mem_cons, this, or_true]
      all_goals first | simp only [List.mem_cons, h, or_true] | simp only [List.mem_cons, true_or, or_true]
     ·rintro L g v hL hcl hclo ⟨Z54, hZ, hm4, hT⟩ 
      replace S : St A M25 w v [oB b31 T_Term (Term.C (⟨0, ByteArray.empty, ByteArray.empty, 0, SlV.nil⟩ : Term)), oB b28 T_Ln (Ln.C y25), oB b21 T_Term (Term.C (⟨x25_0.kind, x25_0.name, x25_0.other, x25_0.form, s26⟩ : Term)), oB b11 T_func_int_string [.func (.func F_hilbert_Term_1) #[] #[]], oT a_0 r3.1, oB b2 T_Term (Term.C (⟨0, ByteArray.empty, ByteArray.empty, 0, SlV.nil⟩ : Term))] Z54 := hT
      replace S : St A M25 w v [oB b31 T_Term (Term.C (⟨0, ByteArray.empty, ByteArray.empty, 0, SlV.nil⟩ : Term)), oB b28 T_Ln (Ln.C y25), oB b21 T_Term (Term.C (⟨x25_0.kind, x25_0.name, x25_0.other, x25_0.form, s26⟩ : Term)), oB b11 T_func_int_string [.func (.func F_hilbert_Term_1) #[] #[]], oT a_0 r3.1, oB b2 T_Term (Term.C (⟨0, ByteArray.empty, ByteArray.empty, 0, SlV.nil⟩ : Term))] (oDTerm SlV.nil ([]) :: oDTerm SlV.nil ([]) :: oB c24 T_L_api_Line [s_2.v] :: oDTerm s26 x25_0.sub :: fS 1 IC s_1 a1 :: fS 4 Ln.C s_2 a2 :: oPw :: Z54) := S.zneed hZ
      refine wd (does_fieldAddr fl_Ln_a rfl (o' := 2) rfl) (wl_nil (ob4 trivial rfl ⟨_, fun z h => ?_, hm4.keep rfl rfl fun z h => ?_, S⟩))
      ·have := hZ z h; simp only [List.mem_cons, this, or_true]
      all_goals first | simp only [List.mem_cons, h, or_true] | simp only [List.mem_cons, true_or, or_true]
     ·rintro L g v hL hcl hclo ⟨Z54, hZ, hm4, hT⟩ hv1
      replace S : St A M25 w v [oB b31 T_Term (Term.C (⟨0, ByteArray.empty, ByteArray.empty, 0, SlV.nil⟩ : Term)), oB b28 T_Ln (Ln.C y25), oB b21 T_Term (Term.C (⟨x25_0.kind, x25_0.name, x25_0.other, x25_0.form, s26⟩ : Term)), oB b11 T_func_int_string [.func (.func F_hilbert_Term_1) #[] #[]], oT a_0 r3.1, oB b2 T_Term (Term.C (⟨0, ByteArray.empty, ByteArray.empty, 0, SlV.nil⟩ : Term))] Z54 := hT
      replace S : St A M25 w v [oB b31 T_Term (Term.C (⟨0, ByteArray.empty, ByteArray.empty, 0, SlV.nil⟩ : Term)), oB b28 T_Ln (Ln.C y25), oB b21 T_Term (Term.C (⟨x25_0.kind, x25_0.name, x25_0.other, x25_0.form, s26⟩ : Term)), oB b11 T_func_int_string [.func (.func F_hilbert_Term_1) #[] #[]], oT a_0 r3.1, oB b2 T_Term (Term.C (⟨0, ByteArray.empty, ByteArray.empty, 0, SlV.nil⟩ : Term))] (oDTerm SlV.nil ([]) :: oDTerm SlV.nil ([]) :: oB c24 T_L_api_Line [s_2.v] :: oDTerm s26 x25_0.sub :: fS 1 IC s_1 a1 :: fS 4 Ln.C s_2 a2 :: oPw :: Z54) := S.zneed hZ
      refine wd (does_load on_int hv1 ((S.blk 1).cell (Ln.get_a _))) (wl_nil (ob4 trivial rfl ⟨_, fun z h => ?_, hm4.keep rfl rfl fun z h => ?_, S⟩))
      ·have := hZ z h; simp only [List.mem_cons, this, or_true]
      all_goals first | simp only [List.mem_cons, h, or_true] | simp only [List.mem_cons, true_or, or_true]
     ·rintro L g v hL hcl hclo ⟨Z54, hZ, hm4, hT⟩ hv0 hv2
      replace S : St A M25 w v [oB b31 T_Term (Term.C (⟨0, ByteArray.empty, ByteArray.empty, 0, SlV.nil⟩ : Term)), oB b28 T_Ln (Ln.C y25), oB b21 T_Term (Term.C (⟨x25_0.kind, x25_0.name, x25_0.other, x25_0.form, s26⟩ : Term)), oB b11 T_func_int_string [.func (.func F_hilbert_Term_1) #[] #[]], oT a_0 r3.1, oB b2 T_Term (Term.C (⟨0, ByteArray.empty, ByteArray.empty, 0, SlV.nil⟩ : Term))] Z54 := hT
      replace S : St A M25 w v [oB b31 T_Term (Term.C (⟨0, ByteArray.empty, ByteArray.empty, 0, SlV.nil⟩ : Term)), oB b28 T_Ln (Ln.C y25), oB b21 T_Term (Term.C (⟨x25_0.kind, x25_0.name, x25_0.other, x25_0.form, s26⟩ : Term)), oB b11 T_func_int_string [.func (.func F_hilbert_Term_1) #[] #[]], oT a_0 r3.1, oB b2 T_Term (Term.C (⟨0, ByteArray.empty, ByteArray.empty, 0, SlV.nil⟩ : Term))] (oDTerm SlV.nil ([]) :: oDTerm SlV.nil ([]) :: oB c24 T_L_api_Line [s_2.v] :: oDTerm s26 x25_0.sub :: fS 1 IC s_1 a1 :: fS 4 Ln.C s_2 a2 :: oPw :: Z54) := S.zneed hZ
      obtain ⟨B57, MB57, SB57, back⟩ := S.calln 0 ((.z 6 rfl .nil))
      refine wl_call (does_callvg ca_hilbert_Term_1 hv0 (cons2 hv2 rfl)) (by decide) (hilbert_Term_1_st SB57 er47) ?_
      rintro _ w56 ⟨rfl, S2⟩
      replace S : St A M25 w w56 [oB b31 T_Term (Term.C (⟨0, ByteArray.empty, ByteArray.empty, 0, SlV.nil⟩ : Term)), oB b28 T_Ln (Ln.C y25), oB b21 T_Term (Term.C (⟨x25_0.kind, x25_0.name, x25_0.other, x25_0.form, s26⟩ : Term)), oB b11 T_func_int_string [.func (.func F_hilbert_Term_1) #[] #[]], oT a_0 r3.1, oB b2 T_Term (Term.C (⟨0, ByteArray.empty, ByteArray.empty, 0, SlV.nil⟩ : Term))] (oDTerm SlV.nil ([]) :: oDTerm SlV.nil ([]) :: oB c24 T_L_api_Line [s_2.v] :: oDTerm s26 x25_0.sub :: fS 1 IC s_1 a1 :: fS 4 Ln.C s_2 a2 :: oPw :: Z54) := back _ _ _ _ S2 rfl
      clear back S2 SB57
      refine wl_nil (ob4 trivial rfl ⟨_, fun z h => ?_, hm4.keep rfl rfl fun z h => ?_, S⟩)
      ·have := hZ z h; simp only [List.mem_cons, this, or_true]
      all_goals first | simp only [List.mem_cons, h, or_true] | simp only [List.mem_cons, true_or, or_true]
     ·rintro L g v hL hcl hclo ⟨Z54, hZ, hm4, hT⟩ hv3
      replace S : St A M25 w v [oB b31 T_Term (Term.C (⟨0, ByteArray.empty, ByteArray.empty, 0, SlV.nil⟩ : Term)), oB b28 T_Ln (Ln.C y25), oB b21 T_Term (Term.C (⟨x25_0.kind, x25_0.name, x25_0.other, x25_0.form, s26⟩ : Term)), oB b11 T_func_int_string [.func (.func F_hilbert_Term_1) #[] #[]], oT a_0 r3.1, oB b2 T_Term (Term.C (⟨0, ByteArray.empty, ByteArray.empty, 0, SlV.nil⟩ : Term))] Z54 := hT
      replace S : St A M25 w v [oB b31 T_Term (Term.C (⟨0, ByteArray.empty, ByteArray.empty, 0, SlV.nil⟩ : Term)), oB b28 T_Ln (Ln.C y25), oB b21 T_Term (Term.C (⟨x25_0.kind, x25_0.name, x25_0.other, x25_0.form, s26⟩ : Term)), oB b11 T_func_int_string [.func (.func F_hilbert_Term_1) #[] #[]], oT a_0 r3.1, oB b2 T_Term (Term.C (⟨0, ByteArray.empty, ByteArray.empty, 0, SlV.nil⟩ : Term))] (oDTerm SlV.nil ([]) :: oDTerm SlV.nil ([]) :: oB c24 T_L_api_Line [s_2.v] :: oDTerm s26 x25_0.sub :: fS 1 IC s_1 a1 :: fS 4 Ln.C s_2 a2 :: oPw :: Z54) := S.zneed hZ
      obtain ⟨B60, MB60, SB60, back⟩ := S.sub [] [] [oB b31 T_Term (Term.C (⟨0, ByteArray.empty, ByteArray.empty, 0, SlV.nil⟩ : Term)), oB b28 T_Ln (Ln.C y25), oB b21 T_Term (Term.C (⟨x25_0.kind, x25_0.name, x25_0.other, x25_0.form, s26⟩ : Term)), oB b11 T_func_int_string [.func (.func F_hilbert_Term_1) #[] #[]], oT a_0 r3.1, oB b2 T_Term (Term.C (⟨0, ByteArray.empty, ByteArray.empty, 0, SlV.nil⟩ : Term))]
      refine wl_call (does_callg ca_hilbert_v (cons2 hv3 rfl)) (by decide) (hilbert_v_st SB60 er50) ?_
      rintro _ w59 ⟨s61, rfl, S2⟩
      replace S : St A M25 w w59 [oB b31 T_Term (Term.C (⟨0, ByteArray.empty, ByteArray.empty, 0, SlV.nil⟩ : Term)), oB b28 T_Ln (Ln.C y25), oB b21 T_Term (Term.C (⟨x25_0.kind, x25_0.name, x25_0.other, x25_0.form, s26⟩ : Term)), oB b11 T_func_int_string [.func (.func F_hilbert_Term_1) #[] #[]], oT a_0 r3.1, oB b2 T_Term (Term.C (⟨0, ByteArray.empty, ByteArray.empty, 0, SlV.nil⟩ : Term))] (oDTerm s61 r50.sub :: oDTerm SlV.nil ([]) :: oDTerm SlV.nil ([]) :: oB c24 T_L_api_Line [s_2.v] :: oDTerm s26 x25_0.sub :: fS 1 IC s_1 a1 :: fS 4 Ln.C s_2 a2 :: oPw :: Z54) := back _ _ _ _ _ S2 rfl rfl
      clear back S2 SB60
      refine wl_nil (ob4 trivial trivial ⟨_, fun z h => ?_, Made.one (val := (fun (c : SlV) => Value.agg (Term.C (⟨r50.kind, r50.name, r50.other, r50.form, c⟩ : Term)).toArray)) (ps := (fun (c : SlV) => [oDTerm c r50.sub])) s61 (zs_cons ?_ zs_nil), S⟩)
      ·have := hZ z h; simp only [List.mem_cons, this, or_true]
      all_goals first | simp only [List.mem_cons, h, or_true] | simp only [List.mem_cons, true_or, or_true]
     ·rintro L g v hL hcl hclo ⟨Z54, hZ, hm4, hT⟩ 
      replace S : St A M25 w v [oB b31 T_Term (Term.C (⟨0, ByteArray.empty, ByteArray.empty, 0, SlV.nil⟩ : Term)), oB b28 T_Ln (Ln.C y25), oB b21 T_Term (Term.C (⟨x25_0.kind, x25_0.name, x25_0.other, x25_0.form, s26⟩ : Term)), oB b11 T_func_int_string [.func (.func F_hilbert_Term_1) #[] #[]], oT a_0 r3.1, oB b2 T_Term (Term.C (⟨0, ByteArray.empty, ByteArray.empty, 0, SlV.nil⟩ : Term))] Z54 := hT
      replace S : St A M25 w v [oB b31 T_Term (Term.C (⟨0, ByteArray.empty, ByteArray.empty, 0, SlV.nil⟩ : Term)), oB b28 T_Ln (Ln.C y25), oB b21 T_Term (Term.C (⟨x25_0.kind, x25_0.name, x25_0.other, x25_0.form, s26⟩ : Term)), oB b11 T_func_int_string [.func (.func F_hilbert_Term_1) #[] #[]], oT a_0 r3.1, oB b2 T_Term (Term.C (⟨0, ByteArray.empty, ByteArray.empty, 0, SlV.nil⟩ : Term))] (oDTerm SlV.nil ([]) :: oDTerm SlV.nil ([]) :: oB c24 T_L_api_Line [s_2.v] :: oDTerm s26 x25_0.sub :: fS 1 IC s_1 a1 :: fS 4 Ln.C s_2 a2 :: oPw :: Z54) := S.zneed hZ
      refine wd (does_load on_func_int_string rfl ((S.blk 3).cell rfl)) (wl_nil (ob4 trivial rfl ⟨_, fun z h => ?_, hm4.keep rfl rfl fun z h => ?_, S⟩))
      ·have := hZ z h; simp only [List.mem_cons, this, or_true]
      all_goals first | simp only [List.mem_cons, h, or_true] | simp only [List.mem_cons, true_or, or_true]
     ·rintro L g v hL hcl hclo ⟨Z54, hZ, hm4, hT⟩ 
      replace S : St A M25 w v [oB b31 T_Term (Term.C (⟨0, ByteArray.empty, ByteArray.empty, 0, SlV.nil⟩ : Term)), oB b28 T_Ln (Ln.C y25), oB b21 T_Term (Term.C (⟨x25_0.kind, x25_0.name, x25_0.other, x25_0.form, s26⟩ : Term)), oB b11 T_func_int_string [.func (.func F_hilbert_Term_1) #[] #[]], oT a_0 r3.1, oB b2 T_Term (Term.C (⟨0, ByteArray.empty, ByteArray.empty, 0, SlV.nil⟩ : Term))] Z54 := hT
      replace S : St A M25 w v [oB b31 T_Term (Term.C (⟨0, ByteArray.empty, ByteArray.empty, 0, SlV.nil⟩ : Term)), oB b28 T_Ln (Ln.C y25), oB b21 T_Term (Term.C (⟨x25_0.kind, x25_0.name, x25_0.other, x25_0.form, s26⟩ : Term)), oB b11 T_func_int_string [.func (.func F_hilbert_Term_1) #[] #[]], oT a_0 r3.1, oB b2 T_Term (Term.C (⟨0, ByteArray.empty, ByteArray.empty, 0, SlV.nil⟩ : Term))] (oDTerm SlV.nil ([]) :: oDTerm SlV.nil ([]) :: oB c24 T_L_api_Line [s_2.v] :: oDTerm s26 x25_0.sub :: fS 1 IC s_1 a1 :: fS 4 Ln.C s_2 a2 :: oPw :: Z54) := S.zneed hZ
      refine wd (does_fieldAddr fl_Ln_b rfl (o' := 3) rfl) (wl_nil (ob4 trivial rfl ⟨_, fun z h => ?_, hm4.keep rfl rfl fun z h => ?_, S⟩))
      ·have := hZ z h; simp only [List.mem_cons, this, or_true]
      all_goals first | simp only [List.mem_cons, h, or_true] | simp only [List.mem_cons, true_or, or_true]
     ·rintro L g v hL hcl hclo ⟨Z54, hZ, hm4, hT⟩ hv6
      replace S : St A M25 w v [oB b31 T_Term (Term.C (⟨0, ByteArray.empty, ByteArray.empty, 0, SlV.nil⟩ : Term)), oB b28 T_Ln (Ln.C y25), oB b21 T_Term (Term.C (⟨x25_0.kind, x25_0.name, x25_0.other, x25_0.form, s26⟩ : Term)), oB b11 T_func_int_string [.func (.func F_hilbert_Term_1) #[] #[]], oT a_0 r3.1, oB b2 T_Term (Term.C (⟨0, ByteArray.empty, ByteArray.empty, 0, SlV.nil⟩ : Term))] Z54 := hT
      replace S : St A M25 w v [oB b31 T_Term (Term.C (⟨0, ByteArray.empty, ByteArray.empty, 0, SlV.nil⟩ : Term)), oB b28 T_Ln (Ln.C y25), oB b21 T_Term (Term.C (⟨x25_0.kind, x25_0.name, x25_0.other, x25_0.form, s26⟩ : Term)), oB b11 T_func_int_string [.func (.func F_hilbert_Term_1) #[] #[]], oT a_0 r3.1, oB b2 T_Term (Term.C (⟨0, ByteArray.empty, ByteArray.empty, 0, SlV.nil⟩ : Term))] (oDTerm SlV.nil ([]) :: oDTerm SlV.nil ([]) :: oB c24 T_L_api_Line [s_2.v] :: oDTerm s26 x25_0.sub :: fS 1 IC s_1 a1 :: fS 4 Ln.C s_2 a2 :: oPw :: Z54) := S.zneed hZ
      refine wd (does_load on_int hv6 ((S.blk 1).cell (Ln.get_b _))) (wl_nil (ob4 trivial rfl ⟨_, fun z h => ?_, hm4.keep rfl rfl fun z h => ?_, S⟩))
      ·have := hZ z h; simp only [List.mem_cons, this, or_true]
      all_goals first | simp only [List.mem_cons, h, or_true] | simp only [List.mem_cons, true_or, or_true]
     rintro L g w62 hLm ⟨Z54, hZ, hm4, hT⟩ hv63_0 hv63_1 hv63_2 hv63_3 _ hv63_5 hv63_6 hv63_7
     have hLt : ∀ j, j < 8 → L j = true := fun j hj => by rw [hLm]; exact decide_eq_true hj
     obtain ⟨s53, hv63_4, hp4⟩ := hm4 (hLt 4 (by decide))
     have S := hT
     replace S := S.pickZ (zs_app (l1 := [oDTerm s53 r50.sub]) hp4 hZ)
     clear hp4 hZ hm4
     obtain ⟨r64, er64, H⟩ := bind_ex H
     obtain ⟨B66, MB66, SB66, back⟩ := S.calln 0 ((.z 7 rfl .nil))
     refine wl_call (does_callvg ca_hilbert_Term_1 hv63_5 (cons2 hv63_7 rfl)) (by decide) (hilbert_Term_1_st SB66 er64) ?_
     rintro _ w65 ⟨rfl, S2⟩
     replace S := back _ _ _ _ S2 rfl
     clear back S2 SB66
     obtain ⟨r67, er67, H⟩ := bind_ex H
     obtain ⟨B69, MB69, SB69, back⟩ := S.sub [] [] [oB b31 T_Term (Term.C (⟨0, ByteArray.empty, ByteArray.empty, 0, SlV.nil⟩ : Term)), oB b28 T_Ln (Ln.C y25), oB b21 T_Term (Term.C (⟨x25_0.kind, x25_0.name, x25_0.other, x25_0.form, s26⟩ : Term)), oB b11 T_func_int_string [.func (.func F_hilbert_Term_1) #[] #[]], oT a_0 r3.1, oB b2 T_Term (Term.C (⟨0, ByteArray.empty, ByteArray.empty, 0, SlV.nil⟩ : Term))]
     refine wl_call (does_call ca_hilbert_v) (by decide) (hilbert_v_st SB69 er67) ?_
     rintro _ w68 ⟨s70, rfl, S2⟩
     replace S := back _ _ _ _ _ S2 rfl rfl
     clear back S2 SB69
     refine wl_lits (C := Term.C) (l := [(⟨r50.kind, r50.name, r50.other, r50.form, s53⟩ : Term), (⟨r67.kind, r67.name, r67.other, r67.form, s70⟩ : Term)]) (vs := [.agg (Term.C (⟨r50.kind, r50.name, r50.other, r50.form, s53⟩ : Term)).toArray, .agg (Term.C (⟨r67.kind, r67.name, r67.other, r67.form, s70⟩ : Term)).toArray]) sl_L_api_Term el_Term.zero (consP hv63_4 (consP rfl rfl)) rfl (fun a _ => Term.len a) (by decide) rfl (by decide) fun b72 w71 s73 hBw71 hw71 => ?_
     replace S := ((S.lit hBw71 hw71 (by simp)).bigTm).consTm (x := r67) 0
     replace S := (S.consTm (x := r50) 1).frzTm 0 0
     replace S : St A M25 w w71 [oB b31 T_Term (Term.C (⟨0, ByteArray.empty, ByteArray.empty, 0, SlV.nil⟩ : Term)), oB b28 T_Ln (Ln.C y25), oB b21 T_Term (Term.C (⟨x25_0.kind, x25_0.name, x25_0.other, x25_0.form, s26⟩ : Term)), oB b11 T_func_int_string [.func (.func F_hilbert_Term_1) #[] #[]], oT a_0 r3.1, oB b2 T_Term (Term.C (⟨0, ByteArray.empty, ByteArray.empty, 0, SlV.nil⟩ : Term))] [oDTerm s73 ([r50, r67]), oDTerm s70 r67.sub, oDTerm s53 r50.sub, oDTerm SlV.nil ([]), oDTerm SlV.nil ([]), oB c24 T_L_api_Line [s_2.v], oDTerm s26 x25_0.sub, fS 1 IC s_1 a1, fS 4 Ln.C s_2 a2, oPw] := S.zs [0, 2, 3, 4, 5, 6, 7, 8, 9, 10]
     obtain ⟨r74, er74, H⟩ := bind_ex H
     obtain ⟨B76, MB76, SB76, back⟩ := S.sub [0] [] [oB b31 T_Term (Term.C (⟨0, ByteArray.empty, ByteArray.empty, 0, SlV.nil⟩ : Term)), oB b28 T_Ln (Ln.C y25), oB b21 T_Term (Term.C (⟨x25_0.kind, x25_0.name, x25_0.other, x25_0.form, s26⟩ : Term)), oB b11 T_func_int_string [.func (.func F_hilbert_Term_1) #[] #[]], oT a_0 r3.1, oB b2 T_Term (Term.C (⟨0, ByteArray.empty, ByteArray.empty, 0, SlV.nil⟩ : Term))]
     refine wl_call (does_call ca_hilbert_node) (by decide) (hilbert_node_st SB76 er74) ?_
     rintro _ w75 ⟨s77, rfl, S2⟩
     replace S : St A M25 w w75 [oB b31 T_Term (Term.C (⟨0, ByteArray.empty, ByteArray.empty, 0, SlV.nil⟩ : Term)), oB b28 T_Ln (Ln.C y25), oB b21 T_Term (Term.C (⟨x25_0.kind, x25_0.name, x25_0.other, x25_0.form, s26⟩ : Term)), oB b11 T_func_int_string [.func (.func F_hilbert_Term_1) #[] #[]], oT a_0 r3.1, oB b2 T_Term (Term.C (⟨0, ByteArray.empty, ByteArray.empty, 0, SlV.nil⟩ : Term))] [oDTerm s77 r74.sub, oDTerm s73 ([r50, r67]), oDTerm s70 r67.sub, oDTerm s53 r50.sub, oDTerm SlV.nil ([]), oDTerm SlV.nil ([]), oB c24 T_L_api_Line [s_2.v], oDTerm s26 x25_0.sub, fS 1 IC s_1 a1, fS 4 Ln.C s_2 a2, oPw] := back _ _ _ _ _ S2 rfl rfl
     clear back S2 SB76
     refine wl_store_agg ag_Term rfl rfl (S.blk 0) (Term.len _) (by rw [Term.len]; decide) (Term.one _) (store_all (Term.len _)) fun w78 B hw78 zw78 => ?_
     replace S : St A M25 w w78 [oB b31 T_Term (Term.C (⟨r74.kind, r74.name, r74.other, r74.form, s77⟩ : Term)), oB b28 T_Ln (Ln.C y25), oB b21 T_Term (Term.C (⟨x25_0.kind, x25_0.name, x25_0.other, x25_0.form, s26⟩ : Term)), oB b11 T_func_int_string [.func (.func F_hilbert_Term_1) #[] #[]], oT a_0 r3.1, oB b2 T_Term (Term.C (⟨0, ByteArray.empty, ByteArray.empty, 0, SlV.nil⟩ : Term))] [oDTerm s77 r74.sub, oDTerm s73 ([r50, r67]), oDTerm s70 r67.sub, oDTerm s53 r50.sub, oDTerm SlV.nil ([]), oDTerm SlV.nil ([]), oB c24 T_L_api_Line [s_2.v], oDTerm s26 x25_0.sub, fS 1 IC s_1 a1, fS 4 Ln.C s_2 a2, oPw] := S.store 0 B hw78
     clear B
     refine wl_nil ?_
     replace S : St A M25 w w78 [oB b31 T_Term (Term.C (⟨r74.kind, r74.name, r74.other, r74.form, s77⟩ : Term)), oB b28 T_Ln (Ln.C y25), oB b21 T_Term (Term.C (⟨x25_0.kind, x25_0.name, x25_0.other, x25_0.form, s26⟩ : Term)), oB b11 T_func_int_string [.func (.func F_hilbert_Term_1) #[] #[]], oT a_0 r3.1, oB b2 T_Term (Term.C (⟨0, ByteArray.empty, ByteArray.empty, 0, SlV.nil⟩ : Term))] [oDTerm s77 r74.sub, oDTerm SlV.nil ([]), oB c24 T_L_api_Line [s_2.v], oDTerm s26 x25_0.sub, fS 1 IC s_1 a1, fS 4 Ln.C s_2 a2, oPw] := S.arr [0, 1, 2, 3, 4, 5] [0, 5, 6, 7, 8, 9, 10]
     obtain rfl := Option.some.inj H
     exact ⟨rfl, ((((((((((Dif.refl _ _).upd rfl _).upd rfl _).upd rfl _).upd rfl _).mask rfl _).upd rfl _).upd rfl _).upd rfl _).upd rfl _), s77, S⟩
    ·replace H := if_f hc44 H
     refine wc_seq (wc_region (wd (does_fieldAddr fl_Ln_kind rfl (o' := 0) rfl) (wd (does_load on_api_LineKind rfl ((S.blk 1).cell (Ln.get_kind _))) ?_)))
     obtain ⟨r79, er79, H⟩ := bind_ex H
     obtain ⟨B81, MB81, SB81, back⟩ := S.sub [] [] [oB b31 T_Term (Term.C (⟨0, ByteArray.empty, ByteArray.empty, 0, SlV.nil⟩ : Term)), oB b28 T_Ln (Ln.C y25), oB b21 T_Term (Term.C (⟨x25_0.kind, x25_0.name, x25_0.other, x25_0.form, s26⟩ : Term)), oB b11 T_func_int_string [.func (.func F_hilbert_Term_1) #[] #[]], oT a_0 r3.1, oB b2 T_Term (Term.C (⟨0, ByteArray.empty, ByteArray.empty, 0, SlV.nil⟩ : Term))]
     refine wl_call (does_call ca_hilbert_axiom) (by decide) (hilbert_axiom_st SB81 er79) ?_
     rintro _ w80 ⟨s82, rfl, S2⟩
     replace S : St A M25 w w80 [oB b31 T_Term (Term.C (⟨0, ByteArray.empty, ByteArray.empty, 0, SlV.nil⟩ : Term)), oB b28 T_Ln (Ln.C y25), oB b21 T_Term (Term.C (⟨x25_0.kind, x25_0.name, x25_0.other, x25_0.form, s26⟩ : Term)), oB b11 T_func_int_string [.func (.func F_hilbert_Term_1) #[] #[]], oT a_0 r3.1, oB b2 T_Term (Term.C (⟨0, ByteArray.empty, ByteArray.empty, 0, SlV.nil⟩ : Term))] [oDTerm s82 r79.sub, oDTerm SlV.nil ([]), oDTerm SlV.nil ([]), oB c24 T_L_api_Line [s_2.v], oDTerm s26 x25_0.sub, fS 1 IC s_1 a1, fS 4 Ln.C s_2 a2, oPw] := back _ _ _ _ _ S2 rfl rfl
     clear back S2 SB81
     refine wl_lits (C := Term.C) (l := [(⟨r79.kind, r79.name, r79.other, r79.form, s82⟩ : Term)]) (vs := [.agg (Term.C (⟨r79.kind, r79.name, r79.other, r79.form, s82⟩ : Term)).toArray]) sl_L_api_Term el_Term.zero rfl rfl (fun a _ => Term.len a) (by decide) rfl (by decide) fun b84 w83 s85 hBw83 hw83 => ?_
     replace S : St A M25 w w83 [oS T_Term 5 Term.C s85 ([(⟨r79.kind, r79.name, r79.other, r79.form, s82⟩ : Term)]), oB b31 T_Term (Term.C (⟨0, ByteArray.empty, ByteArray.empty, 0, SlV.nil⟩ : Term)), oB b28 T_Ln (Ln.C y25), oB b21 T_Term (Term.C (⟨x25_0.kind, x25_0.name, x25_0.other, x25_0.form, s26⟩ : Term)), oB b11 T_func_int_string [.func (.func F_hilbert_Term_1) #[] #[]], oT a_0 r3.1, oB b2 T_Term (Term.C (⟨0, ByteArray.empty, ByteArray.empty, 0, SlV.nil⟩ : Term))] [oDTerm s82 r79.sub, oDTerm SlV.nil ([]), oDTerm SlV.nil ([]), oB c24 T_L_api_Line [s_2.v], oDTerm s26 x25_0.sub, fS 1 IC s_1 a1, fS 4 Ln.C s_2 a2, oPw] := S.lit hBw83 hw83 (by simp)
     replace S : St A M25 w w83 [oS T_Term 5 Term.C s85 ([(⟨r79.kind, r79.name, r79.other, r79.form, s82⟩ : Term)]), oB b31 T_Term (Term.C (⟨0, ByteArray.empty, ByteArray.empty, 0, SlV.nil⟩ : Term)), oB b28 T_Ln (Ln.C y25), oB b21 T_Term (Term.C (⟨x25_0.kind, x25_0.name, x25_0.other, x25_0.form, s26⟩ : Term)), oB b11 T_func_int_string [.func (.func F_hilbert_Term_1) #[] #[]], oT a_0 r3.1, oB b2 T_Term (Term.C (⟨0, ByteArray.empty, ByteArray.empty, 0, SlV.nil⟩ : Term))] [bigA fTerm ([] : List Term) ([] : List PTerm), oDTerm s82 r79.sub, oDTerm SlV.nil ([]), oDTerm SlV.nil ([]), oB c24 T_L_api_Line [s_2.v], oDTerm s26 x25_0.sub, fS 1 IC s_1 a1, fS 4 Ln.C s_2 a2, oPw] := S.bigTm
     replace S : St A M25 w w83 [oS T_Term 5 Term.C s85 ([(⟨r79.kind, r79.name, r79.other, r79.form, s82⟩ : Term)]), oB b31 T_Term (Term.C (⟨0, ByteArray.empty, ByteArray.empty, 0, SlV.nil⟩ : Term)), oB b28 T_Ln (Ln.C y25), oB b21 T_Term (Term.C (⟨x25_0.kind, x25_0.name, x25_0.other, x25_0.form, s26⟩ : Term)), oB b11 T_func_int_string [.func (.func F_hilbert_Term_1) #[] #[]], oT a_0 r3.1, oB b2 T_Term (Term.C (⟨0, ByteArray.empty, ByteArray.empty, 0, SlV.nil⟩ : Term))] [bigA fTerm [(⟨r79.kind, r79.name, r79.other, r79.form, s82⟩ : Term)] [r79], oDTerm s82 r79.sub, oDTerm SlV.nil ([]), oDTerm SlV.nil ([]), oB c24 T_L_api_Line [s_2.v], oDTerm s26 x25_0.sub, fS 1 IC s_1 a1, fS 4 Ln.C s_2 a2, oPw] := S.consTm (x := r79) 0
     replace S : St A M25 w w83 [oB b31 T_Term (Term.C (⟨0, ByteArray.empty, ByteArray.empty, 0, SlV.nil⟩ : Term)), oB b28 T_Ln (Ln.C y25), oB b21 T_Term (Term.C (⟨x25_0.kind, x25_0.name, x25_0.other, x25_0.form, s26⟩ : Term)), oB b11 T_func_int_string [.func (.func F_hilbert_Term_1) #[] #[]], oT a_0 r3.1, oB b2 T_Term (Term.C (⟨0, ByteArray.empty, ByteArray.empty, 0, SlV.nil⟩ : Term))] [oDTerm s85 ([r79]), bigA fTerm [(⟨r79.kind, r79.name, r79.other, r79.form, s82⟩ : Term)] [r79], oDTerm s82 r79.sub, oDTerm SlV.nil ([]), oDTerm SlV.nil ([]), oB c24 T_L_api_Line [s_2.v], oDTerm s26 x25_0.sub, fS 1 IC s_1 a1, fS 4 Ln.C s_2 a2, oPw] := S.frzTm 0 0
     replace S : St A M25 w w83 [oB b31 T_Term (Term.C (⟨0, ByteArray.empty, ByteArray.empty, 0, SlV.nil⟩ : Term)), oB b28 T_Ln (Ln.C y25), oB b21 T_Term (Term.C (⟨x25_0.kind, x25_0.name, x25_0.other, x25_0.form, s26⟩ : Term)), oB b11 T_func_int_string [.func (.func F_hilbert_Term_1) #[] #[]], oT a_0 r3.1, oB b2 T_Term (Term.C (⟨0, ByteArray.empty, ByteArray.empty, 0, SlV.nil⟩ : Term))] [oDTerm s85 ([r79]), oDTerm s82 r79.sub, oDTerm SlV.nil ([]), oDTerm SlV.nil ([]), oB c24 T_L_api_Line [s_2.v], oDTerm s26 x25_0.sub, fS 1 IC s_1 a1, fS 4 Ln.C s_2 a2, oPw] := S.zs [0, 2, 3, 4, 5, 6, 7, 8, 9]
     obtain ⟨r86, er86, H⟩ := bind_ex H
     obtain ⟨B88, MB88, SB88, back⟩ := S.sub [0] [] [oB b31 T_Term (Term.C (⟨0, ByteArray.empty, ByteArray.empty, 0, SlV.nil⟩ : Term)), oB b28 T_Ln (Ln.C y25), oB b21 T_Term (Term.C (⟨x25_0.kind, x25_0.name, x25_0.other, x25_0.form, s26⟩ : Term)), oB b11 T_func_int_string [.func (.func F_hilbert_Term_1) #[] #[]], oT a_0 r3.1, oB b2 T_Term (Term.C (⟨0, ByteArray.empty, ByteArray.empty, 0, SlV.nil⟩ : Term))]
     refine wl_call (does_call ca_hilbert_node) (by decide) (hilbert_node_st SB88 er86) ?_
     rintro _ w87 ⟨s89, rfl, S2⟩
     replace S : St A M25 w w87 [oB b31 T_Term (Term.C (⟨0, ByteArray.empty, ByteArray.empty, 0, SlV.nil⟩ : Term)), oB b28 T_Ln (Ln.C y25), oB b21 T_Term (Term.C (⟨x25_0.kind, x25_0.name, x25_0.other, x25_0.form, s26⟩ : Term)), oB b11 T_func_int_string [.func (.func F_hilbert_Term_1) #[] #[]], oT a_0 r3.1, oB b2 T_Term (Term.C (⟨0, ByteArray.empty, ByteArray.empty, 0, SlV.nil⟩ : Term))] [oDTerm s89 r86.sub, oDTerm s85 ([r79]), oDTerm s82 r79.sub, oDTerm SlV.nil ([]), oDTerm SlV.nil ([]), oB c24 T_L_api_Line [s_2.v], oDTerm s26 x25_0.sub, fS 1 IC s_1 a1, fS 4 Ln.C s_2 a2, oPw] := back _ _ _ _ _ S2 rfl rfl
     clear back S2 SB88
     refine wl_store_agg ag_Term rfl rfl (S.blk 0) (Term.len _) (by rw [Term.len]; decide) (Term.one _) (store_all (Term.len _)) fun w90 B hw90 zw90 => ?_
     replace S : St A M25 w w90 [oB b31 T_Term (Term.C (⟨r86.kind, r86.name, r86.other, r86.form, s89⟩ : Term)), oB b28 T_Ln (Ln.C y25), oB b21 T_Term (Term.C (⟨x25_0.kind, x25_0.name, x25_0.other, x25_0.form, s26⟩ : Term)), oB b11 T_func_int_string [.func (.func F_hilbert_Term_1) #[] #[]], oT a_0 r3.1, oB b2 T_Term (Term.C (⟨0, ByteArray.empty, ByteArray.empty, 0, SlV.nil⟩ : Term))] [oDTerm s89 r86.sub, oDTerm s85 ([r79]), oDTerm s82 r79.sub, oDTerm SlV.nil ([]), oDTerm SlV.nil ([]), oB c24 T_L_api_Line [s_2.v], oDTerm s26 x25_0.sub, fS 1 IC s_1 a1, fS 4 Ln.C s_2 a2, oPw] := S.store 0 B hw90
     clear B
     refine wl_nil (wc_region (wd (does_fieldAddr fl_Ln_form rfl (o' := 1) rfl) (wd (does_load on_int rfl ((S.blk 1).cell (Ln.get_form _))) (wd (does_fieldAddr fl_Term_form rfl (o' := 3) rfl) ?_))))
     refine wl_store on_int rfl rfl (S.blk 0) (by rw [Term.len]; decide) rfl (Term.set_form _ _) fun w91 B hw91 zw91 => ?_
     replace S : St A M25 w w91 [oB b31 T_Term (Term.C (⟨r86.kind, r86.name, r86.other, y25.form, s89⟩ : Term)), oB b28 T_Ln (Ln.C y25), oB b21 T_Term (Term.C (⟨x25_0.kind, x25_0.name, x25_0.other, x25_0.form, s26⟩ : Term)), oB b11 T_func_int_string [.func (.func F_hilbert_Term_1) #[] #[]], oT a_0 r3.1, oB b2 T_Term (Term.C (⟨0, ByteArray.empty, ByteArray.empty, 0, SlV.nil⟩ : Term))] [oDTerm s89 r86.sub, oDTerm s85 ([r79]), oDTerm s82 r79.sub, oDTerm SlV.nil ([]), oDTerm SlV.nil ([]), oB c24 T_L_api_Line [s_2.v], oDTerm s26 x25_0.sub, fS 1 IC s_1 a1, fS 4 Ln.C s_2 a2, oPw] := S.store 0 B hw91
     clear B
     refine wl_nil ?_
     replace S : St A M25 w w91 [oB b31 T_Term (Term.C (⟨r86.kind, r86.name, r86.other, y25.form, s89⟩ : Term)), oB b28 T_Ln (Ln.C y25), oB b21 T_Term (Term.C (⟨x25_0.kind, x25_0.name, x25_0.other, x25_0.form, s26⟩ : Term)), oB b11 T_func_int_string [.func (.func F_hilbert_Term_1) #[] #[]], oT a_0 r3.1, oB b2 T_Term (Term.C (⟨0, ByteArray.empty, ByteArray.empty, 0, SlV.nil⟩ : Term))] [oDTerm s89 r86.sub, oDTerm SlV.nil ([]), oB c24 T_L_api_Line [s_2.v], oDTerm s26 x25_0.sub, fS 1 IC s_1 a1, fS 4 Ln.C s_2 a2, oPw] := S.arr [0, 1, 2, 3, 4, 5] [0, 4, 5, 6, 7, 8, 9]
     obtain rfl := Option.some.inj H
     exact ⟨rfl, (((((((((((((Dif.refl _ _).upd rfl _).upd rfl _).upd rfl _).upd rfl _).upd rfl _).upd rfl _).upd rfl _).upd rfl _).upd rfl _).upd rfl _).upd rfl _).upd rfl _), s89, S⟩
  rintro g92 u93 ⟨s33, S⟩
  have H := Ho32
  obtain ⟨r95, er95, H⟩ := bind_ex H
  refine wc_draw5 6 ⟨fun _ _ => True, fun _ _ _ => True, fun i v _ => match i with
   | 0 => v = Value.func (.func F_hilbert_Term_1) #[] #[]
   | 1 => v = Value.int .i64 i25
   | 2 => v = Value.string r95
   | 3 => v = Value.agg (Term.C (⟨o32.kind, o32.name, o32.other, o32.form, s33⟩ : Term)).toArray
   | 4 => v = Value.agg (Term.C (⟨x25_0.kind, x25_0.name, x25_0.other, x25_0.form, s26⟩ : Term)).toArray
   | _ => True⟩ (fun L g v => ∃ Z101 : List OA, (∀ z ∈ [oDTerm s33 o32.sub, oDTerm SlV.nil ([]), oB c24 T_L_api_Line [s_2.v], oDTerm s26 x25_0.sub, fS 1 IC s_1 a1, fS 4 Ln.C s_2 a2, oPw], z ∈ Z101) ∧ Made L g Z101 5 72 (fun (c : SlV) => c.v) (fun (c : SlV) => [oDTerm c ([o32, x25_0])]) ∧ (St A M25 w v [oB b31 T_Term (Term.C (⟨o32.kind, o32.name, o32.other, o32.form, s33⟩ : Term)), oB b28 T_Ln (Ln.C y25), oB b21 T_Term (Term.C (⟨x25_0.kind, x25_0.name, x25_0.other, x25_0.form, s26⟩ : Term)), oB b11 T_func_int_string [.func (.func F_hilbert_Term_1) #[] #[]], oT a_0 r3.1, oB b2 T_Term (Term.C (⟨0, ByteArray.empty, ByteArray.empty, 0, SlV.nil⟩ : Term))] Z101)) hmix (by kernel_rfl) (fun _ _ _ _ _ _ _ hv => hv) (fun g => ⟨_, fun _ h => h, Made.no, S.ext (Ext.drawn _)⟩) ⟨?_, ?_, ?_, ?_, ?_, ?_, trivial⟩ ?_
  ·rintro L g v hL hcl hclo ⟨Z101, hZ, hm5, hT⟩ 
   replace S : St A M25 w v [oB b31 T_Term (Term.C (⟨o32.kind, o32.name, o32.other, o32.form, s33⟩ : Term)), oB b28 T_Ln (Ln.C y25), oB b21 T_Term (Term.C (⟨x25_0.kind, x25_0.name, x25_0.other, x25_0.form, s26⟩ : Term)), oB b11 T_func_int_string [.func (.func F_hilbert_Term_1) #[] #[]], oT a_0 r3.1, oB b2 T_Term (Term.C (⟨0, ByteArray.empty, ByteArray.empty, 0, SlV.nil⟩ : Term))] Z101 := hT
   replace S : St A M25 w v [oB b31 T_Term (Term.C (⟨o32.kind, o32.name, o32.other, o32.form, s33⟩ : Term)), oB b28 T_Ln (Ln.C y25), oB b21 T_Term (Term.C (⟨x25_0.kind, x25_0.name, x25_0.other, x25_0.form, s26⟩ : Term)), oB b11 T_func_int_string [.func (.func F_hilbert_Term_1) #[] #[]], oT a_0 r3.1, oB b2 T_Term (Term.C (⟨0, ByteArray.empty, ByteArray.empty, 0, SlV.nil⟩ : Term))] (oDTerm s33 o32.sub :: oDTerm SlV.nil ([]) :: oB c24 T_L_api_Line [s_2.v] :: oDTerm s26 x25_0.sub :: fS 1 IC s_1 a1 :: fS 4 Ln.C s_2 a2 :: oPw :: Z101) := S.zneed hZ
   refine wd (does_load on_func_int_string rfl ((S.blk 3).cell rfl)) (wl_nil (ob4 trivial rfl ⟨_, fun z h => ?_, hm5.keep rfl rfl fun z h => ?_, S⟩))
   ·have := hZ z h; simp only [List.mem_cons, this, or_true]
   all_goals first | simp only [List.mem_cons, h, or_true] | simp only [List.mem_cons, true_or, or_true]
  ·rintro L g v hL hcl hclo ⟨Z101, hZ, hm5, hT⟩ 
   replace S : St A M25 w v [oB b31 T_Term (Term.C (⟨o32.kind, o32.name, o32.other, o32.form, s33⟩ : Term)), oB b28 T_Ln (Ln.C y25), oB b21 T_Term (Term.C (⟨x25_0.kind, x25_0.name, x25_0.other, x25_0.form, s26⟩ : Term)), oB b11 T_func_int_string [.func (.func F_hilbert_Term_1) #[] #[]], oT a_0 r3.1, oB b2 T_Term (Term.C (⟨0, ByteArray.empty, ByteArray.empty, 0, SlV.nil⟩ : Term))] Z101 := hT
   replace S : St A M25 w v [oB b31 T_Term (Term.C (⟨o32.kind, o32.name, o32.other, o32.form, s33⟩ : Term)), oB b28 T_Ln (Ln.C y25), oB b21 T_Term (Term.C (⟨x25_0.kind, x25_0.name, x25_0.other, x25_0.form, s26⟩ : Term)), oB b11 T_func_int_string [.func (.func F_hilbert_Term_1) #[] #[]], oT a_0 r3.1, oB b2 T_Term (Term.C (⟨0, ByteArray.empty, ByteArray.empty, 0, SlV.nil⟩ : Term))] (oDTerm s33 o32.sub :: oDTerm SlV.nil ([]) :: oB c24 T_L_api_Line [s_2.v] :: oDTerm s26 x25_0.sub :: fS 1 IC s_1 a1 :: fS 4 Ln.C s_2 a2 :: oPw :: Z101) := S.zneed hZ
   refine wd (does_mv_i rfl) (wl_nil (ob4 trivial rfl ⟨_, fun z h => ?_, hm5.keep rfl rfl fun z h => ?_, S⟩))
   ·have := hZ z h; simp only [List.mem_cons, this, or_true]
   all_goals first | simp only [List.mem_cons, h, or_true] | simp only [List.mem_cons, true_or, or_true]
  ·rintro L g v hL hcl hclo ⟨Z101, hZ, hm5, hT⟩ hv0 hv1
   replace S : St A M25 w v [oB b31 T_Term (Term.C (⟨o32.kind, o32.name, o32.other, o32.form, s33⟩ : Term)), oB b28 T_Ln (Ln.C y25), oB b21 T_Term (Term.C (⟨x25_0.kind, x25_0.name, x25_0.other, x25_0.form, s26⟩ : Term)), oB b11 T_func_int_string [.func (.func F_hilbert_Term_1) #[] #[]], oT a_0 r3.1, oB b2 T_Term (Term.C (⟨0, ByteArray.empty, ByteArray.empty, 0, SlV.nil⟩ : Term))] Z101 := hT
   replace S : St A M25 w v [oB b31 T_Term (Term.C (⟨o32.kind, o32.name, o32.other, o32.form, s33⟩ : Term)), oB b28 T_Ln (Ln.C y25), oB b21 T_Term (Term.C (⟨x25_0.kind, x25_0.name, x25_0.other, x25_0.form, s26⟩ : Term)), oB b11 T_func_int_string [.func (.func F_hilbert_Term_1) #[] #[]], oT a_0 r3.1, oB b2 T_Term (Term.C (⟨0, ByteArray.empty, ByteArray.empty, 0, SlV.nil⟩ : Term))] (oDTerm s33 o32.sub :: oDTerm SlV.nil ([]) :: oB c24 T_L_api_Line [s_2.v] :: oDTerm s26 x25_0.sub :: fS 1 IC s_1 a1 :: fS 4 Ln.C s_2 a2 :: oPw :: Z101) := S.zneed hZ
   obtain ⟨B104, MB104, SB104, back⟩ := S.calln 0 ((.z 6 rfl .nil))
   refine wl_call (does_callvg ca_hilbert_Term_1 hv0 (cons2 hv1 rfl)) (by decide) (hilbert_Term_1_st SB104 er95) ?_
   rintro _ w103 ⟨rfl, S2⟩
   replace S : St A M25 w w103 [oB b31 T_Term (Term.C (⟨o32.kind, o32.name, o32.other, o32.form, s33⟩ : Term)), oB b28 T_Ln (Ln.C y25), oB b21 T_Term (Term.C (⟨x25_0.kind, x25_0.name, x25_0.other, x25_0.form, s26⟩ : Term)), oB b11 T_func_int_string [.func (.func F_hilbert_Term_1) #[] #[]], oT a_0 r3.1, oB b2 T_Term (Term.C (⟨0, ByteArray.empty, ByteArray.empty, 0, SlV.nil⟩ : Term))] (oDTerm s33 o32.sub :: oDTerm SlV.nil ([]) :: oB c24 T_L_api_Line [s_2.v] :: oDTerm s26 x25_0.sub :: fS 1 IC s_1 a1 :: fS 4 Ln.C s_2 a2 :: oPw :: Z101) := back _ _ _ _ S2 rfl
   clear back S2 SB104
   refine wl_nil (ob4 trivial rfl ⟨_, fun z h => ?_, hm5.keep rfl rfl fun z h => ?_, S⟩)
   ·have := hZ z h; simp only [List.mem_cons, this, or_true]
   all_goals first | simp only [List.mem_cons, h, or_true] | simp only [List.mem_cons, true_or, or_true]
  ·rintro L g v hL hcl hclo ⟨Z101, hZ, hm5, hT⟩ 
   replace S : St A M25 w v [oB b31 T_Term (Term.C (⟨o32.kind, o32.name, o32.other, o32.form, s33⟩ : Term)), oB b28 T_Ln (Ln.C y25), oB b21 T_Term (Term.C (⟨x25_0.kind, x25_0.name, x25_0.other, x25_0.form, s26⟩ : Term)), oB b11 T_func_int_string [.func (.func F_hilbert_Term_1) #[] #[]], oT a_0 r3.1, oB b2 T_Term (Term.C (⟨0, ByteArray.empty, ByteArray.empty, 0, SlV.nil⟩ : Term))] Z101 := hT
   replace S : St A M25 w v [oB b31 T_Term (Term.C (⟨o32.kind, o32.name, o32.other, o32.form, s33⟩ : Term)), oB b28 T_Ln (Ln.C y25), oB b21 T_Term (Term.C (⟨x25_0.kind, x25_0.name, x25_0.other, x25_0.form, s26⟩ : Term)), oB b11 T_func_int_string [.func (.func F_hilbert_Term_1) #[] #[]], oT a_0 r3.1, oB b2 T_Term (Term.C (⟨0, ByteArray.empty, ByteArray.empty, 0, SlV.nil⟩ : Term))] (oDTerm s33 o32.sub :: oDTerm SlV.nil ([]) :: oB c24 T_L_api_Line [s_2.v] :: oDTerm s26 x25_0.sub :: fS 1 IC s_1 a1 :: fS 4 Ln.C s_2 a2 :: oPw :: Z101) := S.zneed hZ
   refine wd (does_load_agg ag_Term rfl ((S.blk 0).all _ (Term.len _)) (Term.len _)) (wl_nil (ob4 trivial rfl ⟨_, fun z h => ?_, hm5.keep rfl rfl fun z h => ?_, S⟩))
   ·have := hZ z h; simp only [List.mem_cons, this, or_true]
   all_goals first | simp only [List.mem_cons, h, or_true] | simp only [List.mem_cons, true_or, or_true]
  ·rintro L g v hL hcl hclo ⟨Z101, hZ, hm5, hT⟩ 
   replace S : St A M25 w v [oB b31 T_Term (Term.C (⟨o32.kind, o32.name, o32.other, o32.form, s33⟩ : Term)), oB b28 T_Ln (Ln.C y25), oB b21 T_Term (Term.C (⟨x25_0.kind, x25_0.name, x25_0.other, x25_0.form, s26⟩ : Term)), oB b11 T_func_int_string [.func (.func F_hilbert_Term_1) #[] #[]], oT a_0 r3.1, oB b2 T_Term (Term.C (⟨0, ByteArray.empty, ByteArray.empty, 0, SlV.nil⟩ : Term))] Z101 := hT
   replace S : St A M25 w v [oB b31 T_Term (Term.C (⟨o32.kind, o32.name, o32.other, o32.form, s33⟩ : Term)), oB b28 T_Ln (Ln.C y25), oB b21 T_Term (Term.C (⟨x25_0.kind, x25_0.name, x25_0.other, x25_0.form, s26⟩ : Term)), oB b11 T_func_int_string [.func (.func F_hilbert_Term_1) #[] #[]], oT a_0 r3.1, oB b2 T_Term (Term.C (⟨0, ByteArray.empty, ByteArray.empty, 0, SlV.nil⟩ : Term))] (oDTerm s33 o32.sub :: oDTerm SlV.nil ([]) :: oB c24 T_L_api_Line [s_2.v] :: oDTerm s26 x25_0.sub :: fS 1 IC s_1 a1 :: fS 4 Ln.C s_2 a2 :: oPw :: Z101) := S.zneed hZ
   refine wd (does_load_agg ag_Term rfl ((S.blk 2).all _ (Term.len _)) (Term.len _)) (wl_nil (ob4 trivial rfl ⟨_, fun z h => ?_, hm5.keep rfl rfl fun z h => ?_, S⟩))
   ·have := hZ z h; simp only [List.mem_cons, this, or_true]
   all_goals first | simp only [List.mem_cons, h, or_true] | simp only [List.mem_cons, true_or, or_true]
  ·rintro L g v hL hcl hclo ⟨Z101, hZ, hm5, hT⟩ hv3 hv4
   replace S : St A M25 w v [oB b31 T_Term (Term.C (⟨o32.kind, o32.name, o32.other, o32.form, s33⟩ : Term)), oB b28 T_Ln (Ln.C y25), oB b21 T_Term (Term.C (⟨x25_0.kind, x25_0.name, x25_0.other, x25_0.form, s26⟩ : Term)), oB b11 T_func_int_string [.func (.func F_hilbert_Term_1) #[] #[]], oT a_0 r3.1, oB b2 T_Term (Term.C (⟨0, ByteArray.empty, ByteArray.empty, 0, SlV.nil⟩ : Term))] Z101 := hT
   replace S := S.zneed hZ
   refine wl_lits (C := Term.C) (l := [(⟨o32.kind, o32.name, o32.other, o32.form, s33⟩ : Term), (⟨x25_0.kind, x25_0.name, x25_0.other, x25_0.form, s26⟩ : Term)]) (vs := [.agg (Term.C (⟨o32.kind, o32.name, o32.other, o32.form, s33⟩ : Term)).toArray, .agg (Term.C (⟨x25_0.kind, x25_0.name, x25_0.other, x25_0.form, s26⟩ : Term)).toArray]) sl_L_api_Term el_Term.zero (consP hv3 (consP hv4 rfl)) rfl (fun a _ => Term.len a) (by decide) rfl (by decide) fun b106 w105 s107 hBw105 hw105 => ?_
   replace S := ((S.lit hBw105 hw105 (by simp)).bigTm).consTm (x := x25_0) 3
   replace S : St A M25 w w105 [oS T_Term 5 Term.C s107 ([(⟨o32.kind, o32.name, o32.other, o32.form, s33⟩ : Term), (⟨x25_0.kind, x25_0.name, x25_0.other, x25_0.form, s26⟩ : Term)]), oB b31 T_Term (Term.C (⟨o32.kind, o32.name, o32.other, o32.form, s33⟩ : Term)), oB b28 T_Ln (Ln.C y25), oB b21 T_Term (Term.C (⟨x25_0.kind, x25_0.name, x25_0.other, x25_0.form, s26⟩ : Term)), oB b11 T_func_int_string [.func (.func F_hilbert_Term_1) #[] #[]], oT a_0 r3.1, oB b2 T_Term (Term.C (⟨0, ByteArray.empty, ByteArray.empty, 0, SlV.nil⟩ : Term))] (bigA fTerm [(⟨o32.kind, o32.name, o32.other, o32.form, s33⟩ : Term), (⟨x25_0.kind, x25_0.name, x25_0.other, x25_0.form, s26⟩ : Term)] [o32, x25_0] :: oDTerm s33 o32.sub :: oDTerm SlV.nil ([]) :: oB c24 T_L_api_Line [s_2.v] :: oDTerm s26 x25_0.sub :: fS 1 IC s_1 a1 :: fS 4 Ln.C s_2 a2 :: oPw :: Z101) := S.consTm (x := o32) 0
   replace S : St A M25 w w105 [oB b31 T_Term (Term.C (⟨o32.kind, o32.name, o32.other, o32.form, s33⟩ : Term)), oB b28 T_Ln (Ln.C y25), oB b21 T_Term (Term.C (⟨x25_0.kind, x25_0.name, x25_0.other, x25_0.form, s26⟩ : Term)), oB b11 T_func_int_string [.func (.func F_hilbert_Term_1) #[] #[]], oT a_0 r3.1, oB b2 T_Term (Term.C (⟨0, ByteArray.empty, ByteArray.empty, 0, SlV.nil⟩ : Term))] (oDTerm s107 ([o32, x25_0]) :: bigA fTerm [(⟨o32.kind, o32.name, o32.other, o32.form, s33⟩ : Term), (⟨x25_0.kind, x25_0.name, x25_0.other, x25_0.form, s26⟩ : Term)] [o32, x25_0] :: oDTerm s33 o32.sub :: oDTerm SlV.nil ([]) :: oB c24 T_L_api_Line [s_2.v] :: oDTerm s26 x25_0.sub :: fS 1 IC s_1 a1 :: fS 4 Ln.C s_2 a2 :: oPw :: Z101) := S.frzTm 0 0
   refine wl_nil (ob4 trivial trivial ⟨_, fun z h => ?_, Made.one (val := (fun (c : SlV) => c.v)) (ps := (fun (c : SlV) => [oDTerm c ([o32, x25_0])])) s107 (zs_cons ?_ zs_nil), S⟩)
   ·have := hZ z h; simp only [List.mem_cons, this, or_true]
   all_goals first | simp only [List.mem_cons, h, or_true] | simp only [List.mem_cons, true_or, or_true]
  rintro L g w108 hLm ⟨Z101, hZ, hm5, hT⟩ hv109_0 hv109_1 hv109_2 hv109_3 hv109_4 _
  have hLt : ∀ j, j < 6 → L j = true := fun j hj => by rw [hLm]; exact decide_eq_true hj
  obtain ⟨s100, hv109_5, hp5⟩ := hm5 (hLt 5 (by decide))
  have S := hT
  replace S := S.pickZ (zs_app (l1 := [oDTerm s100 ([o32, x25_0])]) hp5 hZ)
  clear hp5 hZ hm5
  refine wd (Does.to (v' := .agg (Term.C (⟨12, r95, ByteArray.empty, 0, s100⟩ : Term)).toArray) (does_buildv (vs := [(0, .int .i64 12), (1, .string r95), (4, s100.v)]) bu_Term (consP rfl (consP hv109_2 (consP hv109_5 rfl))) (Bld.one rfl rfl (by rw [Term.len]; decide) (Term.set_kind _ _) (Bld.one rfl rfl (by rw [Term.len]; decide) (Term.set_name _ _) (Bld.one rfl (SlV.one _ _ rfl) (by rw [Term.len]; decide) (Term.set_sub _ _) Bld.nil)))) rfl) ?_
  refine wl_store_agg ag_Term rfl rfl (S.blk 2) (Term.len _) (by rw [Term.len]; decide) (Term.one _) (store_all (Term.len _)) fun w110 B hw110 zw110 => ?_
  replace S := S.store 2 B hw110
  clear B
  refine wl_nil ?_
  replace S := S.arr [0, 3, 4, 5] [2, 3, 0, 5, 6, 7]
  obtain rfl := Option.some.inj H
  exact ⟨_, rfl, s100, S⟩
 ·rintro s25 s112 B25 w111 rfl S hB25
  replace S := S
  have H := Ho25
  dsimp only [fin] at H
  refine wc_seq (wc_seq (wc_region (wd (does_load_agg ag_Term rfl ((S.blk 0).all _ (Term.len _)) (Term.len _)) ?_)))
  obtain ⟨r113, er113, H⟩ := bind_ex H
  obtain ⟨B115, MB115, SB115, back⟩ := S.calln 0 ((.z 2 rfl .nil))
  refine wl_call (does_call ca_term_Size) (by decide) (term_Size_st (a0 := s25) SB115 er113) ?_
  rintro _ w114 ⟨rfl, S2⟩
  replace S := back _ _ _ _ S2 rfl
  clear back S2 SB115
  refine wd (does_gt rfl rfl) (wd (does_mv_b rfl) ?_)
  refine wg (fun hg => does_load_agg ag_Term rfl ((S.blk 0).all _ (Term.len _)) (Term.len _)) ?_
  obtain ⟨r116, er116, H⟩ := bind_ex H
  refine wl_gcall (j := 3) (pol := false) rfl rfl rfl (by decide) (fun hg => does_callg ca_term_Deep (cons2 (gv_yes hg) rfl)) (by decide) (fun hg => (have ⟨M, SS⟩ := S.lend ((.z 2 rfl .nil)); quiet (term_Deep_st (a0 := s25) SS (if_t (by simpa using hg) er116)) (fun v w' h => ⟨h.1, _, _, h.2⟩))) fun w117 hw117 => ?_
  replace S := S.ext hw117
  refine wg (fun hg => does_gt (gv_yes hg) rfl) (wd (does_or rfl (fun hp => (gv_yes (and_1 hp)))) (wl_nil ?_))
  refine wc_if rfl (fun hc118 => ?_) (fun hc118 => ?_)
  ·replace H := if_t hc118 H
   refine wc_seq (wc_region (wd (Does.to (v' := .agg (Term.C (⟨0, ByteArray.empty, ByteArray.empty, 0, SlV.nil⟩ : Term)).toArray) (does_buildv (vs := []) bu_Term rfl Bld.nil) rfl) ?_))
   refine wl_store_agg ag_Term rfl rfl (S.blk 3) (Term.len _) (by rw [Term.len]; decide) (Term.one _) (store_all (Term.len _)) fun w119 B hw119 zw119 => ?_
   replace S := S.store 3 B hw119
   clear B
   refine wd (does_as_i rfl) (wl_nil (wc_ret ?_))
   refine end1 (.inl rfl) (S.take hB25).1 fun w120 hcw120 => ?_
   replace S := ((S.take hB25).2 _ hcw120).nilTm
   refine ⟨_, (rets2 (retOne_agg ag_Term rfl ((S.blk 0).all _ (Term.len _)) (Term.len _)) (retOne_tmp rfl)), ?_⟩
   replace S := S.arr [3] [0]
   obtain rfl := Option.some.inj H
   exact ⟨SlV.nil, rfl, S⟩
  replace H := if_f hc118 H
  refine wc_skip (wc_seq (wc_region (wd (does_load_agg ag_Term rfl ((S.blk 0).all _ (Term.len _)) (Term.len _)) ?_)))
  refine wl_store_agg ag_Term rfl rfl (S.blk 3) (Term.len _) (by rw [Term.len]; decide) (Term.one _) (store_all (Term.len _)) fun w121 B hw121 zw121 => ?_
  replace S := S.store 3 B hw121
  clear B
  refine wd (does_as_i rfl) (wl_nil (wc_ret ?_))
  refine end1 (.inl rfl) (S.take hB25).1 fun w122 hcw122 => ?_
  replace S := (S.take hB25).2 _ hcw122
  refine ⟨_, (rets2 (retOne_agg ag_Term rfl ((S.blk 0).all _ (Term.len _)) (Term.len _)) (retOne_tmp rfl)), ?_⟩
  replace S := S.arr [3] [2]
  obtain rfl := Option.some.inj H
  exact ⟨s112, rfl, S⟩
 ·intro r; exact r.elim
 ·intro h; cases h
end Go.Proofs.YtflieamjacclnaaGreatDoor
end
section
namespace Go.Proofs.YtflieamjacclnaaGreatDoor
open Gw Go.RowKit
set_option maxHeartbeats 4000000
set_option maxRecDepth 20000
theorem formula_Table_Atom_st {A : Nat → Prop} {N : Oth} {w : World} {a0 : Tb} {a_0 : Option Addr} {a1 : ByteArray} (S : St A N w w [oT a_0 a0] []) {r : Tb × Int × Int} (H : formula_Table_Atom.f a0 a1 = some r) :
  Calls PP F_formula_Table_Atom #[.pointer a_0, .string a1] w fun e w' => ∃ v, e = .returned v ∧ (v = .tuple #[.int .i64 r.2.1, .int .i64 r.2.2] ∧ St A N w w' [oT a_0 r.1] []) := by
 unfold formula_Table_Atom.f at H
 refine calls_of_wc (n := 12) fn_formula_Table_Atom rfl rfl (by simp) (wc_seq (wc_region (wd (does_as_i rfl) (wd (does_as_i rfl) (wl_nil (wc_seq (wc_region ?_)))))))
 refine wd (does_mv_p rfl) (wd (does_mv_s rfl) (wd (does_build bu_Nd (Bld.one rfl rfl (by rw [Nd.len]; decide) (Nd.set_kind _ _) (Bld.one rfl rfl (by rw [Nd.len]; decide) (Nd.set_name _ _) Bld.nil))) ?_))
 obtain ⟨r1, er1, H⟩ := bind_ex H
 obtain ⟨B3, MB3, SB3, back⟩ := S.calln 1 ((.nil))
 refine wl_call (does_call ca_formula_Table_Put) (by decide) (formula_Table_Put_st SB3 er1) ?_
 rintro _ w2 ⟨rfl, S2⟩
 replace S := back _ _ _ _ S2 rfl
 clear back S2 SB3
 refine wd (does_extract rfl rfl) (wd (does_extract rfl rfl) (wd (does_as_i rfl) (wd (does_as_i rfl) (wl_nil (wc_ret ?_)))))
 refine ⟨_, (rets2 (retOne_tmp rfl) (retOne_tmp rfl)), ?_⟩
 obtain rfl := Option.some.inj H
 exact ⟨rfl, S⟩
theorem law16_num_st {A : Nat → Prop} {N : Oth} {w : World} {a0 : Int} (S : St A N w w [] []) {r : Int} (H : law16_num.f a0 = some r) :
  Calls PP F_law16_num #[.int .i64 a0] w fun e w' => ∃ v, e = .returned v ∧ (v = .int .i64 r ∧ St A N w w' [] []) := by
 unfold law16_num.f at H
 refine calls_of_wc (n := 4) fn_law16_num rfl rfl (by simp) (wc_seq (wc_region (wd (does_as_i rfl) (wl_nil (wc_seq (wc_region (wd (does_mv_i rfl) ?_)))))))
 refine wd (does_as_i rfl) (wl_nil (wc_ret ?_))
 refine ⟨_, (rets1 (retOne_tmp rfl)), ?_⟩
 obtain rfl := Option.some.inj H
 exact ⟨rfl, S⟩
theorem ref12_Same_gst {rec_ref12_Same : PTerm → PTerm → Option Bool} (hrec_ref12_Same : ∀ {A : Nat → Prop} {N : Oth} {w : World} {a0 : PTerm} {s_0 : SlV} {a1 : PTerm} {s_1 : SlV} (S : St A N w w [] [oDTerm s_0 a0.sub, oDTerm s_1 a1.sub]) {r : Bool} (H : rec_ref12_Same a0 a1 = some r), Calls PP F_ref12_Same #[.agg (Term.C (⟨a0.kind, a0.name, a0.other, a0.form, s_0⟩ : Term)).toArray, .agg (Term.C (⟨a1.kind, a1.name, a1.other, a1.form, s_1⟩ : Term)).toArray] w fun e w' => ∃ v, e = .returned v ∧ (v = .bool r ∧ St A N w w' [] [])) {A : Nat → Prop} {N : Oth} {w : World} {a0 : PTerm} {s_0 : SlV} {a1 : PTerm} {s_1 : SlV} (S : St A N w w [] [oDTerm s_0 a0.sub, oDTerm s_1 a1.sub]) {k : Nat} {r : Bool} (H : ref12_Same.g rec_ref12_Same k a0 a1 = some r) :
  Calls PP F_ref12_Same #[.agg (Term.C (⟨a0.kind, a0.name, a0.other, a0.form, s_0⟩ : Term)).toArray, .agg (Term.C (⟨a1.kind, a1.name, a1.other, a1.form, s_1⟩ : Term)).toArray] w fun e w' => ∃ v, e = .returned v ∧ (v = .bool r ∧ St A N w w' [] []) := by
 unfold ref12_Same.g at H
 refine calls_of_wc (n := 60) fn_ref12_Same rfl rfl (by simp) (wc_seq (wc_region ?_))
 refine wl_box_agg rfl (by decide) fun b2 w1 hw1 => ?_
 replace S := S.new hw1
 refine wl_box_agg rfl (by decide) fun b4 w3 hw3 => ?_
 replace S := S.new hw3
 refine wd (does_as_b rfl) (wl_nil (wc_seq (wc_seq (wc_region (wd (does_fieldAddr fl_Term_kind rfl (o' := 0) rfl) (wd (does_load on_api_TermKind rfl ((S.blk 1).cell (Term.get_kind _))) (wd (does_fieldAddr fl_Term_kind rfl (o' := 0) rfl) ?_)))))))
 refine wd (does_load on_api_TermKind rfl ((S.blk 0).cell (Term.get_kind _))) (wd (does_ne rfl rfl) (wd (does_mv_b rfl) ?_))
 refine wg (fun hg => does_fieldAddr fl_Term_name rfl (o' := 1) rfl) ?_
 refine wg (fun hg => does_load on_string (gv_yes hg) ((S.blk 1).cell (Term.get_name _))) ?_
 refine wg (fun hg => does_fieldAddr fl_Term_name rfl (o' := 1) rfl) ?_
 refine wg (fun hg => does_load on_string (gv_yes hg) ((S.blk 0).cell (Term.get_name _))) ?_
 refine wg (fun hg => does_nes (gv_yes hg) (gv_yes hg)) (wd (does_or rfl (fun hp => (gv_yes (and_1 hp)))) (wd (does_mv_b rfl) ?_))
 refine wg (fun hg => does_fieldAddr fl_Term_other rfl (o' := 2) rfl) ?_
 refine wg (fun hg => does_load on_string (gv_yes hg) ((S.blk 1).cell (Term.get_other _))) ?_
 refine wg (fun hg => does_fieldAddr fl_Term_other rfl (o' := 2) rfl) ?_
 refine wg (fun hg => does_load on_string (gv_yes hg) ((S.blk 0).cell (Term.get_other _))) ?_
 refine wg (fun hg => does_nes (gv_yes hg) (gv_yes hg)) (wd (does_or rfl (fun hp => (gv_yes (and_1 hp)))) (wd (does_mv_b rfl) ?_))
 refine wg (fun hg => does_fieldAddr fl_Term_form rfl (o' := 3) rfl) ?_
 refine wg (fun hg => does_load on_int (gv_yes hg) ((S.blk 1).cell (Term.get_form _))) ?_
 refine wg (fun hg => does_fieldAddr fl_Term_form rfl (o' := 3) rfl) ?_
 refine wg (fun hg => does_load on_int (gv_yes hg) ((S.blk 0).cell (Term.get_form _))) ?_
 refine wg (fun hg => does_ne (gv_yes hg) (gv_yes hg)) (wd (does_or rfl (fun hp => (gv_yes (and_1 hp)))) (wd (does_mv_b rfl) ?_))
 refine wg (fun hg => does_fieldAddr fl_Term_sub rfl (o' := 4) rfl) ?_
 refine wg (fun hg => does_load on_L_api_Term (gv_yes hg) ((S.blk 1).cell (Term.get_sub _))) ?_
 refine wg (fun hg => does_lenF sl_L_api_Term (gv_yes hg) (S.onZ 0)) ?_
 refine wg (fun hg => does_fieldAddr fl_Term_sub rfl (o' := 4) rfl) ?_
 refine wg (fun hg => does_load on_L_api_Term (gv_yes hg) ((S.blk 0).cell (Term.get_sub _))) ?_
 refine wg (fun hg => does_lenF sl_L_api_Term (gv_yes hg) (S.onZ 1)) ?_
 refine wg (fun hg => does_ne (gv_yes hg) (gv_yes hg)) (wd (does_or rfl (fun hp => (gv_yes (and_1 hp)))) (wl_nil ?_))
 refine wc_if rfl (fun hc5 => ?_) (fun hc5 => ?_)
 ·replace H := if_t hc5 H
  refine wc_seq (wc_region (wd (does_as_b rfl) (wl_nil (wc_ret ?_))))
  refine ⟨_, (rets1 (retOne_tmp rfl)), ?_⟩
  replace S := S.arr [] []
  obtain rfl := Option.some.inj H
  exact ⟨rfl, S⟩
 replace H := if_f hc5 H
 refine wc_skip (wc_seq (wc_seq (wc_region (wd (does_as_i rfl) (wl_nil ?_)))))
 obtain ⟨o6, e6, Ho6⟩ := bind_ex H
 clear H
 refine wc_cutq [4, 5, 41, 42, 43, 44, 45, 46, 47, 48, 49, 50, 51, 52, 53, 54, 55, 56, 57, 58, 59] (fun fr W => ∃ s6 : Int, o6 = .inl s6 ∧ fr 5 = .int .i64 s6 ∧ St A N w W [oB b4 T_Term (Term.C (⟨a1.kind, a1.name, a1.other, a1.form, s_1⟩ : Term)), oB b2 T_Term (Term.C (⟨a0.kind, a0.name, a0.other, a0.form, s_0⟩ : Term))] [oDTerm s_0 a0.sub, oDTerm s_1 a1.sub]) ?_ ?_
 ·refine wc_block ?_
  refine wc_loopm (α := Nat × Int) [4, 5, 41, 42, 43, 44, 45, 46, 47, 48, 49, 50, 51, 52, 53, 54, 55, 56, 57, 58, 59] (fun x fr W => iter (fun s => ref12_Same.b0 a0 a1 rec_ref12_Same s) x.1 x.2 = some o6 ∧ fr 5 = .int .i64 (x.2) ∧ St A N w W [oB b4 T_Term (Term.C (⟨a1.kind, a1.name, a1.other, a1.form, s_1⟩ : Term)), oB b2 T_Term (Term.C (⟨a0.kind, a0.name, a0.other, a0.form, s_0⟩ : Term))] [oDTerm s_0 a0.sub, oDTerm s_1 a1.sub]) (fun x => x.1) (k, 0) ⟨(by dsimp only; exact e6), rfl, S⟩ ?_
  rintro ⟨m6, x6_0⟩ g6 u6 ⟨e6, q6_5, S⟩
  try dsimp only at e6
  try dsimp only at S
  try dsimp only at q6_5
  obtain ⟨m6, rfl⟩ : ∃ m, m6 = m + 1 := ⟨m6 - 1, by cases m6 with | zero => cases e6 | succ m => rfl⟩
  obtain ⟨q6, H, e6⟩ := iter_s e6
  unfold ref12_Same.b0 at H
  try dsimp only at H
  refine wc_seq (wc_seq (wc_region (wd (does_mv_i q6_5) (wd (does_fieldAddr fl_Term_sub rfl (o' := 4) rfl) (wd (does_load on_L_api_Term rfl ((S.blk 1).cell (Term.get_sub _))) (wd (does_lenF sl_L_api_Term rfl (S.onZ 0)) (wd (does_lt rfl rfl) (wl_nil ?_))))))))
  refine wc_if rfl (fun hc7 => ?_) (fun hc7 => ?_)
  rotate_left
  ·replace H := if_f hc7 H
   refine wc_exit ?_
   obtain rfl := Option.some.inj H
   exact ⟨rfl, ((((((Dif.self _ _ _).upd rfl _).upd rfl _).upd rfl _).upd rfl _).upd rfl _), x6_0, e6, q6_5, S⟩
  replace H := if_t hc7 H
  refine wc_skip (wc_seq ?_)
  refine wc_block (wc_seq ?_)
  refine wc_quiet 10 (Ext u6) hmix (by kernel_rfl) (by kernel_rfl) (Ext.drawn _) (wq_does (fun v K => does_fieldAddr fl_Term_sub rfl (o' := 4) rfl) (wq_does (fun v K => does_load on_L_api_Term rfl (((S.ext K).blk 1).cell (Term.get_sub _))) (wq_does (fun v K => does_mv_i q6_5) ?_)))
  obtain ⟨hi8, H⟩ := chk_ex H
  refine wq_does (fun v K => does_indexF sl_L_api_Term rfl rfl ((S.ext K).onZ 0) (inb_ex hi8).1 (inb_ex hi8).2) ?_
  obtain ⟨s9, hc10, S⟩ := S.viewTerm 0 (inb_ex hi8)
  replace S := S
  refine wq_does (fun v K => does_load_agg ag_Term rfl (hc10.chg K (fun x => x)) (Term.len _)) (wq_does (fun v K => does_fieldAddr fl_Term_sub rfl (o' := 4) rfl) (wq_does (fun v K => does_load on_L_api_Term rfl (((S.ext K).blk 0).cell (Term.get_sub _))) (wq_does (fun v K => does_mv_i q6_5) ?_)))
  obtain ⟨hi11, H⟩ := chk_ex H
  refine wq_does (fun v K => does_indexF sl_L_api_Term rfl rfl ((S.ext K).onZ 2) (inb_ex hi11).1 (inb_ex hi11).2) ?_
  obtain ⟨s12, hc13, S⟩ := S.viewTerm 2 (inb_ex hi11)
  replace S := S
  refine wq_does (fun v K => does_load_agg ag_Term rfl (hc13.chg K (fun x => x)) (Term.len _)) ?_
  refine wq_nil fun w14 K => ?_
  replace S := S.ext K
  clear K
  obtain ⟨r15, er15, H⟩ := bind_ex H
  obtain ⟨B17, MB17, SB17, back⟩ := S.calln 0 ((.z 1 rfl (.z 0 rfl .nil)))
  refine wl_call (does_call ca_ref12_Same) (by decide) (hrec_ref12_Same (a0 := (at_ PTerm.z a0.sub x6_0)) (a1 := (at_ PTerm.z a1.sub x6_0)) SB17 er15) ?_
  rintro _ w16 ⟨rfl, S2⟩
  replace S := back _ _ _ _ S2 rfl
  clear back S2 SB17
  refine wd (does_not rfl) (wl_nil ?_)
  refine wc_if rfl (fun hc18 => ?_) (fun hc18 => ?_)
  ·replace H := if_t hc18 H
   refine wc_seq (wc_region (wd (does_as_b rfl) (wl_nil (wc_ret ?_))))
   refine ⟨_, (rets1 (retOne_tmp rfl)), ?_⟩
   replace S := S.arr [] []
   obtain rfl := Option.some.inj H
   obtain rfl := e6
   obtain rfl := aft_r Ho6
   exact ⟨rfl, S⟩
  replace H := if_f hc18 H
  refine wc_skip (wc_region (wd (does_mv_i q6_5) (wd (does_add rfl rfl) (wd (does_as_i rfl) (wl_nil ?_)))))
  replace S := S.arr [0, 1] [2, 3]
  obtain rfl := Option.some.inj H
  exact ⟨rfl, (((((((((((((((((((((Dif.self _ _ _).upd rfl _).upd rfl _).upd rfl _).upd rfl _).upd rfl _).upd rfl _).upd rfl _).upd rfl _).upd rfl _).upd rfl _).upd rfl _).upd rfl _).upd rfl _).upd rfl _).upd rfl _).upd rfl _).upd rfl _).upd rfl _).upd rfl _).upd rfl _), (m6, IntKind.i64.wrap (x6_0 + 1)), ⟨e6, rfl, S⟩, by dsimp only; omega⟩
 rintro g19 u20 ⟨s6, rfl, p6_5, S⟩
 have H := Ho6
 dsimp only [aft] at H
 refine wc_seq (wc_region (wd (does_as_b rfl) (wl_nil (wc_ret ?_))))
 refine ⟨_, (rets1 (retOne_tmp rfl)), ?_⟩
 replace S := S.arr [] []
 obtain rfl := Option.some.inj H
 exact ⟨rfl, S⟩
theorem ref12_Same_st {A : Nat → Prop} {N : Oth} {w : World} {a0 : PTerm} {s_0 : SlV} {a1 : PTerm} {s_1 : SlV} (S : St A N w w [] [oDTerm s_0 a0.sub, oDTerm s_1 a1.sub]) {k : Nat} {r : Bool} (H : ref12_Same.f k a0 a1 = some r) :
  Calls PP F_ref12_Same #[.agg (Term.C (⟨a0.kind, a0.name, a0.other, a0.form, s_0⟩ : Term)).toArray, .agg (Term.C (⟨a1.kind, a1.name, a1.other, a1.form, s_1⟩ : Term)).toArray] w fun e w' => ∃ v, e = .returned v ∧ (v = .bool r ∧ St A N w w' [] []) := by
 have main : ∀ (k : Nat) {A : Nat → Prop} {N : Oth} {w : World} {a0 : PTerm} {s_0 : SlV} {a1 : PTerm} {s_1 : SlV} (S : St A N w w [] [oDTerm s_0 a0.sub, oDTerm s_1 a1.sub]) {r : Bool} (H : ref12_Same.f k a0 a1 = some r), Calls PP F_ref12_Same #[.agg (Term.C (⟨a0.kind, a0.name, a0.other, a0.form, s_0⟩ : Term)).toArray, .agg (Term.C (⟨a1.kind, a1.name, a1.other, a1.form, s_1⟩ : Term)).toArray] w fun e w' => ∃ v, e = .returned v ∧ (v = .bool r ∧ St A N w w' [] []) := by
  intro k
  induction k with
  | zero => intro A N w a0 s_0 a1 s_1 S r H; cases H
  | succ k ih => intro A N w a0 s_0 a1 s_1 S r H; exact ref12_Same_gst ih S H
 exact main k S H
theorem ref16_Lines_st {A : Nat → Prop} {N : Oth} {w : World} {a0 : List Ln} {s_0 : SlV} {a1 : List Ln} {s_1 : SlV} (S : St A N w w [] [fS 4 Ln.C s_0 a0, fS 4 Ln.C s_1 a1]) {r : Bool} (H : ref16_Lines.f a0 a1 = some r) :
  Calls PP F_ref16_Lines #[s_0.v, s_1.v] w fun e w' => ∃ v, e = .returned v ∧ (v = .bool r ∧ St A N w w' [] []) := by
 unfold ref16_Lines.f at H
 refine calls_of_wc (n := 26) fn_ref16_Lines rfl rfl (by simp) (wc_seq (wc_region (wd (does_as_b rfl) (wl_nil (wc_seq (wc_seq (wc_region (wd (does_mv_l rfl) ?_))))))))
 refine wd (does_lenR sl_L_api_Line rfl (S.rd 0)) (wd (does_mv_l rfl) (wd (does_lenR sl_L_api_Line rfl (S.rd 1)) (wd (does_ne rfl rfl) (wl_nil ?_))))
 refine wc_if rfl (fun hc1 => ?_) (fun hc1 => ?_)
 ·replace H := if_t hc1 H
  refine wc_seq (wc_region (wd (does_as_b rfl) (wl_nil (wc_ret ?_))))
  refine ⟨_, (rets1 (retOne_tmp rfl)), ?_⟩
  replace S := S.arr [] []
  obtain rfl := Option.some.inj H
  exact ⟨rfl, S⟩
 replace H := if_f hc1 H
 refine wc_skip (wc_seq (wc_seq (wc_region (wd (does_as_i rfl) (wl_nil ?_)))))
 obtain ⟨o2, e2, Ho2⟩ := bind_ex H
 clear H
 refine wc_cutq [4, 5, 11, 12, 13, 14, 15, 16, 17, 18, 19, 20, 21, 22, 23, 24, 25] (fun fr W => ∃ s2 : Unit, o2 = .inl s2 ∧ St A N w W [] [fS 4 Ln.C s_0 a0, fS 4 Ln.C s_1 a1]) ?_ ?_
 ·refine wc_block ?_
  refine wc_loopm (α := Nat × Int × Unit) [4, 5, 11, 12, 13, 14, 15, 16, 17, 18, 19, 20, 21, 22, 23, 24, 25] (fun x fr W => (x.1 : Int) = (a0.length : Int) - x.2.1 ∧ 0 ≤ x.2.1 ∧ forN (fun i s => ref16_Lines.b0 a1 a0 i) x.1 x.2.1 x.2.2 = some o2 ∧ fr 5 = .int .i64 x.2.1 ∧ St A N w W [] [fS 4 Ln.C s_0 a0, fS 4 Ln.C s_1 a1]) (fun x => x.1) (((a0.length : Int) - 0).toNat, 0, ()) ⟨(by dsimp only; have hle := Int.natCast_nonneg (a0.length); omega), (Int.le_refl _), (by dsimp only; exact e2), rfl, S⟩ ?_
  rintro ⟨m2, i2, _⟩ g2 u2 ⟨hm2, hl2, e2, q2_i, S⟩
  try dsimp only at hm2
  try dsimp only at hl2
  try dsimp only at e2
  try dsimp only at S
  try dsimp only at q2_i
  refine wc_seq (wc_seq (wc_region (wd (does_mv_i q2_i) (wd (does_mv_l rfl) (wd (does_lenR sl_L_api_Line rfl (S.rd 0)) (wd (does_lt rfl rfl) (wl_nil ?_)))))))
  refine wc_if rfl (fun hc3 => ?_) (fun hc3 => ?_)
  rotate_left
  ·refine wc_exit ?_
   have hge : (a0.length : Int) ≤ i2 := Int.not_lt.1 (of_decide_eq_false hc3)
   obtain rfl : m2 = 0 := by omega
   replace e2 := forN_0 e2
   exact ⟨rfl, (((((Dif.self _ _ _).upd rfl _).upd rfl _).upd rfl _).upd rfl _), (), e2, S⟩
  refine wc_skip ?_
  have hlt2 : i2 < (a0.length : Int) := of_decide_eq_true hc3
  obtain ⟨m2, rfl⟩ : ∃ m, m2 = m + 1 := ⟨m2 - 1, by omega⟩
  obtain ⟨q2, H, e2⟩ := forN_s e2
  unfold ref16_Lines.b0 at H
  try dsimp only at H
  have hb2 := (S.len 0)
  refine wc_seq ?_
  refine wc_block (wc_seq ?_)
  refine wc_quiet 8 (Ext u2) hmix (by kernel_rfl) (by kernel_rfl) (Ext.drawn _) (wq_does (fun v K => does_mv_l rfl) (wq_does (fun v K => does_mv_i q2_i) (wq_does (fun v K => does_indexR sl_L_api_Line rfl rfl ((S.ext K).rd 0) (And.intro (show 0 ≤ i2 by omega) (show i2 < (a0.length : Int) from hlt2)).1 (And.intro (show 0 ≤ i2 by omega) (show i2 < (a0.length : Int) from hlt2)).2) (wq_does (fun v K => does_load_agg ag_Ln rfl (((S.ext K).rd 0).at (at_some Ln.z (And.intro (show 0 ≤ i2 by omega) (show i2 < (a0.length : Int) from hlt2)))) (Ln.len _)) (wq_does (fun v K => does_mv_l rfl) ?_)))))
  refine wq_does (fun v K => does_mv_i q2_i) ?_
  obtain ⟨hi5, H⟩ := chk_ex H
  refine wq_does (fun v K => does_indexR sl_L_api_Line rfl rfl ((S.ext K).rd 1) (inb_ex hi5).1 (inb_ex hi5).2) (wq_does (fun v K => does_load_agg ag_Ln rfl (((S.ext K).rd 1).at (at_some Ln.z (inb_ex hi5))) (Ln.len _)) ?_)
  refine wq_nil fun w6 K => ?_
  replace S := S.ext K
  clear K
  refine wd (does_nev eg_Ln (eq_Ln _ _) (by decide) rfl rfl) (wl_nil ?_)
  refine wc_if rfl (fun hc7 => ?_) (fun hc7 => ?_)
  ·replace H := if_t hc7 H
   refine wc_seq (wc_region (wd (does_as_b rfl) (wl_nil (wc_ret ?_))))
   refine ⟨_, (rets1 (retOne_tmp rfl)), ?_⟩
   replace S := S.arr [] []
   obtain rfl := Option.some.inj H
   obtain rfl := e2
   obtain rfl := aft_r Ho2
   exact ⟨rfl, S⟩
  replace H := if_f hc7 H
  refine wc_skip (wc_region (wd (does_mv_i q2_i) (wd (does_addc rfl rfl (c := i2 + 1) rfl (by omega) (by omega)) (wd (does_as_i rfl) (wl_nil ?_)))))
  obtain rfl := Option.some.inj H
  exact ⟨rfl, (((((((((((((((((Dif.self _ _ _).upd rfl _).upd rfl _).upd rfl _).upd rfl _).upd rfl _).upd rfl _).upd rfl _).upd rfl _).upd rfl _).upd rfl _).upd rfl _).upd rfl _).upd rfl _).upd rfl _).upd rfl _).upd rfl _), (m2, i2 + 1, ()), ⟨(by dsimp only; omega), (by dsimp only; omega), e2, rfl, S⟩, by dsimp only; omega⟩
 rintro g8 u9 ⟨s2, rfl, S⟩
 have H := Ho2
 dsimp only [aft] at H
 refine wc_seq (wc_region (wd (does_as_b rfl) (wl_nil (wc_ret ?_))))
 refine ⟨_, (rets1 (retOne_tmp rfl)), ?_⟩
 replace S := S.arr [] []
 obtain rfl := Option.some.inj H
 exact ⟨rfl, S⟩
theorem law16_heads_st {A : Nat → Prop} {N : Oth} {w : World}  (S : St A N w w [] [oEt, oPw]) {k : Nat} {r : Bool} (H : law16_heads.f k  = some r) :
  Calls PP F_law16_heads #[] w fun e w' => ∃ v, e = .returned v ∧ (v = .bool r ∧ St A N w w' [] []) := by
 unfold law16_heads.f at H
 refine calls_of_wc (n := 129) fn_law16_heads rfl rfl (by simp) (wc_seq (wc_region (wd (does_as_b rfl) (wl_nil (wc_seq (wc_region ?_))))))
 obtain ⟨r1, er1, H⟩ := bind_ex H
 obtain ⟨B3, MB3, SB3, back⟩ := S.calln 0 ((.nil))
 refine wl_call (does_call ca_formula_New) (by decide) (formula_New_st SB3 er1) ?_
 rintro _ w2 ⟨a4, rfl, S2⟩
 replace S := back _ _ _ _ S2 rfl
 clear back S2 SB3
 refine wd (does_as_p rfl) (wl_nil (wc_seq (wc_region (wd (does_mv_p rfl) ?_))))
 obtain ⟨r5, er5, H⟩ := bind_ex H
 obtain ⟨B7, MB7, SB7, back⟩ := S.calln 1 ((.nil))
 refine wl_call (does_call ca_formula_Table_Atom) (by decide) (formula_Table_Atom_st SB7 er5) ?_
 rintro _ w6 ⟨rfl, S2⟩
 replace S := back _ _ _ _ S2 rfl
 clear back S2 SB7
 refine wd (does_mv_t rfl) (wd (does_extract rfl rfl) (wd (does_extract rfl rfl) (wd (does_as_i rfl) (wd (does_as_i rfl) (wl_nil (wc_seq (wc_region ?_)))))))
 refine wd (does_mv_p rfl) (wd (does_mv_i rfl) (wd (does_mv_i rfl) ?_))
 obtain ⟨r8, er8, H⟩ := bind_ex H
 obtain ⟨B10, MB10, SB10, back⟩ := S.calln 1 ((.nil))
 refine wl_call (does_call ca_formula_Table_Imp) (by decide) (formula_Table_Imp_st SB10 er8) ?_
 rintro _ w9 ⟨rfl, S2⟩
 replace S := back _ _ _ _ S2 rfl
 clear back S2 SB10
 refine wd (does_mv_t rfl) (wd (does_extract rfl rfl) (wd (does_extract rfl rfl) (wd (does_as_i rfl) (wd (does_as_i rfl) (wl_nil (wc_seq (wc_region ?_)))))))
 refine wd (does_mv_p rfl) (wd (does_mv_i rfl) ?_)
 refine wl_lits (C := IC) (l := [r5.2.1]) (vs := [.int .i64 r5.2.1]) sl_L_int el_int.zero rfl rfl (fun _ _ => rfl) (by decide) rfl (by decide) fun b12 w11 s13 hBw11 hw11 => ?_
 replace S := S.lit hBw11 hw11 (by simp)
 refine wd (does_mv_i rfl) (wd (does_build bu_Ln (Bld.one rfl rfl (by rw [Ln.len]; decide) (Ln.set_kind _ _) (Bld.one rfl rfl (by rw [Ln.len]; decide) (Ln.set_form _ _) Bld.nil))) ?_)
 refine wl_lits (C := Ln.C) (l := [{ Ln.z with kind := 10, form := r5.2.1 }]) (vs := [.agg (Ln.C ({ Ln.z with kind := 10, form := r5.2.1 })).toArray]) sl_L_api_Line el_Ln.zero rfl rfl (fun a _ => Ln.len a) (by decide) rfl (by decide) fun b15 w14 s16 hBw14 hw14 => ?_
 replace S := S.lit hBw14 hw14 (by simp)
 refine wd (does_mv_i rfl) ?_
 obtain ⟨r17, er17, H⟩ := bind_ex H
 replace S := S.front 2
 obtain ⟨B19, MB19, SB19, back⟩ := S.calln 1 ((.s 1 rfl (.s 0 rfl .nil)))
 refine wl_call (does_call ca_hilbert_Deduce) (by decide) (hilbert_Deduce_st SB19 er17) ?_
 rintro _ w18 ⟨s20, rfl, S2⟩
 replace S := back _ _ _ _ S2 rfl
 clear back S2 SB19
 refine wd (does_mv_t rfl) (wd (does_extract rfl rfl) (wd (does_extract rfl rfl) (wd (does_as_l rfl) (wd (does_as_i rfl) (wl_nil (wc_seq (wc_region ?_)))))))
 refine wd (does_mv_p rfl) (wd (Does.to (v' := .agg (Term.C (⟨1, (⟨#[120]⟩ : ByteArray), ByteArray.empty, 0, SlV.nil⟩ : Term)).toArray) (does_buildv (vs := [(0, .int .i64 1), (1, .string (⟨#[120]⟩ : ByteArray))]) bu_Term (consP rfl (consP rfl rfl)) (Bld.one rfl rfl (by rw [Term.len]; decide) (Term.set_kind _ _) (Bld.one rfl rfl (by rw [Term.len]; decide) (Term.set_name _ _) Bld.nil))) rfl) ?_)
 replace S := S.nilTm
 refine wl_lits (C := Term.C) (l := [(⟨1, (⟨#[120]⟩ : ByteArray), ByteArray.empty, 0, SlV.nil⟩ : Term)]) (vs := [.agg (Term.C (⟨1, (⟨#[120]⟩ : ByteArray), ByteArray.empty, 0, SlV.nil⟩ : Term)).toArray]) sl_L_api_Term el_Term.zero rfl rfl (fun a _ => Term.len a) (by decide) rfl (by decide) fun b22 w21 s23 hBw21 hw21 => ?_
 replace S := ((S.lit hBw21 hw21 (by simp)).bigTm).consTm (x := (⟨1, (⟨#[120]⟩ : ByteArray), ByteArray.empty, 0, []⟩ : PTerm)) 0
 replace S := (S.frzTm 0 0).zs [0, 2, 3, 4]
 refine wd (Does.to (v' := .agg (Term.C (⟨2, (⟨#[120]⟩ : ByteArray), ByteArray.empty, 0, s23⟩ : Term)).toArray) (does_buildv (vs := [(0, .int .i64 2), (1, .string (⟨#[120]⟩ : ByteArray)), (4, s23.v)]) bu_Term (consP rfl (consP rfl (consP rfl rfl))) (Bld.one rfl rfl (by rw [Term.len]; decide) (Term.set_kind _ _) (Bld.one rfl rfl (by rw [Term.len]; decide) (Term.set_name _ _) (Bld.one rfl (SlV.one _ _ rfl) (by rw [Term.len]; decide) (Term.set_sub _ _) Bld.nil)))) rfl) (wd (does_mv_i rfl) ?_)
 replace S := S.nilZ 2 Hyp.C
 obtain ⟨r24, er24, H⟩ := bind_ex H
 obtain ⟨B26, MB26, SB26, back⟩ := S.calln 1 ((.z 0 rfl (.z 1 rfl (.z 3 rfl .nil))))
 refine wl_call (does_callg ca_hilbert_Compile (cons2 rfl (cons2 SlV.nil_eq (cons2 rfl (cons2 rfl rfl))))) (by decide) (hilbert_Compile_st (a2 := (⟨2, (⟨#[120]⟩ : ByteArray), ByteArray.empty, 0, [(⟨1, (⟨#[120]⟩ : ByteArray), ByteArray.empty, 0, []⟩ : PTerm)]⟩ : PTerm)) SB26 er24) ?_
 rintro _ w25 ⟨s27, rfl, S2⟩
 replace S := back _ _ _ _ S2 rfl
 clear back S2 SB26
 refine wd (does_mv_t rfl) (wd (does_extract rfl rfl) (wd (does_extract rfl rfl) (wd (does_as_l rfl) (wd (does_as_i rfl) (wl_nil (wc_seq (wc_region ?_)))))))
 refine wd (does_mv_p rfl) (wd (does_mv_l rfl) ?_)
 replace S := S.nilZ 1 IC
 obtain ⟨r28, er28, H⟩ := bind_ex H
 obtain ⟨B30, MB30, SB30, back⟩ := S.calln 1 ((.z 0 rfl (.s 1 rfl .nil)))
 refine wl_call (does_callg ca_hilbert_Tells (cons2 rfl (cons2 SlV.nil_eq (cons2 rfl rfl)))) (by decide) (hilbert_Tells_st SB30 er28) ?_
 rintro _ w29 ⟨rfl, S2⟩
 replace S := back _ _ _ _ S2 rfl
 clear back S2 SB30
 refine wd (does_mv_t rfl) (wd (does_extract rfl rfl) (wd (does_extract rfl rfl) (wd (does_as_i rfl) (wd (does_as_i rfl) (wl_nil (wc_seq (wc_region ?_)))))))
 refine wd (does_mv_p rfl) (wd (does_mv_i rfl) ?_)
 refine wl_lits (C := IC) (l := [r5.2.1]) (vs := [.int .i64 r5.2.1]) sl_L_int el_int.zero rfl rfl (fun _ _ => rfl) (by decide) rfl (by decide) fun b32 w31 s33 hBw31 hw31 => ?_
 replace S := S.lit hBw31 hw31 (by simp)
 refine wd (does_mv_i rfl) (wd (does_build bu_Ln (Bld.one rfl rfl (by rw [Ln.len]; decide) (Ln.set_kind _ _) (Bld.one rfl rfl (by rw [Ln.len]; decide) (Ln.set_form _ _) Bld.nil))) ?_)
 refine wl_lits (C := Ln.C) (l := [{ Ln.z with kind := 10, form := r5.2.1 }]) (vs := [.agg (Ln.C ({ Ln.z with kind := 10, form := r5.2.1 })).toArray]) sl_L_api_Line el_Ln.zero rfl rfl (fun a _ => Ln.len a) (by decide) rfl (by decide) fun b35 w34 s36 hBw34 hw34 => ?_
 replace S := S.lit hBw34 hw34 (by simp)
 obtain ⟨r37, er37, H⟩ := bind_ex H
 replace S := (S.frzS 1).frzS 0
 obtain ⟨B39, MB39, SB39, back⟩ := S.sub [1, 0, 7] [oT a4 r28.1] [oS T_Ln 4 Ln.C s27 r24.2.1, oS T_Ln 4 Ln.C s20 r17.2.1, oS T_Ln 4 Ln.C s16 ([{ Ln.z with kind := 10, form := r5.2.1 }]), oS T_int 1 IC s13 ([r5.2.1])]
 refine wl_call (does_call ca_hilbert_Term) (by decide) (hilbert_Term_st SB39 er37) ?_
 rintro _ w38 ⟨s40, rfl, S2⟩
 replace S := back _ _ _ _ _ S2 rfl rfl
 clear back S2 SB39
 refine wd (does_mv_t rfl) (wd (does_extract rfl rfl) (wd (does_extract rfl rfl) ?_))
 refine wl_alloc ze_Term (by decide) fun b42 w41 hw41 => ?_
 replace S := S.new hw41
 refine wl_store_agg ag_Term rfl rfl (S.blk 0) (Term.len _) (by rw [Term.len]; decide) (Term.one _) (store_all (Term.len _)) fun w43 B hw43 zw43 => ?_
 replace S := S.store 0 B hw43
 clear B
 refine wd (does_as_i rfl) (wl_nil (wc_seq (wc_seq (wc_region (wd (does_mv_l rfl) (wd (does_lenR sl_L_api_Line rfl (S.rdO 3)) (wd (does_ne rfl rfl) (wl_nil ?_))))))))
 refine wc_if rfl (fun hc44 => ?_) (fun hc44 => ?_)
 ·replace H := if_t hc44 H
  refine wc_seq (wc_region (wd (does_as_b rfl) (wl_nil (wc_ret ?_))))
  refine ⟨_, (rets1 (retOne_tmp rfl)), ?_⟩
  replace S := S.arr [] []
  obtain rfl := Option.some.inj H
  exact ⟨rfl, S⟩
 replace H := if_f hc44 H
 refine wc_skip (wc_seq (wc_region (wd (does_mv_p rfl) (wd (does_mv_l rfl) ?_))))
 obtain ⟨hi45, H⟩ := chk_ex H
 refine wd (does_indexR sl_L_api_Line rfl rfl (S.rdO 3) (inb_ex hi45).1 (inb_ex hi45).2) (wd (does_fieldAddr fl_Ln_form rfl (o' := _) rfl) (wd (does_load on_int rfl (((S.rdO 3).at (at_some Ln.z (inb_ex hi45))).get (Ln.get_form _))) ?_))
 obtain ⟨r46, er46, H⟩ := bind_ex H
 replace S := S.front 1
 obtain ⟨B48, MB48, SB48, back⟩ := S.calln 1 ((.nil))
 refine wl_call (does_call ca_hilbert_Is) (by decide) (hilbert_Is_st SB48 er46) ?_
 rintro _ w47 ⟨rfl, S2⟩
 replace S := back _ _ _ _ S2 rfl
 clear back S2 SB48
 refine wd (does_mv_t rfl) (wd (does_extract rfl rfl) (wd (does_extract rfl rfl) (wd (does_as_b rfl) (wd (does_as_i rfl) (wl_nil (wc_seq (wc_region ?_)))))))
 refine wd (Does.to (v' := .agg (Term.C (⟨1, (⟨#[104, 48]⟩ : ByteArray), ByteArray.empty, 0, SlV.nil⟩ : Term)).toArray) (does_buildv (vs := [(0, .int .i64 1), (1, .string (⟨#[104, 48]⟩ : ByteArray))]) bu_Term (consP rfl (consP rfl rfl)) (Bld.one rfl rfl (by rw [Term.len]; decide) (Term.set_kind _ _) (Bld.one rfl rfl (by rw [Term.len]; decide) (Term.set_name _ _) Bld.nil))) rfl) (wd (Does.to (v' := .agg (Term.C (⟨1, (⟨#[108, 48]⟩ : ByteArray), ByteArray.empty, 0, SlV.nil⟩ : Term)).toArray) (does_buildv (vs := [(0, .int .i64 1), (1, .string (⟨#[108, 48]⟩ : ByteArray))]) bu_Term (consP rfl (consP rfl rfl)) (Bld.one rfl rfl (by rw [Term.len]; decide) (Term.set_kind _ _) (Bld.one rfl rfl (by rw [Term.len]; decide) (Term.set_name _ _) Bld.nil))) rfl) ?_)
 replace S := S.nilTm.nilTm
 refine wl_lits (C := Term.C) (l := [(⟨1, (⟨#[104, 48]⟩ : ByteArray), ByteArray.empty, 0, SlV.nil⟩ : Term), (⟨1, (⟨#[108, 48]⟩ : ByteArray), ByteArray.empty, 0, SlV.nil⟩ : Term)]) (vs := [.agg (Term.C (⟨1, (⟨#[104, 48]⟩ : ByteArray), ByteArray.empty, 0, SlV.nil⟩ : Term)).toArray, .agg (Term.C (⟨1, (⟨#[108, 48]⟩ : ByteArray), ByteArray.empty, 0, SlV.nil⟩ : Term)).toArray]) sl_L_api_Term el_Term.zero rfl rfl (fun a _ => Term.len a) (by decide) rfl (by decide) fun b50 w49 s51 hBw49 hw49 => ?_
 replace S := ((S.lit hBw49 hw49 (by simp)).bigTm).consTm (x := (⟨1, (⟨#[108, 48]⟩ : ByteArray), ByteArray.empty, 0, []⟩ : PTerm)) 0
 replace S := ((S.consTm (x := (⟨1, (⟨#[104, 48]⟩ : ByteArray), ByteArray.empty, 0, []⟩ : PTerm)) 1).frzTm 0 0).zs [0, 2, 3, 4, 5, 6, 7, 8, 9, 10, 11, 12]
 refine wd (Does.to (v' := .agg (Term.C (⟨12, (⟨#[108, 48]⟩ : ByteArray), ByteArray.empty, 0, s51⟩ : Term)).toArray) (does_buildv (vs := [(0, .int .i64 12), (1, .string (⟨#[108, 48]⟩ : ByteArray)), (4, s51.v)]) bu_Term (consP rfl (consP rfl (consP rfl rfl))) (Bld.one rfl rfl (by rw [Term.len]; decide) (Term.set_kind _ _) (Bld.one rfl rfl (by rw [Term.len]; decide) (Term.set_name _ _) (Bld.one rfl (SlV.one _ _ rfl) (by rw [Term.len]; decide) (Term.set_sub _ _) Bld.nil)))) rfl) ?_
 refine wl_alloc ze_Term (by decide) fun b53 w52 hw52 => ?_
 replace S := S.new hw52
 refine wl_store_agg ag_Term rfl rfl (S.blk 0) (Term.len _) (by rw [Term.len]; decide) (Term.one _) (store_all (Term.len _)) fun w54 B hw54 zw54 => ?_
 replace S := S.store 0 B hw54
 clear B
 refine wl_nil (wc_seq (wc_region (wd (does_mv_i rfl) ?_)))
 obtain ⟨r55, er55, H⟩ := bind_ex H
 obtain ⟨B57, MB57, SB57, back⟩ := S.calln 0 ((.nil))
 refine wl_call (does_call ca_law16_num) (by decide) (law16_num_st SB57 er55) ?_
 rintro _ w56 ⟨rfl, S2⟩
 replace S := back _ _ _ _ S2 rfl
 clear back S2 SB57
 refine wd (does_eq rfl rfl) (wd (does_mv_b rfl) ?_)
 refine wg (fun hg => does_mv_i rfl) ?_
 obtain ⟨r58, er58, H⟩ := bind_ex H
 refine wl_gcall (j := 3) (pol := true) rfl rfl rfl (by decide) (fun hg => does_callg ca_law16_num (cons2 (gv_yes hg) rfl)) (by decide) (fun hg => (have ⟨M, SS⟩ := S.lend ((.nil)); quiet (law16_num_st SS (if_t (by simpa using hg) er58)) (fun v w' h => ⟨h.1, _, _, h.2⟩))) fun w59 hw59 => ?_
 replace S := S.ext hw59
 refine wg (fun hg => does_eq (gv_yes hg) rfl) (wd (does_and rfl (fun hp => (gv_yes (and_1 hp)))) (wd (does_mv_b rfl) ?_))
 refine wg (fun hg => does_mv_l rfl) ?_
 refine wg (fun hg => does_mv_l rfl) ?_
 obtain ⟨r60, er60, H⟩ := bind_ex H
 refine wl_gcall (j := 8) (pol := true) rfl rfl rfl (by decide) (fun hg => does_callg ca_ref16_Lines (cons2 (gv_yes hg) (cons2 (gv_yes hg) rfl))) (by decide) (fun hg => (have ⟨M, SS⟩ := S.lend ((.s 4 rfl (.s 3 rfl .nil))); quiet (ref16_Lines_st SS (if_t (by simpa using hg) er60)) (fun v w' h => ⟨h.1, _, _, h.2⟩))) fun w61 hw61 => ?_
 replace S := S.ext hw61
 refine wd (does_and rfl (fun hp => (gv_yes (and_1 hp)))) (wd (does_mv_b rfl) ?_)
 refine wg (fun hg => does_mv_i rfl) ?_
 obtain ⟨r62, er62, H⟩ := bind_ex H
 refine wl_gcall (j := 13) (pol := true) rfl rfl rfl (by decide) (fun hg => does_callg ca_law16_num (cons2 (gv_yes hg) rfl)) (by decide) (fun hg => (have ⟨M, SS⟩ := S.lend ((.nil)); quiet (law16_num_st SS (if_t (by simpa using hg) er62)) (fun v w' h => ⟨h.1, _, _, h.2⟩))) fun w63 hw63 => ?_
 replace S := S.ext hw63
 refine wg (fun hg => does_eq (gv_yes hg) rfl) (wd (does_and rfl (fun hp => (gv_yes (and_1 hp)))) (wd (does_mv_b rfl) ?_))
 refine wg (fun hg => does_mv_i rfl) ?_
 refine wg (fun hg => does_mv_i rfl) ?_
 refine wg (fun hg => does_eq (gv_yes hg) (gv_yes hg)) (wd (does_and rfl (fun hp => (gv_yes (and_1 hp)))) (wd (does_mv_b rfl) ?_))
 refine wg (fun hg => does_mv_i rfl) ?_
 obtain ⟨r64, er64, H⟩ := bind_ex H
 refine wl_gcall (j := 23) (pol := true) rfl rfl rfl (by decide) (fun hg => does_callg ca_law16_num (cons2 (gv_yes hg) rfl)) (by decide) (fun hg => (have ⟨M, SS⟩ := S.lend ((.nil)); quiet (law16_num_st SS (if_t (by simpa using hg) er64)) (fun v w' h => ⟨h.1, _, _, h.2⟩))) fun w65 hw65 => ?_
 replace S := S.ext hw65
 refine wg (fun hg => does_eq (gv_yes hg) rfl) (wd (does_and rfl (fun hp => (gv_yes (and_1 hp)))) (wd (does_mv_b rfl) ?_))
 refine wg (fun hg => does_load_agg ag_Term rfl ((S.blk 2).all _ (Term.len _)) (Term.len _)) ?_
 refine wg (fun hg => does_load_agg ag_Term rfl ((S.blk 0).all _ (Term.len _)) (Term.len _)) ?_
 obtain ⟨r66, er66, H⟩ := bind_ex H
 refine wl_gcall (j := 28) (pol := true) rfl rfl rfl (by decide) (fun hg => does_callg ca_ref12_Same (cons2 (gv_yes hg) (cons2 (gv_yes hg) rfl))) (by decide) (fun hg => (have ⟨M, SS⟩ := S.lend ((.z 3 rfl (.z 0 rfl .nil))); quiet (ref12_Same_st (a0 := r37.2.1) (a1 := (⟨12, (⟨#[108, 48]⟩ : ByteArray), ByteArray.empty, 0, [(⟨1, (⟨#[104, 48]⟩ : ByteArray), ByteArray.empty, 0, []⟩ : PTerm), (⟨1, (⟨#[108, 48]⟩ : ByteArray), ByteArray.empty, 0, []⟩ : PTerm)]⟩ : PTerm)) SS (if_t (by simpa using hg) er66)) (fun v w' h => ⟨h.1, _, _, h.2⟩))) fun w67 hw67 => ?_
 replace S := S.ext hw67
 refine wd (does_and rfl (fun hp => (gv_yes (and_1 hp)))) (wd (does_mv_b rfl) ?_)
 refine wg (fun hg => does_mv_i rfl) ?_
 obtain ⟨r68, er68, H⟩ := bind_ex H
 refine wl_gcall (j := 33) (pol := true) rfl rfl rfl (by decide) (fun hg => does_callg ca_law16_num (cons2 (gv_yes hg) rfl)) (by decide) (fun hg => (have ⟨M, SS⟩ := S.lend ((.nil)); quiet (law16_num_st SS (if_t (by simpa using hg) er68)) (fun v w' h => ⟨h.1, _, _, h.2⟩))) fun w69 hw69 => ?_
 replace S := S.ext hw69
 refine wg (fun hg => does_eq (gv_yes hg) rfl) (wd (does_and rfl (fun hp => (gv_yes (and_1 hp)))) (wd (does_mv_b rfl) ?_))
 refine wg (fun hg => does_mv_b rfl) (wd (does_and rfl (fun hp => (gv_yes (and_1 hp)))) (wd (does_mv_b rfl) ?_))
 refine wg (fun hg => does_mv_p rfl) ?_
 replace S := (S.nilZ 1 IC).nilZ 4 Ln.C
 obtain ⟨r70, er70, H⟩ := bind_ex H
 replace S := S.front 1
 obtain ⟨B72, MB72, SB72, back⟩ := S.calln 1 ((.z 1 rfl (.z 0 rfl .nil)))
 refine wl_gturn (R := fun W => St A N w W [oT a4 r70.1, oB b53 T_Term (Term.C (⟨12, (⟨#[108, 48]⟩ : ByteArray), ByteArray.empty, 0, s51⟩ : Term)), oB b42 T_Term (Term.C (⟨r37.2.1.kind, r37.2.1.name, r37.2.1.other, r37.2.1.form, s40⟩ : Term)), oS T_Ln 4 Ln.C s27 r24.2.1, oS T_Ln 4 Ln.C s20 r17.2.1, oS T_Ln 4 Ln.C s16 ([{ Ln.z with kind := 10, form := r5.2.1 }]), oS T_int 1 IC s13 ([r5.2.1])] [fS 4 Ln.C SlV.nil ([]), fS 1 IC SlV.nil ([]), oDTerm s51 ([(⟨1, (⟨#[104, 48]⟩ : ByteArray), ByteArray.empty, 0, []⟩ : PTerm), (⟨1, (⟨#[108, 48]⟩ : ByteArray), ByteArray.empty, 0, []⟩ : PTerm)]), oDTerm SlV.nil ([]), oDTerm SlV.nil ([]), oDTerm s40 r37.2.1.sub, fS 4 Ln.C s36 ([{ Ln.z with kind := 10, form := r5.2.1 }]), fS 1 IC s33 ([r5.2.1]), fS 1 IC SlV.nil ([]), fS 2 Hyp.C SlV.nil ([]), oDTerm s23 ([(⟨1, (⟨#[120]⟩ : ByteArray), ByteArray.empty, 0, []⟩ : PTerm)]), oDTerm SlV.nil ([]), oEt, oPw]) (j := 41) (pol := true) rfl rfl rfl (by decide) (fun hg => does_callg ca_hilbert_Check (cons2 (gv_yes hg) (cons2 SlV.nil_eq (cons2 SlV.nil_eq rfl)))) (by decide) (fun hg => calls_mono (hilbert_Check_st SB72 (if_t (by simpa using hg) er70)) fun _ _ ⟨hv, S2⟩ => ⟨hv, back _ _ _ _ S2 rfl⟩) (fun hg => by obtain rfl := Option.some.inj (if_f (by simpa using hg) er70); exact S) fun w71 S2 => ?_
 replace S : St A N w w71 [oT a4 r70.1, oB b53 T_Term (Term.C (⟨12, (⟨#[108, 48]⟩ : ByteArray), ByteArray.empty, 0, s51⟩ : Term)), oB b42 T_Term (Term.C (⟨r37.2.1.kind, r37.2.1.name, r37.2.1.other, r37.2.1.form, s40⟩ : Term)), oS T_Ln 4 Ln.C s27 r24.2.1, oS T_Ln 4 Ln.C s20 r17.2.1, oS T_Ln 4 Ln.C s16 ([{ Ln.z with kind := 10, form := r5.2.1 }]), oS T_int 1 IC s13 ([r5.2.1])] [fS 4 Ln.C SlV.nil ([]), fS 1 IC SlV.nil ([]), oDTerm s51 ([(⟨1, (⟨#[104, 48]⟩ : ByteArray), ByteArray.empty, 0, []⟩ : PTerm), (⟨1, (⟨#[108, 48]⟩ : ByteArray), ByteArray.empty, 0, []⟩ : PTerm)]), oDTerm SlV.nil ([]), oDTerm SlV.nil ([]), oDTerm s40 r37.2.1.sub, fS 4 Ln.C s36 ([{ Ln.z with kind := 10, form := r5.2.1 }]), fS 1 IC s33 ([r5.2.1]), fS 1 IC SlV.nil ([]), fS 2 Hyp.C SlV.nil ([]), oDTerm s23 ([(⟨1, (⟨#[120]⟩ : ByteArray), ByteArray.empty, 0, []⟩ : PTerm)]), oDTerm SlV.nil ([]), oEt, oPw] := S2
 clear back S2 SB72
 obtain ⟨r73, er73, H⟩ := bind_ex H
 refine wl_gcall (j := 41) (pol := true) rfl rfl rfl (by decide) (fun hg => does_callg ca_law16_num (cons2 (gv_yes hg) rfl)) (by decide) (fun hg => (have ⟨M, SS⟩ := S.lend ((.nil)); quiet (law16_num_st SS (if_t (by simpa using hg) er73)) (fun v w' h => ⟨h.1, _, _, h.2⟩))) fun w74 hw74 => ?_
 replace S := S.ext hw74
 refine wg (fun hg => does_eq (gv_yes hg) rfl) (wd (does_and rfl (fun hp => (gv_yes (and_1 hp)))) (wd (does_as_b rfl) (wl_nil (wc_ret ?_))))
 refine ⟨_, (rets1 (retOne_tmp rfl)), ?_⟩
 replace S := S.arr [] []
 obtain rfl := Option.some.inj H
 exact ⟨rfl, S⟩
end Go.Proofs.YtflieamjacclnaaGreatDoor
end
section
namespace Go.Proofs.YtflieamjacclnaaGreatDoor
open Gw Go.RowKit
set_option maxHeartbeats 4000000
set_option maxRecDepth 20000
theorem law16_nobody_st {A : Nat → Prop} {N : Oth} {w : World} {a0 : Tb} {a_0 : Option Addr} {a1 : Int} {a2 : List Ln} {s_2 : SlV} {a3 : PTerm} {s_3 : SlV} (S : St A N w w [oT a_0 a0] [fS 4 Ln.C s_2 a2, oDTerm s_3 a3.sub, oEt, oPw]) {k : Nat} {r : Tb × Bool} (H : law16_nobody.f k a0 a1 a2 a3 = some r) :
  Calls PP F_law16_nobody #[.pointer a_0, .int .i64 a1, s_2.v, .agg (Term.C (⟨a3.kind, a3.name, a3.other, a3.form, s_3⟩ : Term)).toArray] w fun e w' => ∃ v, e = .returned v ∧ (v = .bool r.2 ∧ St A N w w' [oT a_0 r.1] []) := by
 unfold law16_nobody.f at H
 refine calls_of_wc (n := 103) fn_law16_nobody rfl rfl (by simp) (wc_seq (wc_region ?_))
 refine wl_box_agg rfl (by decide) fun b2 w1 hw1 => ?_
 replace S := S.new hw1
 refine wd (does_as_b rfl) (wl_nil (wc_seq (wc_region (wd (does_mv_p rfl) (wd (does_mv_i rfl) ?_)))))
 obtain ⟨r3, er3, H⟩ := bind_ex H
 replace S := S.front 1
 obtain ⟨B5, MB5, SB5, back⟩ := S.calln 1 ((.nil))
 refine wl_call (does_call ca_hilbert_Is) (by decide) (hilbert_Is_st SB5 er3) ?_
 rintro _ w4 ⟨rfl, S2⟩
 replace S := back _ _ _ _ S2 rfl
 clear back S2 SB5
 refine wd (does_mv_t rfl) (wd (does_extract rfl rfl) (wd (does_extract rfl rfl) (wd (does_as_b rfl) (wd (does_as_i rfl) (wl_nil (wc_seq (wc_region ?_)))))))
 refine wd (does_mv_p rfl) (wd (does_mv_l rfl) ?_)
 replace S := S.nilZ 1 IC
 obtain ⟨r6, er6, H⟩ := bind_ex H
 obtain ⟨B8, MB8, SB8, back⟩ := S.calln 1 ((.z 0 rfl (.z 1 rfl .nil)))
 refine wl_call (does_callg ca_hilbert_Tells (cons2 rfl (cons2 SlV.nil_eq (cons2 rfl rfl)))) (by decide) (hilbert_Tells_st SB8 er6) ?_
 rintro _ w7 ⟨rfl, S2⟩
 replace S := back _ _ _ _ S2 rfl
 clear back S2 SB8
 refine wd (does_mv_t rfl) (wd (does_extract rfl rfl) (wd (does_extract rfl rfl) (wd (does_as_i rfl) (wd (does_as_i rfl) (wl_nil (wc_seq (wc_region ?_)))))))
 refine wd (does_mv_p rfl) (wd (does_mv_l rfl) (wd (does_mv_i rfl) ?_))
 replace S := S.nilZ 1 IC
 obtain ⟨r9, er9, H⟩ := bind_ex H
 obtain ⟨B11, MB11, SB11, back⟩ := S.calln 1 ((.z 0 rfl (.z 2 rfl .nil)))
 refine wl_call (does_callg ca_hilbert_Deduce (cons2 rfl (cons2 SlV.nil_eq (cons2 rfl (cons2 rfl rfl))))) (by decide) (hilbert_Deduce_st SB11 er9) ?_
 rintro _ w10 ⟨s12, rfl, S2⟩
 replace S := back _ _ _ _ S2 rfl
 clear back S2 SB11
 refine wd (does_mv_t rfl) (wd (does_extract rfl rfl) (wd (does_extract rfl rfl) (wd (does_as_l rfl) (wd (does_as_i rfl) (wl_nil (wc_seq (wc_region ?_)))))))
 refine wd (does_mv_p rfl) (wd (does_load_agg ag_Term rfl ((S.blk 2).all _ (Term.len _)) (Term.len _)) (wd (does_mv_i rfl) ?_))
 replace S := S.nilZ 2 Hyp.C
 obtain ⟨r13, er13, H⟩ := bind_ex H
 obtain ⟨B15, MB15, SB15, back⟩ := S.calln 1 ((.z 0 rfl (.z 4 rfl (.z 5 rfl .nil))))
 refine wl_call (does_callg ca_hilbert_Compile (cons2 rfl (cons2 SlV.nil_eq (cons2 rfl (cons2 rfl rfl))))) (by decide) (hilbert_Compile_st (a2 := a3) SB15 er13) ?_
 rintro _ w14 ⟨s16, rfl, S2⟩
 replace S := back _ _ _ _ S2 rfl
 clear back S2 SB15
 refine wd (does_mv_t rfl) (wd (does_extract rfl rfl) (wd (does_extract rfl rfl) (wd (does_as_l rfl) (wd (does_as_i rfl) (wl_nil (wc_seq (wc_region ?_)))))))
 refine wd (does_mv_p rfl) (wd (does_mv_l rfl) ?_)
 replace S := S.nilZ 1 IC
 obtain ⟨r17, er17, H⟩ := bind_ex H
 obtain ⟨B19, MB19, SB19, back⟩ := S.sub [0, 4, 7] [oT a_0 r13.1] [oS T_Ln 4 Ln.C s16 r13.2.1, oS T_Ln 4 Ln.C s12 r9.2.1, oB b2 T_Term (Term.C (⟨a3.kind, a3.name, a3.other, a3.form, s_3⟩ : Term))]
 refine wl_call (does_callg ca_hilbert_Term (cons2 rfl (cons2 SlV.nil_eq (cons2 rfl rfl)))) (by decide) (hilbert_Term_st SB19 er17) ?_
 rintro _ w18 ⟨s20, rfl, S2⟩
 replace S := back _ _ _ _ _ S2 rfl rfl
 clear back S2 SB19
 refine wd (does_mv_t rfl) (wd (does_extract rfl rfl) (wd (does_extract rfl rfl) ?_))
 refine wl_alloc ze_Term (by decide) fun b22 w21 hw21 => ?_
 replace S := S.new hw21
 refine wl_store_agg ag_Term rfl rfl (S.blk 0) (Term.len _) (by rw [Term.len]; decide) (Term.one _) (store_all (Term.len _)) fun w23 B hw23 zw23 => ?_
 replace S := S.store 0 B hw23
 clear B
 refine wd (does_as_i rfl) (wl_nil (wc_seq (wc_region (wd (does_as_i rfl) (wl_nil (wc_seq (wc_region ?_)))))))
 refine wd (does_mv_b rfl) (wd (does_not rfl) (wd (does_mv_b rfl) ?_))
 refine wg (fun hg => does_mv_i rfl) ?_
 refine wg (fun hg => does_mv_i rfl) ?_
 refine wg (fun hg => does_eq (gv_yes hg) (gv_yes hg)) (wd (does_and rfl (fun hp => (gv_yes (and_1 hp)))) (wd (does_mv_b rfl) ?_))
 refine wg (fun hg => does_mv_i rfl) ?_
 refine wg (fun hg => does_eq (gv_yes hg) rfl) (wd (does_and rfl (fun hp => (gv_yes (and_1 hp)))) (wd (does_mv_b rfl) ?_))
 refine wg (fun hg => does_mv_i rfl) ?_
 refine wg (fun hg => does_mv_i rfl) ?_
 refine wg (fun hg => does_eq (gv_yes hg) (gv_yes hg)) (wd (does_and rfl (fun hp => (gv_yes (and_1 hp)))) (wd (does_mv_b rfl) ?_))
 refine wg (fun hg => does_mv_l rfl) ?_
 refine wg (fun hg => does_lenR sl_L_api_Line (gv_yes hg) (S.rdO 3)) ?_
 refine wg (fun hg => does_mv_l rfl) ?_
 refine wg (fun hg => does_lenR sl_L_api_Line (gv_yes hg) (S.rdO 2)) ?_
 refine wg (fun hg => does_add (gv_yes hg) (gv_yes hg)) ?_
 refine wg (fun hg => does_eq (gv_yes hg) rfl) (wd (does_and rfl (fun hp => (gv_yes (and_1 hp)))) (wd (does_mv_b rfl) ?_))
 refine wg (fun hg => does_mv_i rfl) ?_
 refine wg (fun hg => does_mv_i rfl) ?_
 refine wg (fun hg => does_eq (gv_yes hg) (gv_yes hg)) (wd (does_and rfl (fun hp => (gv_yes (and_1 hp)))) (wd (does_mv_b rfl) ?_))
 refine wg (fun hg => does_mv_i rfl) ?_
 refine wg (fun hg => does_mv_i rfl) ?_
 refine wg (fun hg => does_eq (gv_yes hg) (gv_yes hg)) (wd (does_and rfl (fun hp => (gv_yes (and_1 hp)))) (wd (does_mv_b rfl) ?_))
 refine wg (fun hg => does_load_agg ag_Term rfl ((S.blk 0).all _ (Term.len _)) (Term.len _)) ?_
 refine wg (fun hg => Does.to (v' := .agg (Term.C (⟨0, ByteArray.empty, ByteArray.empty, 0, SlV.nil⟩ : Term)).toArray) (does_buildv (vs := []) bu_Term rfl Bld.nil) rfl) ?_
 replace S := S.nilTm
 obtain ⟨r24, er24, H⟩ := bind_ex H
 refine wl_gcall (j := 34) (pol := true) rfl rfl rfl (by decide) (fun hg => does_callg ca_ref12_Same (cons2 (gv_yes hg) (cons2 (gv_yes hg) rfl))) (by decide) (fun hg => (have ⟨M, SS⟩ := S.lend ((.z 1 rfl (.z 0 rfl .nil))); quiet (ref12_Same_st (a0 := r17.2.1) (a1 := (⟨0, ByteArray.empty, ByteArray.empty, 0, []⟩ : PTerm)) SS (if_t (by simpa using hg) er24)) (fun v w' h => ⟨h.1, _, _, h.2⟩))) fun w25 hw25 => ?_
 replace S := S.ext hw25
 refine wd (does_and rfl (fun hp => (gv_yes (and_1 hp)))) (wd (does_mv_b rfl) ?_)
 refine wg (fun hg => does_mv_i rfl) ?_
 refine wg (fun hg => does_mv_i rfl) ?_
 refine wg (fun hg => does_eq (gv_yes hg) (gv_yes hg)) (wd (does_and rfl (fun hp => (gv_yes (and_1 hp)))) (wd (does_mv_b rfl) ?_))
 refine wg (fun hg => does_mv_p rfl) ?_
 refine wg (fun hg => does_mv_l rfl) ?_
 replace S := S.nilZ 1 IC
 obtain ⟨r26, er26, H⟩ := bind_ex H
 replace S := S.front 1
 obtain ⟨B28, MB28, SB28, back⟩ := S.calln 1 ((.z 0 rfl (.z 7 rfl .nil)))
 refine wl_gturn (R := fun W => St A N w W [oT a_0 r26.1, oB b22 T_Term (Term.C (⟨r17.2.1.kind, r17.2.1.name, r17.2.1.other, r17.2.1.form, s20⟩ : Term)), oS T_Ln 4 Ln.C s16 r13.2.1, oS T_Ln 4 Ln.C s12 r9.2.1, oB b2 T_Term (Term.C (⟨a3.kind, a3.name, a3.other, a3.form, s_3⟩ : Term))] [fS 1 IC SlV.nil ([]), oDTerm SlV.nil ([]), oDTerm s20 r17.2.1.sub, fS 1 IC SlV.nil ([]), fS 2 Hyp.C SlV.nil ([]), fS 1 IC SlV.nil ([]), fS 1 IC SlV.nil ([]), fS 4 Ln.C s_2 a2, oDTerm s_3 a3.sub, oEt, oPw]) (j := 44) (pol := true) rfl rfl rfl (by decide) (fun hg => does_callg ca_hilbert_Check (cons2 (gv_yes hg) (cons2 SlV.nil_eq (cons2 (gv_yes hg) rfl)))) (by decide) (fun hg => calls_mono (hilbert_Check_st SB28 (if_t (by simpa using hg) er26)) fun _ _ ⟨hv, S2⟩ => ⟨hv, back _ _ _ _ S2 rfl⟩) (fun hg => by obtain rfl := Option.some.inj (if_f (by simpa using hg) er26); exact S) fun w27 S2 => ?_
 replace S : St A N w w27 [oT a_0 r26.1, oB b22 T_Term (Term.C (⟨r17.2.1.kind, r17.2.1.name, r17.2.1.other, r17.2.1.form, s20⟩ : Term)), oS T_Ln 4 Ln.C s16 r13.2.1, oS T_Ln 4 Ln.C s12 r9.2.1, oB b2 T_Term (Term.C (⟨a3.kind, a3.name, a3.other, a3.form, s_3⟩ : Term))] [fS 1 IC SlV.nil ([]), oDTerm SlV.nil ([]), oDTerm s20 r17.2.1.sub, fS 1 IC SlV.nil ([]), fS 2 Hyp.C SlV.nil ([]), fS 1 IC SlV.nil ([]), fS 1 IC SlV.nil ([]), fS 4 Ln.C s_2 a2, oDTerm s_3 a3.sub, oEt, oPw] := S2
 clear back S2 SB28
 refine wg (fun hg => does_mv_i rfl) ?_
 refine wg (fun hg => does_eq (gv_yes hg) (gv_yes hg)) (wd (does_and rfl (fun hp => (gv_yes (and_1 hp)))) (wd (does_as_b rfl) (wl_nil (wc_ret ?_))))
 refine ⟨_, (rets1 (retOne_tmp rfl)), ?_⟩
 replace S := S.arr [0] []
 obtain rfl := Option.some.inj H
 exact ⟨rfl, S⟩
theorem law16_HilbertNobody_st {A : Nat → Prop} {N : Oth} {w : World} {a0 : Int} {a1 : List Ln} {s_1 : SlV} {a2 : PTerm} {s_2 : SlV} (S : St A N w w [] [fS 4 Ln.C s_1 a1, oDTerm s_2 a2.sub, oEt, oPw]) {k : Nat} {r : Bool} (H : law16_HilbertNobody.f k a0 a1 a2 = some r) :
  Calls PP F_law16_HilbertNobody #[.int .i64 a0, s_1.v, .agg (Term.C (⟨a2.kind, a2.name, a2.other, a2.form, s_2⟩ : Term)).toArray] w fun e w' => ∃ v, e = .returned v ∧ (v = .bool r ∧ St A N w w' [] []) := by
 unfold law16_HilbertNobody.f at H
 refine calls_of_wc (n := 24) fn_law16_HilbertNobody rfl rfl (by simp) (wc_seq (wc_region ?_))
 refine wl_box_agg rfl (by decide) fun b2 w1 hw1 => ?_
 replace S := S.new hw1
 refine wd (does_as_b rfl) (wl_nil (wc_seq (wc_region ?_)))
 replace S := S.add (Ext.refl _) (oT.nil _) (fun _ x => x.elim)
 refine wd (does_as_p rfl) (wl_nil (wc_seq (wc_region (wd (does_mv_p rfl) (wd (does_mv_i rfl) (wd (does_mv_l rfl) ?_))))))
 refine wd (does_load_agg ag_Term rfl ((S.blk 1).all _ (Term.len _)) (Term.len _)) ?_
 obtain ⟨r3, er3, H⟩ := bind_ex H
 obtain ⟨B5, MB5, SB5, back⟩ := S.calln 1 ((.z 0 rfl (.z 1 rfl (.z 2 rfl (.z 3 rfl .nil)))))
 refine wl_call (does_call ca_law16_nobody) (by decide) (law16_nobody_st (a3 := a2) SB5 er3) ?_
 rintro _ w4 ⟨rfl, S2⟩
 replace S := back _ _ _ _ S2 rfl
 clear back S2 SB5
 refine wd (does_mv_b rfl) ?_
 refine wg (fun hg => does_build bu_Tab Bld.nil) ?_
 obtain ⟨hg6, H⟩ := chk_ex H
 refine wl_gon (j := 5) (pol := true) rfl rfl rfl (by decide) (by simpa using hg6) ?_
 refine wl_box_agg (gv_yes (by simpa using hg6)) (by decide) fun b8 w7 hw7 => ?_
 replace S := (S.new hw7).zeroT
 refine wg (fun hg => does_mv_i rfl) ?_
 refine wg (fun hg => does_mv_l rfl) ?_
 refine wg (fun hg => does_load_agg ag_Term rfl ((S.blk 2).all _ (Term.len _)) (Term.len _)) ?_
 obtain ⟨r9, er9, H⟩ := bind_ex H
 obtain ⟨B11, MB11, SB11, back⟩ := S.calln 1 ((.z 0 rfl (.z 1 rfl (.z 2 rfl (.z 3 rfl .nil)))))
 refine wl_gturn (R := fun W => St A N w W [oT (some ⟨b8, 0, none⟩) r9.1, oT none r3.1, oB b2 T_Term (Term.C (⟨a2.kind, a2.name, a2.other, a2.form, s_2⟩ : Term))] [fS 4 Ln.C s_1 a1, oDTerm s_2 a2.sub, oEt, oPw]) (j := 5) (pol := true) rfl rfl rfl (by decide) (fun hg => does_callg ca_law16_nobody (cons2 rfl (cons2 (gv_yes hg) (cons2 (gv_yes hg) (cons2 (gv_yes hg) rfl))))) (by decide) (fun hg => calls_mono (law16_nobody_st (a3 := a2) SB11 (if_t (by simpa using hg) er9)) fun _ _ ⟨hv, S2⟩ => ⟨hv, back _ _ _ _ S2 rfl⟩) (fun hg => by obtain rfl := Option.some.inj (if_f (by simpa using hg) er9); exact S) fun w10 S2 => ?_
 replace S : St A N w w10 [oT (some ⟨b8, 0, none⟩) r9.1, oT none r3.1, oB b2 T_Term (Term.C (⟨a2.kind, a2.name, a2.other, a2.form, s_2⟩ : Term))] [fS 4 Ln.C s_1 a1, oDTerm s_2 a2.sub, oEt, oPw] := S2
 clear back S2 SB11
 refine wd (does_and rfl (fun hp => (gv_yes (and_1 hp)))) (wd (does_mv_b rfl) ?_)
 obtain ⟨r12, er12, H⟩ := bind_ex H
 refine wl_gcall (j := 13) (pol := true) rfl rfl rfl (by decide) (fun hg => does_callg ca_law16_heads rfl) (by decide) (fun hg => (have ⟨M, SS⟩ := S.lend ((.z 2 rfl (.z 3 rfl .nil))); quiet (law16_heads_st SS (if_t (by simpa using hg) er12)) (fun v w' h => ⟨h.1, _, _, h.2⟩))) fun w13 hw13 => ?_
 replace S := S.ext hw13
 refine wd (does_and rfl (fun hp => (gv_yes (and_1 hp)))) (wd (does_as_b rfl) (wl_nil (wc_ret ?_)))
 refine ⟨_, (rets1 (retOne_tmp rfl)), ?_⟩
 replace S := S.arr [] []
 obtain rfl := Option.some.inj H
 exact ⟨rfl, S⟩
end Go.Proofs.YtflieamjacclnaaGreatDoor
end
section
namespace Go.Proofs.YtflieamjacclnaaGreatDoor
open Gw
set_option maxRecDepth 100000
theorem heads16 : law16_heads.f 70000 = some true := by decide +kernel
theorem same16 : ref12_Same.f 70000 (⟨0, ByteArray.empty, ByteArray.empty, 0, []⟩ : PTerm) (⟨0, ByteArray.empty, ByteArray.empty, 0, []⟩ : PTerm) = some true := by decide +kernel
theorem HilbertNobody_true {k : Nat} (hh : law16_heads.f k = some true) (hs : ref12_Same.f k (⟨0, ByteArray.empty, ByteArray.empty, 0, []⟩ : PTerm) (⟨0, ByteArray.empty, ByteArray.empty, 0, []⟩ : PTerm) = some true) (id : Int) (l : List Ln) (x : PTerm) : law16_HilbertNobody.f k id l x = some true := by
 have h0 : ∀ ids, hilbert_has.f none ids = some 1 := fun ids => by simp [hilbert_has.f, formula_Table_Copy.f, chk]
 have h1 : ∀ ids, types_ahead.f k none [] x ids = some ([], 1) := fun ids => by simp [types_ahead.f, formula_Table_Not_neg.f]
 have h2 : ∀ hs, hilbert_Check.f k none hs l = some (none, 1) := fun hs => by simp [hilbert_Check.f, h0]
 have h3 : law16_nobody.f k none id l x = some (none, true) := by
  simp [law16_nobody.f, hilbert_Is.f, hilbert_Tells.f, hilbert_Deduce.f, hilbert_Compile.f, hilbert_Term.f, types_Check.f, types_Where.f, h0, h1, h2, hs, chk, IntKind.wrap_i64]
 unfold law16_HilbertNobody.f
 simp [h3, hh, chk]
end Go.Proofs.YtflieamjacclnaaGreatDoor
end
section
namespace Go.Proofs.YtflieamjacclnaaGreatDoor
open Gw
abbrev nd (M : List Nd) (i : Int) : Nd := (nodeS M i).1
structure Wf (M : List Nd) : Prop where
 len : M.length ≤ 1024
 nodup : M.Nodup
 kind : ∀ i : Int, inb i M.length = true → (nd M i).kind = 1 ∨ (nd M i).kind = 2 ∨ (nd M i).kind = 3 ∨ (nd M i).kind = 4 ∨ (nd M i).kind = 5
 kids : ∀ i : Int, inb i M.length = true → (nd M i).kind = 3 ∨ (nd M i).kind = 4 ∨ (nd M i).kind = 5 → (0 ≤ (nd M i).l ∧ (nd M i).l < i) ∧ 0 ≤ (nd M i).r ∧ (nd M i).r < i
end Go.Proofs.YtflieamjacclnaaGreatDoor
end
section
namespace Go.Proofs.YtflieamjacclnaaGreatDoor
end Go.Proofs.YtflieamjacclnaaGreatDoor
end
section
namespace Go.Proofs.YtflieamjacclnaaGreatDoor
open Gw
-- terms: nodes, levels, what is right
mutual
def depT : PTerm → Nat
 | .mk _ _ _ _ s => 1 + depL s
def depL : List PTerm → Nat
 | [] => 0
 | x :: l => max (depT x) (depL l)
end
def partsS (k : Int) : Int := if k = 1 then 0 else if k = 9 then 3 else if k = 3 ∨ k = 4 ∨ k = 12 then 2 else if k = 2 ∨ k = 5 ∨ k = 6 ∨ k = 7 ∨ k = 8 ∨ k = 10 ∨ k = 11 then 1 else -1
def nodeR (x : PTerm) : Bool :=
 decide (partsS x.kind = x.sub.length) && (if x.kind = 1 ∨ x.kind = 2 ∨ x.kind = 9 ∨ x.kind = 12 then decide (isWord x.name) else decide (x.name = ⟨#[]⟩)) &&
  (if x.kind = 9 then decide (isWord x.other) else decide (x.other = ⟨#[]⟩)) && (if x.kind = 11 then decide (0 ≤ x.form) && decide (x.form < 1024) else decide (x.form = 0))
mutual
def rightT : PTerm → Bool
 | .mk k n o f s => nodeR (.mk k n o f s) && rightL s
def rightL : List PTerm → Bool
 | [] => true
 | x :: l => rightT x && rightL l
end
mutual
def nmT : PTerm → Prop
 | .mk _ n o _ s => n.size < 9223372036854775808 ∧ o.size < 9223372036854775808 ∧ nmL s
def nmL : List PTerm → Prop
 | [] => True
 | x :: l => nmT x ∧ nmL l
end
inductive TR where
 | ok (f : Int)
 | no (c : Int) (way : List Int)
 deriving DecidableEq
namespace TR
def at_ (i : Int) : TR → TR
 | ok f => ok f
 | no c w => no c (i :: w)
def bind (r : TR) (k : Int → TR) : TR := match r with
 | ok f => k f
 | no c w => no c w
def code : TR → Int
 | ok _ => 0
 | no c _ => c
def way : TR → List Int
 | ok _ => []
 | no _ w => w
def form : TR → Int
 | ok f => f
 | no _ _ => 0
end TR
abbrev Sc := List (ByteArray × Int)
def ofK (M : List Nd) (f k : Int) (g : Nd → TR) : TR := if (nd M f).kind = k then g (nd M f) else .no 130 []
def toldS (M : List Nd) (P : Int → Sc → Option Int → TR) (s : Sc) (x : PTerm) : TR :=
 if x.kind = 1 then (match s.find? (fun q => decide (q.1 = x.name)) with | some q => .ok q.2 | none => .no 131 [])
 else if x.kind = 3 then (P 0 s none).bind fun f => ofK M f 5 fun n => (P 1 s (some n.l)).bind fun _ => .ok n.r
 else if x.kind = 5 then (P 0 s none).bind fun f => ofK M f 3 fun n => .ok n.l
 else if x.kind = 6 then (P 0 s none).bind fun f => ofK M f 3 fun n => .ok n.r
 else if x.kind = 11 then (if inb x.form M.length then (P 0 s (some x.form)).bind fun _ => .ok x.form else .no 31 [])
 else if x.kind = 12 then (P 0 s none).bind fun f => P 1 ((x.name, f) :: s) none
 else if x.kind = 9 then (P 0 s none).bind fun f => ofK M f 4 fun n => (P 1 ((x.name, n.l) :: s) none).bind fun a => (P 2 ((x.other, n.r) :: s) none).bind fun b => if a = b then .ok a else .no 130 []
 else .no 132 []
def chkdS (M : List Nd) (P : Int → Sc → Option Int → TR) (s : Sc) (x : PTerm) (id : Int) : TR :=
 if x.kind = 2 then ofK M id 5 fun n => P 0 ((x.name, n.l) :: s) (some n.r)
 else if x.kind = 4 then ofK M id 3 fun n => (P 0 s (some n.l)).bind fun _ => P 1 s (some n.r)
 else if x.kind = 7 then ofK M id 4 fun n => P 0 s (some n.l)
 else if x.kind = 8 then ofK M id 4 fun n => P 0 s (some n.r)
 else if x.kind = 9 then (P 0 s none).bind fun f => ofK M f 4 fun n => (P 1 ((x.name, n.l) :: s) (some id)).bind fun _ => P 2 ((x.other, n.r) :: s) (some id)
 else if x.kind = 10 then (P 0 s none).bind fun f => ofK M f 2 fun _ => .ok id
 else if x.kind = 12 then (P 0 s none).bind fun f => P 1 ((x.name, f) :: s) (some id)
 else (toldS M P s x).bind fun f => if f = id then .ok id else .no 130 []
def tyS (M : List Nd) : Nat → PTerm → Sc → Option Int → TR
 | 0, _, _, _ => .no 132 []
 | k + 1, x, s, want =>
  let P : Int → Sc → Option Int → TR := fun i s' w => (tyS M k (at_ PTerm.z x.sub i) s' w).at_ i
  match want with
  | none => toldS M P s x
  | some id => chkdS M P s x id
end Go.Proofs.YtflieamjacclnaaGreatDoor
end
section
namespace Go.Proofs.YtflieamjacclnaaGreatDoor
open Gw
end Go.Proofs.YtflieamjacclnaaGreatDoor
end
section
namespace Go.Proofs.YtflieamjacclnaaGreatDoor
open Gw
def err : TR → Option (Int × List Int)
 | .ok _ => none
 | .no c w => some (c, w.reverse)
abbrev Tc : Type := PChecker → PTerm → List (ByteArray × Int) → Option (Int × Option (Int × List Int))
abbrev Cc : Type := PChecker → PTerm → List (ByteArray × Int) → Int → Option (Option (Int × List Int))
def Sok (M : List Nd) (s : Sc) : Prop := ∀ q ∈ s, inb q.2 M.length = true
def Tells (M : List Nd) (r : Option (Int × Option (Int × List Int))) (t : TR) : Prop := ∃ i, r = some (i, err t) ∧ ∀ f, t = .ok f → i = f ∧ inb f M.length = true
section
variable {M : List Nd} {x : PTerm} {k : Nat} {T : Tc} {C : Cc}
structure Parts (M : List Nd) (k : Nat) (x : PTerm) (T : Tc) (C : Cc) : Prop where
 told : ∀ i, inb i x.sub.length = true → ∀ s, Sok M s → Tells M (T ⟨some M⟩ (at_ PTerm.z x.sub i) s) (tyS M k (at_ PTerm.z x.sub i) s none)
 chkd : ∀ i, inb i x.sub.length = true → ∀ s, Sok M s → ∀ id, inb id M.length = true → C ⟨some M⟩ (at_ PTerm.z x.sub i) s id = some (err (tyS M k (at_ PTerm.z x.sub i) s (some id)))
end
end Go.Proofs.YtflieamjacclnaaGreatDoor
end
section
namespace Go.Proofs.YtflieamjacclnaaGreatDoor
open Gw
end Go.Proofs.YtflieamjacclnaaGreatDoor
end
section
namespace Go.Proofs.YtflieamjacclnaaGreatDoor
open Gw Go.ChangeShapes Go.WideShapes Go.ChangeAt Go.RowKit
set_option maxRecDepth 100000
theorem ownKnob_none : ownKnob PP.godebug = none := by kernel_rfl
theorem laidOut_PP : laidOutB PP = true := by kernel_rfl
theorem trodAll_stays {H : Type} {enc : TypeId × Value → H} {W W' : World} {sp : Nat → Bool} : ∀ {ts : List TypeId} {vs : List Value} {ds : List (DataW H)} {ps : List MemPlace}, (∀ t ∈ ts, PP.readableRec t = true ∧ t < PP.types.size) →
  DataW.TrodAll enc PP W 0 (fun _ => true) true ts vs ds ps → (∀ p ∈ ps, W.sameAt W' p) → (∀ p ∈ ps, sp p.block = true) → DataW.TrodAll enc PP W' 0 sp true ts vs ds ps
 | [], vs, ds, ps, _, h, _, _ => by
  obtain ⟨rfl, rfl, rfl⟩ := trodAll_nil h
  exact trodAll_mk0
 | t :: ts, vs, ds, ps, hr, h, h1, h2 => by
  obtain ⟨v, vs, d, ds, p, q, rfl, rfl, rfl, h0, h3⟩ := trodAll_cons h
  have ht := hr t (by simp)
  exact trodAll_cons_mk (WideElems.Trod_stays laidOut_PP ht.1 ht.2 h0 (fun x hx => h1 x (by simp [hx])) (fun x hx => h2 x (by simp [hx])))
   (trodAll_stays (fun t ht => hr t (by simp [ht])) h3 (fun x hx => h1 x (by simp [hx])) (fun x hx => h2 x (by simp [hx])))
def oth0 : Oth := ⟨fun _ => False, [], fun _ h => by cases h⟩
section
variable {P : Program} {W : World} {b t : Nat} {k : IntKind} {v : Value}
theorem cell_int (ht : P.underlying t = some (.int k)) (h : Cell.okWide P W .any b t v) : ∃ n, v = .int k n ∧ k.has n := by
 simp only [Cell.okWide, ht] at h
 cases v <;> simp_all [Cell.ok]
theorem int_of (ht : P.underlying t = some (.int k)) (h : Value.okWide P W .any b t v) : ∃ n, v = .int k n ∧ k.has n := by
 unfold Value.okWide at h
 rw [ht] at h
 exact cell_int ht h
end
section
variable {H : Type} {enc : TypeId × Value → H} {P : Program} {W : World} {t : TypeId} {fuel : Nat} {cs : List Value} {x : DataW H × List MemPlace} {sp : Nat → Bool} {hd : Bool} {b0 : Nat}
theorem take_one {l : List Value} {o : Nat} {v : Value} (h : (l.drop o).take 1 = [v]) : l[o]? = some v := by
 have : ((l.drop o).take 1)[0]? = some v := by rw [h]; rfl
 rw [List.getElem?_take] at this
 simpa using this
theorem fld_int {i off ft : Nat} {k : IntKind} (hf : FieldV P t i off ft) (hk : P.underlying ft = some (.int k)) (hc : P.cellsOf ft = 1) (h : DataW.trod enc P W b0 sp hd fuel t cs = some x) : ∃ n, cs[off]? = some (.int k n) := by
 obtain ⟨fs, fd, hu, hi, rfl, rfl⟩ := hf
 obtain ⟨xs, n, _, _, hl, hx, hall⟩ := DataW.trod_struct hu h
 have h1 := hall i fd hi
 have h2 : i < xs.length := by rw [hx]; exact (Array.getElem?_eq_some_iff.1 hi).1
 rw [List.getElem?_eq_getElem h2, hc] at h1
 obtain ⟨n, e, _⟩ := DataW.trod_int hk h1
 exact ⟨n, take_one e⟩
theorem fld_str {i off ft : Nat} (hf : FieldV P t i off ft) (hk : P.underlying ft = some .string) (hc : P.cellsOf ft = 1) (h : DataW.trod enc P W b0 sp hd fuel t cs = some x) : ∃ s : ByteArray, cs[off]? = some (.string s) ∧ s.size ≤ maxLen := by
 obtain ⟨fs, fd, hu, hi, rfl, rfl⟩ := hf
 obtain ⟨xs, n, _, _, hl, hx, hall⟩ := DataW.trod_struct hu h
 have h1 := hall i fd hi
 have h2 : i < xs.length := by rw [hx]; exact (Array.getElem?_eq_some_iff.1 hi).1
 rw [List.getElem?_eq_getElem h2, hc] at h1
 obtain ⟨s, e, _, hs⟩ := DataW.trod_string hk h1
 exact ⟨s, take_one e, hs⟩
theorem slice_of {α : Type} [Inhabited α] {e k : Nat} {C : α → List Value} {Q : α → Prop} {base : Nat} {v : Value} {d : DataW H} {ps : List MemPlace} (ht : P.underlying t = some (.slice e)) (hk : P.cellsOf e = k) (hC : ∀ a, (C a).length = k) (hk0 : 0 < k)
  (hel : ∀ (n : Nat) (cs : List Value) (x : DataW H × List MemPlace), DataW.trod enc P W 0 (fun _ => true) true n e cs = some x → ∃ a, cs = C a ∧ Q a)
  (hval : Value.okWide P W .any base t v) (h : DataW.Trod enc P W 0 (fun _ => true) true t v d ps) :
  ∃ (l : List α) (s : SlV), v = s.v ∧ Rd W k s (l.map C) ∧ (∀ a ∈ l, Q a) ∧ (l = [] ∨ ∃ elems spare, d = .slice elems spare ∧ elems.length = l.length) := by
 obtain ⟨a0, len0, cap0, rfl⟩ := okWide_slice ht hval
 obtain ⟨fuel, hf⟩ := h
 rcases Deep.open_slice ht hf with ⟨h1, h2⟩ | ⟨a, len, cap, m, n, D, Pl, h1, _, hlc, hcm, hm, h2, hx⟩
 ·simp [Value.cells] at h1
  obtain ⟨rfl, rfl, rfl⟩ := h1
  exact ⟨[], SlV.nil, SlV.nil_eq, Rd.nil W k, by simp, .inl rfl⟩
 ·simp [Value.cells] at h1
  obtain ⟨rfl, rfl, rfl⟩ := h1
  have hval2 := hval
  simp only [Value.okWide, ht, Cell.okWide, Cell.ok] at hval2
  obtain ⟨_, _, _, hspot, row, cells, hshape, _⟩ := hval2
  obtain ⟨ab, ao, asp⟩ := a
  obtain rfl : asp = none := hspot
  simp only at hshape
  have hlt : ab < W.heap.size := by
   unfold World.shape? at hshape
   cases hh : W.heap[ab]? with
   | none => rw [hh] at hshape; cases hshape
   | some o => exact (Array.getElem?_eq_some_iff.1 hh).1
  have hmc : m = cap0 := by rw [hm]; rfl
  obtain ⟨f, hfx⟩ := Deep.choose_lt (α := α) (n := len0) (p := fun i y => W.cells? 0 ((⟨ab, ao, none⟩ : Addr).add (i * P.cellsOf e)) (P.cellsOf e) = some (C y) ∧ Q y) (fun i hi => by
   obtain ⟨cs', hc, ht'⟩ := hx i (by omega)
   obtain ⟨y, rfl, hq⟩ := hel _ _ _ ht'
   exact ⟨y, hc, hq⟩)
  refine ⟨(List.range len0).map f, ⟨some ⟨ab, ao, none⟩, len0, cap0⟩, by rw [SlV.eq], ⟨⟨by simp, ?_, ?_⟩, ?_, hlc⟩, ?_, .inr ⟨_, _, by simpa using congrArg Prod.fst h2, by simp⟩⟩
  ·intro r hr
   obtain ⟨y, _, rfl⟩ := List.mem_map.1 hr
   exact hC y
  ·intro i r hr
   rw [List.getElem?_map, List.getElem?_map] at hr
   have hi : i < len0 := by
    refine Nat.lt_of_not_le fun q => ?_
    rw [List.getElem?_eq_none (by simpa using q)] at hr; cases hr
   rw [List.getElem?_eq_getElem (by simpa using hi)] at hr
   simp only [List.getElem_range, Option.map_some, Option.some.injEq] at hr
   subst hr
   obtain ⟨h3, _⟩ := hfx i hi
   obtain ⟨_, hl, hc⟩ := World.cells?_some h3
   refine ⟨rfl, fun j v hv => ?_⟩
   have hj : j < k := by have := (List.getElem?_eq_some_iff.1 hv).1; rw [hC] at this; exact this
   have h4 := hc j (by rw [hk]; exact hj)
   rw [hv] at h4
   have hadd : ((⟨ab, ao, none⟩ : Addr).add (i * P.cellsOf e)).add j = ⟨ab, ao + i * k + j, none⟩ := by
    rw [hk]
    unfold Addr.add
    by_cases h5 : i * k = 0
    ·by_cases h6 : j = 0
     ·simp [h5, h6]
     ·simp [h5, h6]
    ·by_cases h6 : j = 0
     ·simp [h5, h6]
     ·simp [h5, h6]
   rw [hadd] at h4
   exact h4
  ·rintro i ⟨_, rfl⟩
   exact hlt
  ·intro y hy
   obtain ⟨i, hi, rfl⟩ := List.mem_map.1 hy
   exact (hfx i (List.mem_range.1 hi)).2
end
instance : Inhabited Nd := ⟨Nd.z⟩
theorem bulk_one {H : Type} (d : DataW H) : 1 ≤ Rows.uptoBulk d := by
 cases d with
 | lit l => cases l <;> simp [Rows.uptoBulk]
 | nil => simp [Rows.uptoBulk]
 | ptr d => simp [Rows.uptoBulk]
 | slice elems spare => simp [Rows.uptoBulk]
 | agg parts => simp [Rows.uptoBulk]
 | iface t d => simp [Rows.uptoBulk]
 | map entries => simp [Rows.uptoBulk]
 | held h => simp [Rows.uptoBulk]
theorem bulk_part {H : Type} {d : DataW H} {l : List (DataW H)} (h : d ∈ l) : Rows.uptoBulk d ≤ Rows.uptoBulkAll l := by
 induction l with
 | nil => cases h
 | cons x r ih =>
  simp only [Rows.uptoBulkAll]
  cases List.mem_cons.1 h with
  | inl e => subst e; omega
  | inr e => have := ih e; omega
theorem bulk_len {H : Type} (l : List (DataW H)) : l.length ≤ Rows.uptoBulkAll l := by
 induction l with
 | nil => simp [Rows.uptoBulkAll]
 | cons x r ih => have := bulk_one x; simp only [Rows.uptoBulkAll, List.length_cons]; omega
theorem small_len {H : Type} {α : Type} {l : List α} {d : DataW H} {ds : List (DataW H)} (hk : Rows.uptoSmall H ds = true) (hd : d ∈ ds) (h : l = [] ∨ ∃ elems spare, d = .slice elems spare ∧ elems.length = l.length) : l.length ≤ 1048576 := by
 rcases h with rfl | ⟨elems, spare, rfl, he⟩
 ·simp
 ·have h1 := bulk_part hd
  have h2 := bulk_len elems
  have h3 : Rows.uptoBulkAll ds ≤ 1048576 := by simpa [Rows.uptoSmall] using hk
  simp only [Rows.uptoBulk] at h1
  omega
def Held (W : World) (Z : List OA) : Prop := ∀ z ∈ Z, ∃ F, z.holds W F
theorem Held.nil {W : World} : Held W [] := fun _ h => by cases h
theorem Held.cons {W : World} {z : OA} {Z : List OA} (h : ∃ F, z.holds W F) (hz : Held W Z) : Held W (z :: Z) := fun x hx => by
 rcases List.mem_cons.1 hx with rfl | hx
 ·exact h
 ·exact hz x hx
theorem Held.s {W : World} {Z : List OA} {k : Nat} {α : Type} {C : α → List Value} {s : SlV} {l : List α} (hr : Rd W k s (l.map C)) (hl : l.length ≤ 140737488355328) (hz : Held W Z) : Held W (fS k C s l :: Z) :=
 .cons ⟨s.fp, ⟨hr, hl⟩, fun _ => Iff.rfl⟩ hz
theorem stheld {W : World} {Z : List OA} (h : Held W Z) : St (fun _ => False) oth0 W W [] Z :=
 ⟨fun _ => False, fun _ h => h.elim, fun _ h => h.elim, Chg.refl _ _, trivial, fun z hz => by
  obtain ⟨F, hF⟩ := h z hz
  exact ⟨F, hF, fun i _ q => q.elim (fun x => x) (fun x => x)⟩, fun d hd => absurd hd (by simp [oth0])⟩
theorem gEt : PP.globalNamed "errors.errorType" = some 0 := by kernel_rfl
theorem gRt : (PP.cutTypes.find? (·.1 == "internal/reflectlite.rtype")).map (·.2) = some 233 := by kernel_rfl
theorem gSize : PP.types.size = 285 := by kernel_rfl
theorem gRow : ((List.range 285).filter fun t => PP.rowNamed t [101, 114, 114, 111, 114]) = [170] := by kernel_rfl
theorem gHandle : typeHandle PP 170 = .pointer (some ⟨4, 170, none⟩) := by kernel_rfl
theorem et_core {W : World} (h : handlesMet PP [("errors.errorType", Rows.laid_errors_errorType)] W) : Et W := by
 obtain ⟨name, u, ty, e1, e2, e3, e4, e5⟩ := h _ (List.mem_singleton.2 rfl)
 have en : name = [101, 114, 114, 111, 114] := (Option.some.inj e1).symm
 subst en
 obtain rfl := Option.some.inj (gRt.symm.trans e2)
 have hm : ty ∈ (List.range 285).filter fun t => PP.rowNamed t [101, 114, 114, 111, 114] := List.mem_filter.2 ⟨List.mem_range.2 (by rw [← gSize]; exact e3), e4⟩
 rw [gRow] at hm
 obtain rfl := List.mem_singleton.1 hm
 rw [gHandle] at e5
 intro j v hj
 cases j with
 | zero => simp at hj; subst hj; simpa [etV] using World.var?_cell gEt e5 0
 | succ j => simp at hj
theorem Held.et {W : World} {Z : List OA} (h : Et W) (hz : Held W Z) : Held W (oEt :: Z) := .cons ⟨fun i => i = 0, h, fun _ => Iff.rfl⟩ hz
-- terms
instance : Inhabited Term := ⟨Term.z⟩
instance : Inhabited PTerm := ⟨PTerm.z⟩
theorem bulk_get {H : Type} {xs : List (DataW H × List MemPlace)} {i : Nat} {z : DataW H × List MemPlace} (h : xs[i]? = some z) : Rows.uptoBulk z.1 ≤ Rows.uptoBulkAll (xs.map (·.1)) :=
 bulk_part (List.mem_map.2 ⟨z, List.mem_of_getElem? h, rfl⟩)
theorem bigA_of {w : World} {μ α : Type} {R : μ → α → OA} : ∀ {ms : List μ} {l : List α}, ms.length = l.length → (∀ (i : Nat) m x, ms[i]? = some m → l[i]? = some x → ∃ F, (R m x).holds w F) → ∃ F, (bigA R ms l).holds w F
 | [], [], _, _ => ⟨fun _ => False, trivial, fun _ x => x⟩
 | m :: ms, x :: xs, hl, h => by
  obtain ⟨F, hF⟩ := h 0 m x rfl rfl
  obtain ⟨G, hG⟩ := bigA_of (ms := ms) (l := xs) (by simpa using hl) fun i m x h1 h2 => h (i + 1) m x (by simpa using h1) (by simpa using h2)
  exact ⟨fun i => F i ∨ G i, F, G, hF, hG, fun _ => Iff.rfl⟩
 | [], _ :: _, hl, _ => by simp at hl
 | _ :: _, [], hl, _ => by simp at hl
theorem nmL_of : ∀ {l : List PTerm}, (∀ x ∈ l, nmT x) → nmL l
 | [], _ => trivial
 | x :: l, h => ⟨h x (by simp), nmL_of fun y hy => h y (by simp [hy])⟩
theorem sizeL_bulk {H : Type} : ∀ {l : List PTerm} {ds : List (DataW H)}, l.length = ds.length → (∀ (i : Nat) x d, l[i]? = some x → ds[i]? = some d → sizeT x ≤ Rows.uptoBulk d) → sizeL l ≤ Rows.uptoBulkAll ds
 | [], [], _, _ => by simp [sizeL]
 | x :: l, d :: ds, hl, h => by
  have h1 := h 0 x d rfl rfl
  have h2 := sizeL_bulk (l := l) (ds := ds) (by simpa using hl) fun i x d h3 h4 => h (i + 1) x d (by simpa using h3) (by simpa using h4)
  simp only [sizeL, Rows.uptoBulkAll]; omega
 | [], _ :: _, hl, _ => by simp at hl
 | _ :: _, [], hl, _ => by simp at hl
theorem term_trod {H : Type} {enc : TypeId × Value → H} {W : World} (fuel : Nat) : ∀ {cs : List Value} {x : DataW H × List MemPlace}, DataW.trod enc PP W 0 (fun _ => true) true fuel T_Term cs = some x → Rows.uptoBulk x.1 ≤ 1048576 →
  ∃ (m : Term) (y : PTerm), cs = Term.C m ∧ (m.kind = y.kind ∧ m.name = y.name ∧ m.other = y.other ∧ m.form = y.form) ∧ (nmT y ∧ sizeT y ≤ Rows.uptoBulk x.1) ∧ ∃ F, (fTerms m.sub y.sub).holds W F := by
 induction fuel using Nat.strongRecOn with
 | _ fuel ih =>
 intro cs x hx hb
 obtain ⟨k, hk⟩ := fld_int fv_Term_kind un_api_TermKind (by kernel_rfl) hx
 obtain ⟨n, hn, hns⟩ := fld_str fv_Term_name un_string (by kernel_rfl) hx
 obtain ⟨o, ho, hos⟩ := fld_str fv_Term_other un_string (by kernel_rfl) hx
 obtain ⟨f, hf⟩ := fld_int fv_Term_form un_int (by kernel_rfl) hx
 obtain ⟨fs, fd, hu, hi, hoff, hty⟩ := fv_Term_sub
 obtain ⟨xs, n1, hfu, hxx, hl, hlen, hall⟩ := DataW.trod_struct hu hx
 have hl : cs.length = 5 := hl.trans (by kernel_rfl)
 have h1 := hall 4 fd hi
 have h2 : 4 < xs.length := by rw [hlen]; exact (Array.getElem?_eq_some_iff.1 hi).1
 rw [hoff, hty, show PP.cellsOf T_L_api_Term = 1 from by kernel_rfl, List.getElem?_eq_getElem h2] at h1
 have hbx : 1 + Rows.uptoBulk (xs[4]).1 ≤ Rows.uptoBulk x.1 := by
  have := bulk_get (List.getElem?_eq_getElem h2)
  rw [hxx]
  simp only [Rows.uptoBulk]
  omega
 have hbz : Rows.uptoBulk (xs[4]).1 ≤ 1048576 := by omega
 have hmax : maxLen = 9223372036854775807 := rfl
 have hcs : ∀ v4, cs[4]? = some v4 → cs = [.int .i64 k, .string n, .string o, .int .i64 f, v4] := by
  intro v4 h4
  match cs, hl with
  | [c0, c1, c2, c3, c4], _ =>
   simp at hk hn ho hf h4
   subst hk hn ho hf h4
   rfl
 rcases DataW.trod_slice sl_L_api_Term.1 h1 with ⟨e1, e2⟩ | ⟨a, len, cap, elems, rest, n2, hfu2, e1, e2, _, hlc, hcm, hel, hget, _⟩
 ·have h4 := hcs _ (take_one e1)
  refine ⟨⟨k, n, o, f, SlV.nil⟩, .mk k n o f [], ?_, ⟨rfl, rfl, rfl, rfl⟩, ⟨⟨by show n.size < _; omega, by show o.size < _; omega, trivial⟩, by rw [sizeT_eq]; simp only [PTerm.sub, sizeL]; omega⟩, fun _ => False, (0, []), fun _ => False, fun _ => False, ⟨⟨Sl.nil W 5, by simp⟩, fun i => ⟨fun x => x.elim, fun x => absurd rfl x.1⟩⟩, ⟨trivial, fun _ x => x⟩, fun _ => ⟨fun x => x.elim, fun x => x.elim id id⟩⟩
  rw [h4, SlV.nil_eq]; rfl
 ·have h4 := hcs _ (take_one e1)
  have hbe : Rows.uptoBulkAll (elems.map (·.1)) ≤ 1048576 := by
   rw [e2] at hbz
   simp only [Rows.uptoBulk] at hbz
   omega
  have hlen2 : len ≤ 1048576 := by
   have := bulk_len (elems.map (·.1))
   rw [List.length_map, hel] at this
   omega
  have hone : ∀ i, i < len → ∃ q : Term × PTerm, (W.cells? 0 (a.add (i * PP.cellsOf T_Term)) (PP.cellsOf T_Term) = some (Term.C q.1)) ∧ (q.1.kind = q.2.kind ∧ q.1.name = q.2.name ∧ q.1.other = q.2.other ∧ q.1.form = q.2.form) ∧ (nmT q.2 ∧ ∀ z, elems[i]? = some z → sizeT q.2 ≤ Rows.uptoBulk z.1) ∧ ∃ F, (fTerms q.1.sub q.2.sub).holds W F := by
   intro i hi'
   have h5 := hget i hi'
   have h6 : i < elems.length := by omega
   rw [List.getElem?_eq_getElem h6] at h5
   cases hc : W.cells? 0 (a.add (i * PP.cellsOf T_Term)) (PP.cellsOf T_Term) with
   | none => rw [hc] at h5; simp at h5
   | some cs' =>
    rw [hc] at h5
    simp only [Option.bind_some] at h5
    obtain ⟨m, y, rfl, hm, hy, hF⟩ := ih n2 (by omega) h5 (by have := bulk_get (List.getElem?_eq_getElem h6); omega)
    exact ⟨(m, y), rfl, hm, ⟨hy.1, fun z hz => by cases (List.getElem?_eq_getElem h6).symm.trans hz; exact hy.2⟩, hF⟩
  obtain ⟨g, hg⟩ := Deep.choose_lt (α := Term × PTerm) hone
  have hsz : PP.cellsOf T_Term = 5 := by kernel_rfl
  refine ⟨⟨k, n, o, f, ⟨some a, len, cap⟩⟩, .mk k n o f ((List.range len).map fun i => (g i).2), ?_, ⟨rfl, rfl, rfl, rfl⟩, ⟨⟨by show n.size < _; omega, by show o.size < _; omega, nmL_of fun y hy => ?_⟩, ?_⟩, ?_⟩
  ·rw [h4]; show _ = [_, _, _, _, SlV.v _]; rw [SlV.eq]
  ·obtain ⟨i, hi', rfl⟩ := List.mem_map.1 hy
   exact (hg i (List.mem_range.1 hi')).2.2.1.1
  ·have hs : sizeL ((List.range len).map fun i => (g i).2) ≤ Rows.uptoBulkAll (elems.map (·.1)) := by
    refine sizeL_bulk (by simp [hel]) fun i y d h1 h2 => ?_
    have hi' : i < len := by
     refine Nat.lt_of_not_le fun q => ?_
     rw [List.getElem?_eq_none (by simpa using q)] at h1; cases h1
    rw [List.getElem?_map] at h1 h2
    rw [List.getElem?_range hi'] at h1
    simp only [Option.map_some, Option.some.injEq] at h1
    subst h1
    cases hz : elems[i]? with
    | none => rw [hz] at h2; cases h2
    | some z => rw [hz] at h2; cases h2; exact (hg i hi').2.2.1.2 z hz
   rw [sizeT_eq]
   have : Rows.uptoBulkAll (elems.map (·.1)) ≤ Rows.uptoBulk (xs[4]).1 := by
    rw [e2]; simp only [Rows.uptoBulk]; omega
   simp only [PTerm.sub]; omega
  ·have hsl : Sl W 5 ⟨some a, len, cap⟩ (((List.range len).map fun i => (g i).1).map Term.C) := by
    refine ⟨by simp, ?_, ?_⟩
    ·intro r hr
     obtain ⟨y, _, rfl⟩ := List.mem_map.1 hr
     exact Term.len y
    ·intro i r hr
     rw [List.getElem?_map, List.getElem?_map] at hr
     have hi' : i < len := by
      refine Nat.lt_of_not_le fun q => ?_
      rw [List.getElem?_eq_none (by simpa using q)] at hr; cases hr
     rw [List.getElem?_eq_getElem (by simpa using hi')] at hr
     simp only [List.getElem_range, Option.map_some, Option.some.injEq] at hr
     subst hr
     obtain ⟨_, _, hc0⟩ := World.cells?_some (hg 0 (by omega)).1
     obtain ⟨ab, ao, asp⟩ := a
     have hsp : asp = none := by
      have h7 := hc0 0 (by rw [hsz]; decide)
      simp only [Nat.zero_mul, Addr.add, if_true] at h7
      cases asp with
      | none => rfl
      | some q =>
       unfold World.cell? at h7
       simp only [Option.isSome_some, if_true] at h7
       split at h7
       ·exact absurd h7.symm (by simp [Term.C])
       ·exact absurd h7.symm (by simp [Term.C])
     subst hsp
     obtain ⟨_, _, hc⟩ := World.cells?_some (hg i hi').1
     refine ⟨rfl, fun j v hv => ?_⟩
     have hj : j < 5 := by have := (List.getElem?_eq_some_iff.1 hv).1; rw [Term.len] at this; exact this
     have h8 := hc j (by rw [hsz]; exact hj)
     rw [hv] at h8
     have hadd : ((⟨ab, ao, none⟩ : Addr).add (i * PP.cellsOf T_Term)).add j = ⟨ab, ao + i * 5 + j, none⟩ := by
      rw [hsz]
      unfold Addr.add
      by_cases h5 : i * 5 = 0
      ·by_cases h6 : j = 0
       ·simp [h5, h6]
       ·simp [h5, h6]
      ·by_cases h6 : j = 0
       ·simp [h5, h6]
       ·simp [h5, h6]
     rw [hadd] at h8
     exact h8
   have hbig : ∃ F, (bigA fTerm ((List.range len).map fun i => (g i).1) ((List.range len).map fun i => (g i).2)).holds W F := by
    refine bigA_of (by simp) fun i m x h1 h2 => ?_
    rw [List.getElem?_map] at h1 h2
    have hi' : i < len := by
     refine Nat.lt_of_not_le fun q => ?_
     rw [List.getElem?_eq_none (by simpa using q)] at h1; cases h1
    rw [List.getElem?_range hi'] at h1 h2
    simp only [Option.map_some, Option.some.injEq] at h1 h2
    subst h1 h2
    obtain ⟨_, he, _, F, hF⟩ := hg i hi'
    have := fTerm_mk (s := (g i).1.sub) hF
    rw [show mT (g i).2 (g i).1.sub = (g i).1 from by rw [mT, ← he.1, ← he.2.1, ← he.2.2.1, ← he.2.2.2]] at this
    exact ⟨F, this⟩
   obtain ⟨F, hF⟩ := hbig
   exact ⟨_, fTerms_mk (F := fun i => ((List.range len).map fun i => (g i).1) ≠ [] ∧ i = _) ⟨⟨hsl, by simp; omega⟩, fun _ => Iff.rfl⟩ hF⟩
theorem term_of {H : Type} {enc : TypeId × Value → H} {W : World} {v : Value} {d : DataW H} {ds : List (DataW H)} {ps : List MemPlace} {base : Nat} (hval : Value.okWide PP W .any base T_Term v) (h : DataW.Trod enc PP W 0 (fun _ => true) true T_Term v d ps) (hk : Rows.uptoSmall H ds = true) (hd : d ∈ ds) :
  ∃ (y : PTerm) (s : SlV), v = .agg (Term.C (⟨y.kind, y.name, y.other, y.form, s⟩ : Term)).toArray ∧ (nmT y ∧ sizeT y ≤ 1048576) ∧ ∃ F, (oDTerm s y.sub).holds W F := by
 obtain ⟨fuel, hf⟩ := h
 have hb : Rows.uptoBulk d ≤ 1048576 := by
  have h1 := bulk_part hd
  have h3 : Rows.uptoBulkAll ds ≤ 1048576 := by simpa [Rows.uptoSmall] using hk
  omega
 obtain ⟨m, y, hc, he, hn, hF⟩ := term_trod fuel hf hb
 have hu : ∃ fs, PP.underlying T_Term = some (.struct fs) := by
  obtain ⟨fs, fd, hu, _⟩ := fv_Term_sub; exact ⟨fs, hu⟩
 obtain ⟨fs, hu⟩ := hu
 unfold Value.okWide at hval
 rw [hu] at hval
 obtain ⟨cs, rfl, _⟩ := hval
 refine ⟨y, m.sub, ?_, ⟨hn.1, Nat.le_trans hn.2 hb⟩, hF⟩
 have hm : m = (⟨y.kind, y.name, y.other, y.form, m.sub⟩ : Term) := by rw [← he.1, ← he.2.1, ← he.2.2.1, ← he.2.2.2]
 rw [← hm]
 have hc' : cs.toList = Term.C m := hc
 rw [← hc']
theorem Held.f {W : World} {Z : List OA} {s : SlV} {l : List PTerm} (h : ∃ F, (oDTerm s l).holds W F) (hz : Held W Z) : Held W (oDTerm s l :: Z) := .cons h hz
-- hypotheses
instance : Inhabited Hyp := ⟨Hyp.z⟩
end Go.Proofs.YtflieamjacclnaaGreatDoor
end
section
namespace Go.Proofs.YtflieamjacclnaaGreatDoor
open Gw Go.ChangeShapes Go.WideShapes Go.ChangeAt Go.RowKit
set_option maxRecDepth 100000
def tz64 : List Int := Lib.deBruijn64tab.map fun (z : Nat) => (z : Int)
def tz32 : List Int := Lib.deBruijn32tab.map fun (z : Nat) => (z : Int)
theorem laidMet_tail {P : Program} {w : World} {x : String × DataW Unit} {l : List (String × DataW Unit)} (h : laidMet P (x :: l) w) : laidMet P l w := by
 obtain ⟨ps, ⟨g, t, cs, fuel, p, q, _, _, _, _, hv, rfl⟩, hn, hr⟩ := h
 exact ⟨q, hv, (List.nodup_append.1 hn).2.1, fun b off hp => hr b off (List.mem_append_right _ hp)⟩
theorem post_old {H : Type} {enc : TypeId × Value → H} {P : Program} {f : Func} {s : ChangeSpec} {apart fresh handsOn again : Bool} {W W' : World} {args : Array Value} {v : Value} {ds gs : List (DataW H)} {before pa pv : List MemPlace}
  (hW : DataW.Whole enc P f.params.toList s.vars apart W args.toList ds gs before)
  (hres : ∀ (b : Nat) (sp : Nat → Bool) (hd : Bool), DataW.TrodAll enc P W' b sp hd f.resultTypes.toList (v.resultList f.resultTypes.size) (s.fn H (ds ++ gs)).results [])
  (hargs : ∀ sp : Nat → Bool, (∀ p ∈ before, sp p.block = true) → DataW.TrodAll enc P W' 0 sp true f.params.toList args.toList (s.fn H (ds ++ gs)).args pa)
  (hvars : ∀ sp : Nat → Bool, (∀ p ∈ before, sp p.block = true) → DataW.TrodVars enc P W' sp s.vars (s.fn H (ds ++ gs)).vars pv)
  (hps : before = pa ++ pv) (hk : W.keptBut W' (· ∈ before)) (hfz : ∀ a, a.block < W.heap.size → W'.frozen? a = W.frozen? a)
  (hok : ∀ (j : Nat) (t : TypeId) (r : Value), f.resultTypes[j]? = some t → (v.resultList f.resultTypes.size)[j]? = some r → Value.okWide P W' .any 0 t r) :
  s.post enc P f apart fresh handsOn again W args v W' := by
 have hlt : ∀ p ∈ before, p.block < W.heap.size := fun p hp => hW.lt p hp
 have h0 : ∀ p ∈ before, (fun b => decide (b < W.heap.size)) p.block = true := fun p hp => decide_eq_true (hlt p hp)
 have hin : ∀ p ∈ before, p ∈ pa ∨ p ∈ pv := fun p hp => List.mem_append.1 (hps ▸ hp)
 have hin' : ∀ p, p ∈ ([] ++ pa) ++ pv → p ∈ before := fun p hp => by rw [hps]; simpa using hp
 refine ⟨ds, gs, before, [], pa, pv, hW, hres _ _ _, hargs _ h0, hvars _ h0, World.keptBut_mono (fun p hp => ⟨hp, .inr (hin p hp)⟩) hk, fun _ => ?_⟩
 obtain ⟨_, _, _, _, _, hz, hn⟩ := hW
 refine ⟨hok, _, _, ([] ++ pa) ++ pv, ⟨[] ++ pa, pv, trodAll_append (hargs _ fun _ _ => rfl) (hres _ _ _), hvars _ (fun _ _ => rfl), rfl, fun b off hp => ?_, fun ha => ?_⟩, fun p hp _ => hin' p hp⟩
 ·have hb := hin' _ hp
  rw [hfz _ (hlt _ hb)]; exact hz b off hb
 ·have := hn ha
  rw [hps] at this
  simpa using this
theorem pw_core {W : World} {rest : List (String × DataW Unit)} (h : laidMet PP (("internal/strconv.uint64pow10", Rows.laid_internal_strconv_uint64pow10) :: rest) W) : Pw W :=
 Lib.tabIs_of_head (rest := rest) gPw (t := T_20_uint64) (e := T_uint64) (n := 20) (by kernel_rfl) ar_20_uint64.1 (by kernel_rfl) (by kernel_rfl) (by kernel_rfl) h
theorem laid_four {W : World} (h : laidMetH PP [("math/bits.deBruijn32tab", Rows.laid_math_bits_deBruijn32tab), ("math/bits.deBruijn64tab", Rows.laid_math_bits_deBruijn64tab), ("internal/strconv.uint64pow10", Rows.laid_internal_strconv_uint64pow10), ("errors.errorType", Rows.laid_errors_errorType)] W) : Pw W ∧ Et W := by
 have h' : laidMet PP [("math/bits.deBruijn32tab", Rows.laid_math_bits_deBruijn32tab), ("math/bits.deBruijn64tab", Rows.laid_math_bits_deBruijn64tab), ("internal/strconv.uint64pow10", Rows.laid_internal_strconv_uint64pow10)] W ∧ handlesMet PP [("errors.errorType", Rows.laid_errors_errorType)] W := h
 exact ⟨pw_core (laidMet_tail (laidMet_tail h'.1)), et_core h'.2⟩
theorem Held.pw {W : World} {Z : List OA} (h : Pw W) (hz : Held W Z) : Held W (oPw :: Z) := .cons ⟨fun i => i = 1, ⟨h, fun _ => Iff.rfl⟩⟩ hz
instance : Inhabited Ln := ⟨Ln.z⟩
theorem lns_of {H : Type} {enc : TypeId × Value → H} {W : World} {base : Nat} {v : Value} {d : DataW H} {ps : List MemPlace} (hval : Value.okWide PP W .any base T_L_api_Line v) (h : DataW.Trod enc PP W 0 (fun _ => true) true T_L_api_Line v d ps) :
  ∃ (l : List Ln) (s : SlV), v = s.v ∧ Rd W 4 s (l.map Ln.C) ∧ (∀ a ∈ l, True) ∧ (l = [] ∨ ∃ elems spare, d = .slice elems spare ∧ elems.length = l.length) := by
 refine slice_of sl_L_api_Line.1 (by kernel_rfl) Ln.len (by decide) (fun n cs x hx => ?_) hval h
 obtain ⟨a, ha⟩ := fld_int fv_Ln_kind un_api_LineKind (by kernel_rfl) hx
 obtain ⟨b, hb⟩ := fld_int fv_Ln_form un_int (by kernel_rfl) hx
 obtain ⟨c, hc⟩ := fld_int fv_Ln_a un_int (by kernel_rfl) hx
 obtain ⟨d, hd⟩ := fld_int fv_Ln_b un_int (by kernel_rfl) hx
 obtain ⟨fs, fd, hu, _⟩ := fv_Ln_kind
 obtain ⟨xs, n', _, _, hl, _⟩ := DataW.trod_struct hu hx
 have hl : cs.length = 4 := hl.trans (by kernel_rfl)
 refine ⟨⟨a, b, c, d⟩, ?_, trivial⟩
 match cs, hl with
 | [v0, v1, v2, v3], _ =>
  simp at ha hb hc hd
  subst ha hb hc hd
  rfl
instance : Inhabited ByteArray := ⟨ByteArray.empty⟩
end Go.Proofs.YtflieamjacclnaaGreatDoor
end
section
namespace Go.Proofs.YtflieamjacclnaaGreatDoor
open Gw Go.ChangeShapes Go.WideShapes Go.ChangeAt Go.RowKit
set_option maxRecDepth 100000
namespace LawHilbertNobody
theorem contract (H : Type) (enc : TypeId × Value → H) (W : World) (base : Nat) (args : Array Value) (ds gs : List (DataW H)) (before : List MemPlace)
  (hval : ∀ (j : Nat) t v, D_law16_HilbertNobody.params[j]? = some t → args[j]? = some v → Value.okWide PP W .any base t v)
  (hW : DataW.Whole enc PP D_law16_HilbertNobody.params.toList Rows.hilbertNobodySpec.vars false W args.toList ds gs before) (hL : laidMetH PP Rows.hilbertNobodyUptoRow.laid W) (hsm : Rows.uptoSmall H (ds ++ gs) = true) :
  Calls PP F_law16_HilbertNobody args W fun e W' => ∃ v, e = .returned v ∧ Rows.hilbertNobodySpec.post enc PP D_law16_HilbertNobody false true false false W args v W' := by
 have hW' := hW
 have hlt := hW.lt
 obtain ⟨p, q, hA0, hV, rfl, hfz, hnd⟩ := hW
 have hA : DataW.TrodAll enc PP W 0 (fun _ => true) true D_law16_HilbertNobody.params.toList args.toList ds p := hA0
 have hpar : D_law16_HilbertNobody.params = #[T_int, T_L_api_Line, T_Term] := by kernel_rfl
 rw [hpar] at hA hval
 obtain ⟨v0, v1, v2, d0, d1, d2, p0, p1, p2, rfl, rfl, rfl, h0, h1, h2⟩ := trodAll_three hA
 obtain ⟨rfl, rfl⟩ := trodVars_none hV
 obtain ⟨a0, rfl, hr0⟩ := int_of (k := .i64) un_int (hval 0 _ _ rfl rfl)
 obtain ⟨a1, s1, rfl, hrd1, hnm1, hsl1⟩ := lns_of (hval 1 _ _ rfl rfl) h1
 have hln1 := small_len hsm (by simp) hsl1
 obtain ⟨a2, s2, rfl, ⟨hnm2, hbg2⟩, hf2⟩ := term_of (hval 2 _ _ rfl rfl) h2 hsm (by simp)
 have S := stheld (W := W) (.s hrd1 (by omega) (.f hf2 (.et (laid_four hL).2 (.pw (laid_four hL).1 .nil))))
 refine (law16_HilbertNobody_st S (HilbertNobody_true heads16 same16 a0 a1 a2)).mono fun e W' ⟨v, he, hv, hS⟩ => ?_
 subst hv
 have hx := hS.frame
 refine ⟨_, he, post_old (pa := p0 ++ p1 ++ p2) (pv := []) hW' (fun _ _ _ => trodAll_cons_mk (shut_bool un_bool _) trodAll_mk0) (fun sp hsp => ?_) (fun _ _ => rfl) (by simp) ((Ext.below hx).frame _) hx.froz (ok_one (by kernel_rfl) rfl (okWide_bool_mk un_bool _))⟩
 rw [hpar]
 refine trodAll_stays (ts := [T_int, T_L_api_Line, T_Term]) (fun t ht => ?_) hA (fun p hp => (Ext.below hx).same (hlt p (by simpa using hp))) (fun p hp => hsp p (by simpa using hp))
 simp only [List.mem_cons, List.not_mem_nil, or_false] at ht
 rcases ht with rfl | rfl | rfl <;> exact ⟨by kernel_rfl, of_decide_eq_true (by kernel_rfl)⟩
noncomputable def laidWorld0 (os : Os) : World :=
 { World.holding PP os ⟨#[], #[], []⟩ with heap := (World.holding PP os ⟨#[], #[], []⟩).heap.modify 0 fun
   | .cells _ t frozen => .cells #[etV] t frozen
   | o => o }
noncomputable def laidWorld1 (os : Os) : World :=
 { laidWorld0 os with heap := (laidWorld0 os).heap.modify 3 fun
   | .cells _ t frozen => .cells (tz64.map (Value.int .u8)).toArray t frozen
   | o => o }
noncomputable def laidWorld2 (os : Os) : World :=
 { laidWorld1 os with heap := (laidWorld1 os).heap.modify 2 fun
   | .cells _ t frozen => .cells (tz32.map (Value.int .u8)).toArray t frozen
   | o => o }
noncomputable def laidWorld (os : Os) : World :=
 { laidWorld2 os with heap := (laidWorld2 os).heap.modify 1 fun
   | .cells _ t frozen => .cells (Lib.pow10Tab.map (Value.int .u64)).toArray t frozen
   | o => o }
def argsN : Array Value := #[.int .i64 0, .slice none 0 0, .agg #[.int .i64 0, .string ByteArray.empty, .string ByteArray.empty, .int .i64 0, .slice none 0 0]]
theorem laid_met (os : Os) : laidMetH PP Rows.hilbertNobodyUptoRow.laid ((laidWorld os).forCall (fun _ _ => 0) ⟨#[], argsN, []⟩).memory :=
 laidMetH_of_parts (laidMet_of_run' 8 (by kernel_rfl) (by kernel_rfl)) (by kernel_rfl)
def ddN (H : Type) : List (DataW H) := [.lit (.int .i64 0), .nil, .agg [.lit (.int .i64 0), .lit (.string []), .lit (.string []), .lit (.int .i64 0), .nil]]
theorem reads (os : Os) {H : Type} (enc : TypeId × Value → H) : ∃ places, DataW.whole enc PP ((laidWorld os).forCall (fun _ _ => 0) ⟨#[], argsN, []⟩).memory D_law16_HilbertNobody.params.toList Rows.hilbertNobodySpec.vars false argsN.toList 8 = some (ddN H, [], places) :=
 ⟨[], by kernel_rfl⟩
theorem lifted (os : Os) (started : os.Started) (H : Type) (enc : TypeId × Value → H) (F : Stop.Interp) :
  ReturnsInHanded {} Tryz.checked os F_law16_HilbertNobody .any ((Rows.OpenSpec.upto Rows.hilbertNobodySpec).preRow enc PP D_law16_HilbertNobody Rows.hilbertNobodyUptoRow.domain false Rows.hilbertNobodyUptoRow.laid) (((Rows.OpenSpec.upto Rows.hilbertNobodySpec).at F).post enc PP D_law16_HilbertNobody false true false false) := by
 obtain ⟨places, hx⟩ := reads os enc
 refine returnsInHanded_of_row (C := Tryz.checked) (s := Rows.OpenSpec.upto Rows.hilbertNobodySpec) ownKnob_none started (by kernel_rfl) fn_law16_HilbertNobody
  (witness_row_at (enc := enc) (C := Tryz.checked) false (laidWorld os) argsN rfl (by kernel_rfl) (by kernel_rfl) (by kernel_rfl)
   (OpenSpec.preRow_of_cond 8 hx (by kernel_rfl) (fun k hk => by cases hk; kernel_rfl) (by kernel_rfl) (laid_met os))) ?_
 intro W base args ds gs before hval hW _ hcond _ hL _ _
 exact contract H enc W base args ds gs before hval hW hL (hcond _ rfl)
theorem said : Rows.HilbertNobodyUptoSaid :=
 OpenClaim.holds_of_cond F_law16_HilbertNobody D_law16_HilbertNobody rfl rfl rfl rfl rfl rfl rfl ⟨rfl, rfl, rfl, rfl, rfl⟩ rfl rfl rfl rfl rfl (by kernel_rfl) fn_law16_HilbertNobody (by kernel_rfl)
  (of_decide_eq_true (by kernel_rfl)) (by unfold Func.isWrapper; first | (rw [if_pos (by decide +kernel)]; kernel_rfl) | (rw [if_neg (by decide +kernel)]; exact ⟨rfl, rfl⟩))
  (fun os started H enc _ F => by rw [OpenClaim.pre_eq_preRow]; exact lifted os started H enc F)
theorem plain (f : FuncId) (fn : Func) (hf : Tryz.pinned.checked.prog.funcNamed "dictum/dictumlaw16.HilbertNobody" = some f) (hfn : Tryz.pinned.checked.prog.funcs[f]? = some fn) :
  true = Tryz.pinned.checked.prog.looks [] ∧ ∀ (j : Nat) t, fn.params[j]? = some t → Tryz.pinned.checked.prog.wantsStandIn t = false := by
 obtain rfl : f = F_law16_HilbertNobody := Option.some.inj ((show PP.funcNamed "dictum/dictumlaw16.HilbertNobody" = some F_law16_HilbertNobody by kernel_rfl).symm.trans hf) |>.symm
 obtain rfl : fn = D_law16_HilbertNobody := (Option.some.inj (fn_law16_HilbertNobody.symm.trans hfn)).symm
 refine ⟨by kernel_rfl, fun j t ht => ?_⟩
 rw [show D_law16_HilbertNobody.params = #[T_int, T_L_api_Line, T_Term] by kernel_rfl] at ht
 have hm : t ∈ [T_int, T_L_api_Line, T_Term] := by simpa using Array.mem_of_getElem? ht
 simp only [List.mem_cons, List.not_mem_nil, or_false] at hm
 rcases hm with rfl | rfl | rfl
 ·exact (show PP.wantsStandIn T_int = false by kernel_rfl)
 ·exact (show PP.wantsStandIn T_L_api_Line = false by kernel_rfl)
 ·exact (show PP.wantsStandIn T_Term = false by kernel_rfl)
theorem card : Rows.HilbertNobodyUptoCardSaid :=
 Claim7.holds_tied_plain_at .later [] _ _ _ _ said (fun _ h => by cases h) (by kernel_rfl) (fun _ h => by cases h) hilbertNobodyUpto_row_tie rfl ⟨rfl, rfl⟩ (by kernel_rfl) rfl plain (by kernel_rfl)
end LawHilbertNobody
end Go.Proofs.YtflieamjacclnaaGreatDoor
end
