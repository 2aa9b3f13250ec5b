/- SearchNobody: the row's statement and its card. The table of trailing zeros reads as the program lays it. Printed by card.py, a program of mine. -/
import Derived.Test.YtjjkhjieegmphaaDoorMSNobody4
import Derived.Test.YtjjkhjieegmphaaDoorCards
import Derived.Test.YtjjkhjieegmphaaDoorTie
import Derived.WalkKit
import Derived.ProofKit
import Derived.OpenShut
import Derived.Deep.DeepHandedRow
import Derived.Lib.LaidTab
import Derived.Deep.Slices
section
namespace Go.Proofs.YtjjkhjieegmphaaDoor
open Gw Go.RowKit
set_option linter.unusedVariables false
set_option linter.unusedSimpArgs false
set_option maxHeartbeats 4000000

theorem law11_heads_st {A : Nat → Prop} {N : Oth} {w : World}  (S : St A N w w [] [oTz]) {k : Nat} {r : Bool} (H : law11_heads.f k  = some r) :
    Calls PP F_law11_heads #[] w fun e w' => ∃ v, e = .returned v ∧ (v = .bool r ∧ St A N w w' [] []) := by
  unfold law11_heads.f at H
  refine calls_of_wc (n := 119) fn_law11_heads rfl rfl (by simp) ?_
  refine wc_seq (wc_region ?_)
  refine wd (does_as_b rfl) ?_
  refine wl_nil ?_
  refine wc_seq (wc_region ?_)
  refine wd (does_build bu_Nd (Bld.one rfl rfl (by rw [Nd.len]; decide) (Nd.set_kind _ _) (Bld.one rfl rfl (by rw [Nd.len]; decide) (Nd.set_name _ _) Bld.nil))) ?_
  refine wd (does_build bu_Nd (Bld.one rfl rfl (by rw [Nd.len]; decide) (Nd.set_kind _ _) (Bld.one rfl rfl (by rw [Nd.len]; decide) (Nd.set_name _ _) Bld.nil))) ?_
  refine wd (does_build bu_Nd (Bld.one rfl rfl (by rw [Nd.len]; decide) (Nd.set_kind _ _) Bld.nil)) ?_
  refine wd (does_build bu_Nd (Bld.one rfl rfl (by rw [Nd.len]; decide) (Nd.set_kind _ _) (Bld.one rfl rfl (by rw [Nd.len]; decide) (Nd.set_l _ _) (Bld.one rfl rfl (by rw [Nd.len]; decide) (Nd.set_r _ _) Bld.nil)))) ?_
  refine wd (does_build bu_Nd (Bld.one rfl rfl (by rw [Nd.len]; decide) (Nd.set_kind _ _) (Bld.one rfl rfl (by rw [Nd.len]; decide) (Nd.set_l _ _) (Bld.one rfl rfl (by rw [Nd.len]; decide) (Nd.set_r _ _) Bld.nil)))) ?_
  refine wd (does_build bu_Nd (Bld.one rfl rfl (by rw [Nd.len]; decide) (Nd.set_kind _ _) (Bld.one rfl rfl (by rw [Nd.len]; decide) (Nd.set_l _ _) (Bld.one rfl rfl (by rw [Nd.len]; decide) (Nd.set_r _ _) Bld.nil)))) ?_
  refine wl_lits (C := Nd.C) (l := [{ Nd.z with kind := 1, name := (⟨#[112]⟩ : ByteArray) }, { Nd.z with kind := 1, name := (⟨#[113]⟩ : ByteArray) }, { Nd.z with kind := 2 }, { Nd.z with kind := 4, l := 0, r := 1 }, { Nd.z with kind := 5, l := 0, r := 2 }, { Nd.z with kind := 4, l := 0, r := 4 }]) (vs := [.agg (Nd.C ({ Nd.z with kind := 1, name := (⟨#[112]⟩ : ByteArray) })).toArray, .agg (Nd.C ({ Nd.z with kind := 1, name := (⟨#[113]⟩ : ByteArray) })).toArray, .agg (Nd.C ({ Nd.z with kind := 2 })).toArray, .agg (Nd.C ({ Nd.z with kind := 4, l := 0, r := 1 })).toArray, .agg (Nd.C ({ Nd.z with kind := 5, l := 0, r := 2 })).toArray, .agg (Nd.C ({ Nd.z with kind := 4, l := 0, r := 4 })).toArray]) sl_L_api_Node el_Nd.zero rfl rfl (fun a _ => Nd.len a) (by decide) rfl (by decide) fun b2 w1 s3 hBw1 hw1 => ?_
  replace S : St A N w w1 [oS T_Nd 4 Nd.C s3 ([{ Nd.z with kind := 1, name := (⟨#[112]⟩ : ByteArray) }, { Nd.z with kind := 1, name := (⟨#[113]⟩ : ByteArray) }, { Nd.z with kind := 2 }, { Nd.z with kind := 4, l := 0, r := 1 }, { Nd.z with kind := 5, l := 0, r := 2 }, { Nd.z with kind := 4, l := 0, r := 4 }])] [oTz] := S.lit hBw1 hw1 (by simp)
  obtain ⟨r4, er4, H⟩ := bind_ex H
  obtain ⟨B6, MB6, SB6, back⟩ := S.calln 0 ((.s 0 rfl .nil))
  refine wl_call (does_call ca_formula_From) (by decide) (formula_From_st SB6 er4) ?_
  rintro _ w5 ⟨a7, rfl, S2⟩
  replace S : St A N w w5 [oT a7 r4.1, oS T_Nd 4 Nd.C s3 ([{ Nd.z with kind := 1, name := (⟨#[112]⟩ : ByteArray) }, { Nd.z with kind := 1, name := (⟨#[113]⟩ : ByteArray) }, { Nd.z with kind := 2 }, { Nd.z with kind := 4, l := 0, r := 1 }, { Nd.z with kind := 5, l := 0, r := 2 }, { Nd.z with kind := 4, l := 0, r := 4 }])] [oTz] := back _ _ _ _ S2 rfl
  clear back S2 SB6
  refine wd (does_mv_t rfl) ?_
  refine wd (does_extract rfl rfl) ?_
  refine wd (does_extract rfl rfl) ?_
  refine wd (does_as_p rfl) ?_
  refine wd (does_as_i rfl) ?_
  refine wl_nil ?_
  refine wc_seq (wc_region ?_)
  refine wd (does_mv_p rfl) ?_
  refine wd (does_build bu_Sq (Bld.one rfl rfl (by rw [Sq.len]; decide) (Sq.set_goal _ _) Bld.nil)) ?_
  obtain ⟨r8, er8, H⟩ := bind_ex H
  obtain ⟨B10, MB10, SB10, back⟩ := S.calln 1 ((.z 0 rfl .nil))
  refine wl_call (does_call ca_search_Run) (by decide) (search_Run_st SB10 er8) ?_
  rintro _ w9 ⟨s11, rfl, S2⟩
  replace S : St A N w w9 [oT a7 r8.1, oDStep s11 r8.2.1.steps, oS T_Nd 4 Nd.C s3 ([{ Nd.z with kind := 1, name := (⟨#[112]⟩ : ByteArray) }, { Nd.z with kind := 1, name := (⟨#[113]⟩ : ByteArray) }, { Nd.z with kind := 2 }, { Nd.z with kind := 4, l := 0, r := 1 }, { Nd.z with kind := 5, l := 0, r := 2 }, { Nd.z with kind := 4, l := 0, r := 4 }])] [oTz] := back _ _ _ _ S2 rfl
  clear back S2 SB10
  refine wd (does_mv_t rfl) ?_
  refine wd (does_extract rfl rfl) ?_
  refine wd (does_extract rfl rfl) ?_
  refine wl_alloc ze_Found (by decide) fun b13 w12 hw12 => ?_
  replace S : St A N w w12 [oB b13 T_Found (Found.C (⟨false, SlV.nil, 0⟩ : Found)), oT a7 r8.1, oDStep s11 r8.2.1.steps, oS T_Nd 4 Nd.C s3 ([{ Nd.z with kind := 1, name := (⟨#[112]⟩ : ByteArray) }, { Nd.z with kind := 1, name := (⟨#[113]⟩ : ByteArray) }, { Nd.z with kind := 2 }, { Nd.z with kind := 4, l := 0, r := 1 }, { Nd.z with kind := 5, l := 0, r := 2 }, { Nd.z with kind := 4, l := 0, r := 4 }])] [oTz] := S.new hw12
  refine wl_store_agg ag_Found rfl rfl (S.blk 0) (Found.len _) (by rw [Found.len]; decide) (Found.one _) (store_all (Found.len _)) fun w14 B hw14 zw14 => ?_
  replace S : St A N w w14 [oB b13 T_Found (Found.C (⟨r8.2.1.proved, s11, r8.2.1.visits⟩ : Found)), oT a7 r8.1, oDStep s11 r8.2.1.steps, oS T_Nd 4 Nd.C s3 ([{ Nd.z with kind := 1, name := (⟨#[112]⟩ : ByteArray) }, { Nd.z with kind := 1, name := (⟨#[113]⟩ : ByteArray) }, { Nd.z with kind := 2 }, { Nd.z with kind := 4, l := 0, r := 1 }, { Nd.z with kind := 5, l := 0, r := 2 }, { Nd.z with kind := 4, l := 0, r := 4 }])] [oTz] := S.store 0 B hw14
  clear B
  refine wd (does_as_i rfl) ?_
  refine wl_nil ?_
  refine wc_seq (wc_region ?_)
  refine wd (does_mv_p rfl) ?_
  refine wd (does_build bu_Sq (Bld.one rfl rfl (by rw [Sq.len]; decide) (Sq.set_goal _ _) Bld.nil)) ?_
  obtain ⟨r15, er15, H⟩ := bind_ex H
  replace S : St A N w w14 [oT a7 r8.1, oB b13 T_Found (Found.C (⟨r8.2.1.proved, s11, r8.2.1.visits⟩ : Found)), oDStep s11 r8.2.1.steps, oS T_Nd 4 Nd.C s3 ([{ Nd.z with kind := 1, name := (⟨#[112]⟩ : ByteArray) }, { Nd.z with kind := 1, name := (⟨#[113]⟩ : ByteArray) }, { Nd.z with kind := 2 }, { Nd.z with kind := 4, l := 0, r := 1 }, { Nd.z with kind := 5, l := 0, r := 2 }, { Nd.z with kind := 4, l := 0, r := 4 }])] [oTz] := S.front 1
  obtain ⟨B17, MB17, SB17, back⟩ := S.calln 1 ((.z 0 rfl .nil))
  refine wl_call (does_call ca_search_Run) (by decide) (search_Run_st SB17 er15) ?_
  rintro _ w16 ⟨s18, rfl, S2⟩
  replace S : St A N w w16 [oT a7 r15.1, oDStep s18 r15.2.1.steps, oB b13 T_Found (Found.C (⟨r8.2.1.proved, s11, r8.2.1.visits⟩ : Found)), oDStep s11 r8.2.1.steps, oS T_Nd 4 Nd.C s3 ([{ Nd.z with kind := 1, name := (⟨#[112]⟩ : ByteArray) }, { Nd.z with kind := 1, name := (⟨#[113]⟩ : ByteArray) }, { Nd.z with kind := 2 }, { Nd.z with kind := 4, l := 0, r := 1 }, { Nd.z with kind := 5, l := 0, r := 2 }, { Nd.z with kind := 4, l := 0, r := 4 }])] [oTz] := back _ _ _ _ S2 rfl
  clear back S2 SB17
  refine wd (does_mv_t rfl) ?_
  refine wd (does_extract rfl rfl) ?_
  refine wd (does_extract rfl rfl) ?_
  refine wl_alloc ze_Found (by decide) fun b20 w19 hw19 => ?_
  replace S : St A N w w19 [oB b20 T_Found (Found.C (⟨false, SlV.nil, 0⟩ : Found)), oT a7 r15.1, oDStep s18 r15.2.1.steps, oB b13 T_Found (Found.C (⟨r8.2.1.proved, s11, r8.2.1.visits⟩ : Found)), oDStep s11 r8.2.1.steps, oS T_Nd 4 Nd.C s3 ([{ Nd.z with kind := 1, name := (⟨#[112]⟩ : ByteArray) }, { Nd.z with kind := 1, name := (⟨#[113]⟩ : ByteArray) }, { Nd.z with kind := 2 }, { Nd.z with kind := 4, l := 0, r := 1 }, { Nd.z with kind := 5, l := 0, r := 2 }, { Nd.z with kind := 4, l := 0, r := 4 }])] [oTz] := S.new hw19
  refine wl_store_agg ag_Found rfl rfl (S.blk 0) (Found.len _) (by rw [Found.len]; decide) (Found.one _) (store_all (Found.len _)) fun w21 B hw21 zw21 => ?_
  replace S : St A N w w21 [oB b20 T_Found (Found.C (⟨r15.2.1.proved, s18, r15.2.1.visits⟩ : Found)), oT a7 r15.1, oDStep s18 r15.2.1.steps, oB b13 T_Found (Found.C (⟨r8.2.1.proved, s11, r8.2.1.visits⟩ : Found)), oDStep s11 r8.2.1.steps, oS T_Nd 4 Nd.C s3 ([{ Nd.z with kind := 1, name := (⟨#[112]⟩ : ByteArray) }, { Nd.z with kind := 1, name := (⟨#[113]⟩ : ByteArray) }, { Nd.z with kind := 2 }, { Nd.z with kind := 4, l := 0, r := 1 }, { Nd.z with kind := 5, l := 0, r := 2 }, { Nd.z with kind := 4, l := 0, r := 4 }])] [oTz] := S.store 0 B hw21
  clear B
  refine wd (does_as_i rfl) ?_
  refine wl_nil ?_
  refine wc_seq (wc_region ?_)
  refine wd (does_mv_p rfl) ?_
  refine wd (does_buildc (vs := [(0, .int .u64 1)]) (out := Bits.C (Bits.put Bits.z 0 1)) (consP rfl rfl) (by kernel_rfl)) ?_
  refine wd (does_build bu_Sq (Bld.step rfl (congrArg Value.cells rfl) (Bits.len _) (by rw [Sq.len]; decide) (Sq.put_left _ _) (Bld.one rfl rfl (by rw [Sq.len]; decide) (Sq.set_goal _ _) Bld.nil))) ?_
  obtain ⟨r22, er22, H⟩ := bind_ex H
  replace S : St A N w w21 [oT a7 r15.1, oB b20 T_Found (Found.C (⟨r15.2.1.proved, s18, r15.2.1.visits⟩ : Found)), oDStep s18 r15.2.1.steps, oB b13 T_Found (Found.C (⟨r8.2.1.proved, s11, r8.2.1.visits⟩ : Found)), oDStep s11 r8.2.1.steps, oS T_Nd 4 Nd.C s3 ([{ Nd.z with kind := 1, name := (⟨#[112]⟩ : ByteArray) }, { Nd.z with kind := 1, name := (⟨#[113]⟩ : ByteArray) }, { Nd.z with kind := 2 }, { Nd.z with kind := 4, l := 0, r := 1 }, { Nd.z with kind := 5, l := 0, r := 2 }, { Nd.z with kind := 4, l := 0, r := 4 }])] [oTz] := S.front 1
  obtain ⟨B24, MB24, SB24, back⟩ := S.calln 1 ((.z 0 rfl .nil))
  refine wl_call (does_call ca_search_Run) (by decide) (search_Run_st SB24 er22) ?_
  rintro _ w23 ⟨s25, rfl, S2⟩
  replace S : St A N w w23 [oT a7 r22.1, oDStep s25 r22.2.1.steps, oB b20 T_Found (Found.C (⟨r15.2.1.proved, s18, r15.2.1.visits⟩ : Found)), oDStep s18 r15.2.1.steps, oB b13 T_Found (Found.C (⟨r8.2.1.proved, s11, r8.2.1.visits⟩ : Found)), oDStep s11 r8.2.1.steps, oS T_Nd 4 Nd.C s3 ([{ Nd.z with kind := 1, name := (⟨#[112]⟩ : ByteArray) }, { Nd.z with kind := 1, name := (⟨#[113]⟩ : ByteArray) }, { Nd.z with kind := 2 }, { Nd.z with kind := 4, l := 0, r := 1 }, { Nd.z with kind := 5, l := 0, r := 2 }, { Nd.z with kind := 4, l := 0, r := 4 }])] [oTz] := back _ _ _ _ S2 rfl
  clear back S2 SB24
  refine wd (does_mv_t rfl) ?_
  refine wd (does_extract rfl rfl) ?_
  refine wd (does_extract rfl rfl) ?_
  refine wl_alloc ze_Found (by decide) fun b27 w26 hw26 => ?_
  replace S : St A N w w26 [oB b27 T_Found (Found.C (⟨false, SlV.nil, 0⟩ : Found)), oT a7 r22.1, oDStep s25 r22.2.1.steps, oB b20 T_Found (Found.C (⟨r15.2.1.proved, s18, r15.2.1.visits⟩ : Found)), oDStep s18 r15.2.1.steps, oB b13 T_Found (Found.C (⟨r8.2.1.proved, s11, r8.2.1.visits⟩ : Found)), oDStep s11 r8.2.1.steps, oS T_Nd 4 Nd.C s3 ([{ Nd.z with kind := 1, name := (⟨#[112]⟩ : ByteArray) }, { Nd.z with kind := 1, name := (⟨#[113]⟩ : ByteArray) }, { Nd.z with kind := 2 }, { Nd.z with kind := 4, l := 0, r := 1 }, { Nd.z with kind := 5, l := 0, r := 2 }, { Nd.z with kind := 4, l := 0, r := 4 }])] [oTz] := S.new hw26
  refine wl_store_agg ag_Found rfl rfl (S.blk 0) (Found.len _) (by rw [Found.len]; decide) (Found.one _) (store_all (Found.len _)) fun w28 B hw28 zw28 => ?_
  replace S : St A N w w28 [oB b27 T_Found (Found.C (⟨r22.2.1.proved, s25, r22.2.1.visits⟩ : Found)), oT a7 r22.1, oDStep s25 r22.2.1.steps, oB b20 T_Found (Found.C (⟨r15.2.1.proved, s18, r15.2.1.visits⟩ : Found)), oDStep s18 r15.2.1.steps, oB b13 T_Found (Found.C (⟨r8.2.1.proved, s11, r8.2.1.visits⟩ : Found)), oDStep s11 r8.2.1.steps, oS T_Nd 4 Nd.C s3 ([{ Nd.z with kind := 1, name := (⟨#[112]⟩ : ByteArray) }, { Nd.z with kind := 1, name := (⟨#[113]⟩ : ByteArray) }, { Nd.z with kind := 2 }, { Nd.z with kind := 4, l := 0, r := 1 }, { Nd.z with kind := 5, l := 0, r := 2 }, { Nd.z with kind := 4, l := 0, r := 4 }])] [oTz] := S.store 0 B hw28
  clear B
  refine wd (does_as_i rfl) ?_
  refine wl_nil ?_
  refine wc_seq (wc_seq (wc_region ?_))
  refine wd (does_mv_i rfl) ?_
  refine wd (does_ne rfl rfl) ?_
  refine wd (does_mv_b rfl) ?_
  refine wl_guard (j := 2) (pol := false) rfl rfl rfl (by decide) (fun hg => does_mv_i rfl) (by decide) ?_
  refine wl_guard (j := 2) (pol := false) rfl rfl rfl (by decide) (fun hg => does_ne (gv_yes hg) rfl) (by decide) ?_
  refine wd (does_or rfl (fun hp => (gv_yes (and_1 hp)))) ?_
  refine wd (does_mv_b rfl) ?_
  refine wl_guard (j := 6) (pol := false) rfl rfl rfl (by decide) (fun hg => does_mv_i rfl) (by decide) ?_
  refine wl_guard (j := 6) (pol := false) rfl rfl rfl (by decide) (fun hg => does_ne (gv_yes hg) rfl) (by decide) ?_
  refine wd (does_or rfl (fun hp => (gv_yes (and_1 hp)))) ?_
  refine wd (does_mv_b rfl) ?_
  refine wl_guard (j := 10) (pol := false) rfl rfl rfl (by decide) (fun hg => does_mv_i rfl) (by decide) ?_
  refine wl_guard (j := 10) (pol := false) rfl rfl rfl (by decide) (fun hg => does_ne (gv_yes hg) rfl) (by decide) ?_
  refine wd (does_or rfl (fun hp => (gv_yes (and_1 hp)))) ?_
  refine wd (does_mv_b rfl) ?_
  refine wl_guard (j := 14) (pol := false) rfl rfl rfl (by decide) (fun hg => does_fieldAddr fl_Found_proved rfl (o' := 0) rfl) (by decide) ?_
  refine wl_guard (j := 14) (pol := false) rfl rfl rfl (by decide) (fun hg => does_load on_bool (gv_yes hg) ((S.blk 5).cell (Found.get_proved _))) (by decide) ?_
  refine wd (does_or rfl (fun hp => (gv_yes (and_1 hp)))) ?_
  refine wd (does_mv_b rfl) ?_
  refine wl_guard (j := 18) (pol := false) rfl rfl rfl (by decide) (fun hg => does_fieldAddr fl_Found_visits rfl (o' := 2) rfl) (by decide) ?_
  refine wl_guard (j := 18) (pol := false) rfl rfl rfl (by decide) (fun hg => does_load on_int (gv_yes hg) ((S.blk 5).cell (Found.get_visits _))) (by decide) ?_
  refine wl_guard (j := 18) (pol := false) rfl rfl rfl (by decide) (fun hg => does_ne (gv_yes hg) rfl) (by decide) ?_
  refine wd (does_or rfl (fun hp => (gv_yes (and_1 hp)))) ?_
  refine wd (does_mv_b rfl) ?_
  refine wl_guard (j := 23) (pol := false) rfl rfl rfl (by decide) (fun hg => does_fieldAddr fl_Found_steps rfl (o' := 1) rfl) (by decide) ?_
  refine wl_guard (j := 23) (pol := false) rfl rfl rfl (by decide) (fun hg => does_load on_L_api_Step (gv_yes hg) ((S.blk 5).cell (Found.get_steps _))) (by decide) ?_
  refine wl_guard (j := 23) (pol := false) rfl rfl rfl (by decide) (fun hg => does_lenD sl_L_api_Step (gv_yes hg) (S.onO 6)) (by decide) ?_
  refine wl_guard (j := 23) (pol := false) rfl rfl rfl (by decide) (fun hg => does_ne (gv_yes hg) rfl) (by decide) ?_
  refine wd (does_or rfl (fun hp => (gv_yes (and_1 hp)))) ?_
  refine wd (does_mv_b rfl) ?_
  refine wl_guard (j := 29) (pol := false) rfl rfl rfl (by decide) (fun hg => does_fieldAddr fl_Found_proved rfl (o' := 0) rfl) (by decide) ?_
  refine wl_guard (j := 29) (pol := false) rfl rfl rfl (by decide) (fun hg => does_load on_bool (gv_yes hg) ((S.blk 0).cell (Found.get_proved _))) (by decide) ?_
  refine wl_guard (j := 29) (pol := false) rfl rfl rfl (by decide) (fun hg => does_not (gv_yes hg)) (by decide) ?_
  refine wd (does_or rfl (fun hp => (gv_yes (and_1 hp)))) ?_
  refine wd (does_mv_b rfl) ?_
  refine wl_guard (j := 34) (pol := false) rfl rfl rfl (by decide) (fun hg => does_fieldAddr fl_Found_steps rfl (o' := 1) rfl) (by decide) ?_
  refine wl_guard (j := 34) (pol := false) rfl rfl rfl (by decide) (fun hg => does_load on_L_api_Step (gv_yes hg) ((S.blk 0).cell (Found.get_steps _))) (by decide) ?_
  refine wl_guard (j := 34) (pol := false) rfl rfl rfl (by decide) (fun hg => does_lenD sl_L_api_Step (gv_yes hg) (S.onO 2)) (by decide) ?_
  refine wl_guard (j := 34) (pol := false) rfl rfl rfl (by decide) (fun hg => does_ne (gv_yes hg) rfl) (by decide) ?_
  refine wd (does_or rfl (fun hp => (gv_yes (and_1 hp)))) ?_
  refine wl_nil ?_
  refine wc_if rfl (fun hc29 => ?_) (fun hc29 => ?_)
  · replace H := if_t hc29 H
    refine wc_seq (wc_region ?_)
    refine wd (does_as_b rfl) ?_
    refine wl_nil ?_
    refine wc_ret ?_
    refine ⟨_, (rets1 (retOne_tmp rfl)), ?_⟩
    replace S : St A N w w28 [] [] := S.arr [] []
    obtain rfl := Option.some.inj H
    exact ⟨rfl, S⟩
  replace H := if_f hc29 H
  refine wc_skip ?_
  refine wc_seq (wc_region ?_)
  refine wd (does_fieldAddr fl_Found_steps rfl (o' := 1) rfl) ?_
  refine wd (does_load on_L_api_Step rfl ((S.blk 5).cell (Found.get_steps _))) ?_
  obtain ⟨hi30, H⟩ := chk_ex H
  refine wd (does_indexD sl_L_api_Step rfl rfl (S.onO 6) (inb_ex hi30).1 (inb_ex hi30).2) ?_
  refine wd (does_fieldAddr fl_Step_rule rfl (o' := _) rfl) ?_
  refine wd (does_load on_api_Rule rfl (oD.cell (z := PStep.z) (S.onO 6) (inb_ex hi30) (fun _ => rStep.get_rule))) ?_
  refine wd (does_eq rfl rfl) ?_
  refine wd (does_mv_b rfl) ?_
  refine wl_guard (j := 6) (pol := true) rfl rfl rfl (by decide) (fun hg => does_fieldAddr fl_Found_steps rfl (o' := 1) rfl) (by decide) ?_
  refine wl_guard (j := 6) (pol := true) rfl rfl rfl (by decide) (fun hg => does_load on_L_api_Step (gv_yes hg) ((S.blk 5).cell (Found.get_steps _))) (by decide) ?_
  obtain ⟨hi31, H⟩ := chk_g H
  refine wl_guard (j := 6) (pol := true) rfl rfl rfl (by decide) (fun hg => does_indexD sl_L_api_Step (gv_yes hg) rfl (S.onO 6) (inb_ex (hi31 (by simpa using hg))).1 (inb_ex (hi31 (by simpa using hg))).2) (by decide) ?_
  refine wl_guard (j := 6) (pol := true) rfl rfl rfl (by decide) (fun hg => does_fieldAddr fl_Step_kids (gv_yes hg) (o' := _) rfl) (by decide) ?_
  obtain ⟨hg32, H⟩ := chk_ex H
  refine wl_gon (j := 6) (pol := true) rfl rfl rfl (by decide) (by simpa using hg32) ?_
  replace S : St A N w w28 [oB b27 T_Found (Found.C (⟨r22.2.1.proved, s25, r22.2.1.visits⟩ : Found)), oT a7 r22.1, oDStep s25 r22.2.1.steps, oB b20 T_Found (Found.C (⟨r15.2.1.proved, s18, r15.2.1.visits⟩ : Found)), oDStep s18 r15.2.1.steps, oB b13 T_Found (Found.C (⟨r8.2.1.proved, s11, r8.2.1.visits⟩ : Found)), oS T_Nd 4 Nd.C s3 ([{ Nd.z with kind := 1, name := (⟨#[112]⟩ : ByteArray) }, { Nd.z with kind := 1, name := (⟨#[113]⟩ : ByteArray) }, { Nd.z with kind := 2 }, { Nd.z with kind := 4, l := 0, r := 1 }, { Nd.z with kind := 5, l := 0, r := 2 }, { Nd.z with kind := 4, l := 0, r := 4 }])] [oDStep s11 r8.2.1.steps, oTz] := S.frzO 6
  obtain ⟨s33, hc34, S⟩ := S.viewStep 0 (inb_ex (hi31 (by simpa using hg32)))
  replace S : St A N w w28 [oB b27 T_Found (Found.C (⟨r22.2.1.proved, s25, r22.2.1.visits⟩ : Found)), oT a7 r22.1, oDStep s25 r22.2.1.steps, oB b20 T_Found (Found.C (⟨r15.2.1.proved, s18, r15.2.1.visits⟩ : Found)), oDStep s18 r15.2.1.steps, oB b13 T_Found (Found.C (⟨r8.2.1.proved, s11, r8.2.1.visits⟩ : Found)), oS T_Nd 4 Nd.C s3 ([{ Nd.z with kind := 1, name := (⟨#[112]⟩ : ByteArray) }, { Nd.z with kind := 1, name := (⟨#[113]⟩ : ByteArray) }, { Nd.z with kind := 2 }, { Nd.z with kind := 4, l := 0, r := 1 }, { Nd.z with kind := 5, l := 0, r := 2 }, { Nd.z with kind := 4, l := 0, r := 4 }])] [fS 1 IC s33 ((at_ PStep.z r8.2.1.steps 2).kids), oDStep s11 r8.2.1.steps, oTz] := S
  refine wd (does_load on_L_int (gv_yes (by simpa using hg32)) (hc34.get (Step.get_kids _))) ?_
  obtain ⟨hg35, H⟩ := chk_ex H
  refine wl_gon (j := 6) (pol := true) rfl rfl rfl (by decide) (by simpa using hg35) ?_
  refine wl_lits (C := IC) (l := [1]) (vs := [.int .i64 1]) sl_L_int el_int.zero rfl rfl (fun _ _ => rfl) (by decide) rfl (by decide) fun b37 w36 s38 hBw36 hw36 => ?_
  replace S : St A N w w36 [oS T_int 1 IC s38 ([1]), oB b27 T_Found (Found.C (⟨r22.2.1.proved, s25, r22.2.1.visits⟩ : Found)), oT a7 r22.1, oDStep s25 r22.2.1.steps, oB b20 T_Found (Found.C (⟨r15.2.1.proved, s18, r15.2.1.visits⟩ : Found)), oDStep s18 r15.2.1.steps, oB b13 T_Found (Found.C (⟨r8.2.1.proved, s11, r8.2.1.visits⟩ : Found)), oS T_Nd 4 Nd.C s3 ([{ Nd.z with kind := 1, name := (⟨#[112]⟩ : ByteArray) }, { Nd.z with kind := 1, name := (⟨#[113]⟩ : ByteArray) }, { Nd.z with kind := 2 }, { Nd.z with kind := 4, l := 0, r := 1 }, { Nd.z with kind := 5, l := 0, r := 2 }, { Nd.z with kind := 4, l := 0, r := 4 }])] [fS 1 IC s33 ((at_ PStep.z r8.2.1.steps 2).kids), oDStep s11 r8.2.1.steps, oTz] := S.lit hBw36 hw36 (by simp)
  obtain ⟨r39, er39, H⟩ := bind_ex H
  refine wl_gcall (j := 6) (pol := true) rfl rfl rfl (by decide) (fun hg => does_callg ca_ref03_Ints (cons2 rfl (cons2 rfl rfl))) (by decide) (fun hg => (have ⟨M, SS⟩ := S.lend ((.z 0 rfl (.s 0 rfl .nil))); quiet (ref03_Ints_st SS (if_t (by simpa using hg) er39)) (fun v w' h => ⟨h.1, _, _, h.2⟩))) fun w40 hw40 => ?_
  replace S := S.ext hw40
  refine wd (does_and rfl (fun hp => (gv_yes (and_1 hp)))) ?_
  refine wd (does_mv_b rfl) ?_
  refine wl_guard (j := 15) (pol := true) rfl rfl rfl (by decide) (fun hg => does_fieldAddr fl_Found_steps rfl (o' := 1) rfl) (by decide) ?_
  refine wl_guard (j := 15) (pol := true) rfl rfl rfl (by decide) (fun hg => does_load on_L_api_Step (gv_yes hg) ((S.blk 6).cell (Found.get_steps _))) (by decide) ?_
  obtain ⟨hi41, H⟩ := chk_g H
  refine wl_guard (j := 15) (pol := true) rfl rfl rfl (by decide) (fun hg => does_indexD sl_L_api_Step (gv_yes hg) rfl (S.onZ 1) (inb_ex (hi41 (by simpa using hg))).1 (inb_ex (hi41 (by simpa using hg))).2) (by decide) ?_
  refine wl_guard (j := 15) (pol := true) rfl rfl rfl (by decide) (fun hg => does_fieldAddr fl_Step_rule (gv_yes hg) (o' := _) rfl) (by decide) ?_
  refine wl_guard (j := 15) (pol := true) rfl rfl rfl (by decide) (fun hg => does_load on_api_Rule (gv_yes hg) (oD.cell (z := PStep.z) (S.onZ 1) (inb_ex (hi41 (by simpa using hg))) (fun _ => rStep.get_rule))) (by decide) ?_
  refine wl_guard (j := 15) (pol := true) rfl rfl rfl (by decide) (fun hg => does_eq (gv_yes hg) rfl) (by decide) ?_
  refine wd (does_and rfl (fun hp => (gv_yes (and_1 hp)))) ?_
  refine wd (does_mv_b rfl) ?_
  refine wl_guard (j := 23) (pol := true) rfl rfl rfl (by decide) (fun hg => does_fieldAddr fl_Found_steps rfl (o' := 1) rfl) (by decide) ?_
  refine wl_guard (j := 23) (pol := true) rfl rfl rfl (by decide) (fun hg => does_load on_L_api_Step (gv_yes hg) ((S.blk 6).cell (Found.get_steps _))) (by decide) ?_
  obtain ⟨hi42, H⟩ := chk_g H
  refine wl_guard (j := 23) (pol := true) rfl rfl rfl (by decide) (fun hg => does_indexD sl_L_api_Step (gv_yes hg) rfl (S.onZ 1) (inb_ex (hi42 (by simpa using hg))).1 (inb_ex (hi42 (by simpa using hg))).2) (by decide) ?_
  refine wl_guard (j := 23) (pol := true) rfl rfl rfl (by decide) (fun hg => does_fieldAddr fl_Step_kids (gv_yes hg) (o' := _) rfl) (by decide) ?_
  obtain ⟨hg43, H⟩ := chk_ex H
  refine wl_gon (j := 23) (pol := true) rfl rfl rfl (by decide) (by simpa using hg43) ?_
  obtain ⟨s44, hc45, S⟩ := S.viewStep 1 (inb_ex (hi42 (by simpa using hg43)))
  replace S : St A N w w40 [oS T_int 1 IC s38 ([1]), oB b27 T_Found (Found.C (⟨r22.2.1.proved, s25, r22.2.1.visits⟩ : Found)), oT a7 r22.1, oDStep s25 r22.2.1.steps, oB b20 T_Found (Found.C (⟨r15.2.1.proved, s18, r15.2.1.visits⟩ : Found)), oDStep s18 r15.2.1.steps, oB b13 T_Found (Found.C (⟨r8.2.1.proved, s11, r8.2.1.visits⟩ : Found)), oS T_Nd 4 Nd.C s3 ([{ Nd.z with kind := 1, name := (⟨#[112]⟩ : ByteArray) }, { Nd.z with kind := 1, name := (⟨#[113]⟩ : ByteArray) }, { Nd.z with kind := 2 }, { Nd.z with kind := 4, l := 0, r := 1 }, { Nd.z with kind := 5, l := 0, r := 2 }, { Nd.z with kind := 4, l := 0, r := 4 }])] [fS 1 IC s44 ((at_ PStep.z r8.2.1.steps 3).kids), fS 1 IC s33 ((at_ PStep.z r8.2.1.steps 2).kids), oDStep s11 r8.2.1.steps, oTz] := S
  refine wd (does_load on_L_int (gv_yes (by simpa using hg43)) (hc45.get (Step.get_kids _))) ?_
  obtain ⟨hg46, H⟩ := chk_ex H
  refine wl_gon (j := 23) (pol := true) rfl rfl rfl (by decide) (by simpa using hg46) ?_
  refine wl_lits (C := IC) (l := [0, 2]) (vs := [.int .i64 0, .int .i64 2]) sl_L_int el_int.zero rfl rfl (fun _ _ => rfl) (by decide) rfl (by decide) fun b48 w47 s49 hBw47 hw47 => ?_
  replace S : St A N w w47 [oS T_int 1 IC s49 ([0, 2]), oS T_int 1 IC s38 ([1]), oB b27 T_Found (Found.C (⟨r22.2.1.proved, s25, r22.2.1.visits⟩ : Found)), oT a7 r22.1, oDStep s25 r22.2.1.steps, oB b20 T_Found (Found.C (⟨r15.2.1.proved, s18, r15.2.1.visits⟩ : Found)), oDStep s18 r15.2.1.steps, oB b13 T_Found (Found.C (⟨r8.2.1.proved, s11, r8.2.1.visits⟩ : Found)), oS T_Nd 4 Nd.C s3 ([{ Nd.z with kind := 1, name := (⟨#[112]⟩ : ByteArray) }, { Nd.z with kind := 1, name := (⟨#[113]⟩ : ByteArray) }, { Nd.z with kind := 2 }, { Nd.z with kind := 4, l := 0, r := 1 }, { Nd.z with kind := 5, l := 0, r := 2 }, { Nd.z with kind := 4, l := 0, r := 4 }])] [fS 1 IC s44 ((at_ PStep.z r8.2.1.steps 3).kids), fS 1 IC s33 ((at_ PStep.z r8.2.1.steps 2).kids), oDStep s11 r8.2.1.steps, oTz] := S.lit hBw47 hw47 (by simp)
  obtain ⟨r50, er50, H⟩ := bind_ex H
  refine wl_gcall (j := 23) (pol := true) rfl rfl rfl (by decide) (fun hg => does_callg ca_ref03_Ints (cons2 rfl (cons2 rfl rfl))) (by decide) (fun hg => (have ⟨M, SS⟩ := S.lend ((.z 0 rfl (.s 0 rfl .nil))); quiet (ref03_Ints_st SS (if_t (by simpa using hg) er50)) (fun v w' h => ⟨h.1, _, _, h.2⟩))) fun w51 hw51 => ?_
  replace S := S.ext hw51
  refine wd (does_and rfl (fun hp => (gv_yes (and_1 hp)))) ?_
  refine wd (does_mv_b rfl) ?_
  refine wl_guard (j := 32) (pol := true) rfl rfl rfl (by decide) (fun hg => does_fieldAddr fl_Found_steps rfl (o' := 1) rfl) (by decide) ?_
  refine wl_guard (j := 32) (pol := true) rfl rfl rfl (by decide) (fun hg => does_load on_L_api_Step (gv_yes hg) ((S.blk 2).cell (Found.get_steps _))) (by decide) ?_
  obtain ⟨hi52, H⟩ := chk_g H
  refine wl_guard (j := 32) (pol := true) rfl rfl rfl (by decide) (fun hg => does_indexD sl_L_api_Step (gv_yes hg) rfl (S.onO 4) (inb_ex (hi52 (by simpa using hg))).1 (inb_ex (hi52 (by simpa using hg))).2) (by decide) ?_
  refine wl_guard (j := 32) (pol := true) rfl rfl rfl (by decide) (fun hg => does_fieldAddr fl_Step_rule (gv_yes hg) (o' := _) rfl) (by decide) ?_
  refine wl_guard (j := 32) (pol := true) rfl rfl rfl (by decide) (fun hg => does_load on_api_Rule (gv_yes hg) (oD.cell (z := PStep.z) (S.onO 4) (inb_ex (hi52 (by simpa using hg))) (fun _ => rStep.get_rule))) (by decide) ?_
  refine wl_guard (j := 32) (pol := true) rfl rfl rfl (by decide) (fun hg => does_eq (gv_yes hg) rfl) (by decide) ?_
  refine wd (does_and rfl (fun hp => (gv_yes (and_1 hp)))) ?_
  refine wd (does_as_b rfl) ?_
  refine wl_nil ?_
  refine wc_ret ?_
  refine ⟨_, (rets1 (retOne_tmp rfl)), ?_⟩
  replace S : St A N w w51 [] [] := S.arr [] []
  obtain rfl := Option.some.inj H
  exact ⟨rfl, S⟩
end Go.Proofs.YtjjkhjieegmphaaDoor
end
section
namespace Go.Proofs.YtjjkhjieegmphaaDoor
open Gw Go.RowKit
set_option linter.unusedVariables false
set_option linter.unusedSimpArgs false

end Go.Proofs.YtjjkhjieegmphaaDoor
end
section
namespace Go.Proofs.YtjjkhjieegmphaaDoor
open Gw Go.RowKit
set_option linter.unusedVariables false
set_option linter.unusedSimpArgs false
set_option maxHeartbeats 4000000

theorem ref11_Steps_st {A : Nat → Prop} {N : Oth} {w : World} {a0 : List PStep} {s_0 : SlV} {a1 : List PStep} {s_1 : SlV} (S : St A N w w [] [oDStep s_0 a0, oDStep s_1 a1]) {r : Bool} (H : ref11_Steps.f a0 a1 = some r) :
    Calls PP F_ref11_Steps #[s_0.v, s_1.v] w fun e w' => ∃ v, e = .returned v ∧ (v = .bool r ∧ St A N w w' [] []) := by
  unfold ref11_Steps.f at H
  refine calls_of_wc (n := 61) fn_ref11_Steps rfl rfl (by simp) ?_
  refine wc_seq (wc_region ?_)
  refine wd (does_as_b rfl) ?_
  refine wl_nil ?_
  refine wc_seq (wc_seq (wc_region ?_))
  refine wd (does_mv_l rfl) ?_
  refine wd (does_lenD sl_L_api_Step rfl (S.onZ 0)) ?_
  refine wd (does_mv_l rfl) ?_
  refine wd (does_lenD sl_L_api_Step rfl (S.onZ 1)) ?_
  refine wd (does_ne rfl rfl) ?_
  refine wl_nil ?_
  refine wc_if rfl (fun hc1 => ?_) (fun hc1 => ?_)
  · replace H := if_t hc1 H
    refine wc_seq (wc_region ?_)
    refine wd (does_as_b rfl) ?_
    refine wl_nil ?_
    refine wc_ret ?_
    refine ⟨_, (rets1 (retOne_tmp rfl)), ?_⟩
    replace S : St A N w w [] [] := S.arr [] []
    obtain rfl := Option.some.inj H
    exact ⟨rfl, S⟩
  replace H := if_f hc1 H
  refine wc_skip ?_
  refine wc_seq (wc_seq (wc_region ?_))
  refine wd (does_as_i rfl) ?_
  refine wl_nil ?_
  obtain ⟨o2, e2, Ho2⟩ := bind_ex H
  clear H
  refine wc_cutq [4, 5, 6, 7, 13, 14, 15, 16, 17, 18, 19, 20, 21, 22, 23, 24, 25, 26, 27, 28, 29, 30, 31, 32, 33, 34, 35, 36, 37, 38, 39, 40, 41, 42, 43, 44, 45, 46, 47, 48, 49, 50, 51, 52, 53, 54, 55, 56, 57, 58, 59, 60] (fun fr W => ∃ s2 : Unit, o2 = .inl s2 ∧ St A N w W [] [oDStep s_0 a0, oDStep s_1 a1]) ?_ ?_
  · refine wc_block ?_
    refine wc_loopm (α := Nat × Int × Unit) [4, 5, 6, 7, 13, 14, 15, 16, 17, 18, 19, 20, 21, 22, 23, 24, 25, 26, 27, 28, 29, 30, 31, 32, 33, 34, 35, 36, 37, 38, 39, 40, 41, 42, 43, 44, 45, 46, 47, 48, 49, 50, 51, 52, 53, 54, 55, 56, 57, 58, 59, 60] (fun x fr W => (x.1 : Int) = (a0.length : Int) - x.2.1 ∧ 0 ≤ x.2.1 ∧ forN (fun i s => ref11_Steps.b0 a1 a0 i) x.1 x.2.1 x.2.2 = some o2 ∧ fr 5 = .int .i64 x.2.1 ∧ St A N w W [] [oDStep s_0 a0, oDStep s_1 a1]) (fun x => x.1) (((a0.length : Int) - 0).toNat, 0, ()) ⟨(by dsimp only; have hle := Int.natCast_nonneg (a0.length); omega), (Int.le_refl _), (by dsimp only; exact e2), rfl, S⟩ ?_
    rintro ⟨m2, i2, _⟩ g2 u2 ⟨hm2, hl2, e2, q2_i, S⟩
    try dsimp only at hm2
    try dsimp only at hl2
    try dsimp only at e2
    try dsimp only at S
    try dsimp only at q2_i
    refine wc_seq (wc_seq (wc_region ?_))
    refine wd (does_mv_i q2_i) ?_
    refine wd (does_mv_l rfl) ?_
    refine wd (does_lenD sl_L_api_Step rfl (S.onZ 0)) ?_
    refine wd (does_lt rfl rfl) ?_
    refine wl_nil ?_
    refine wc_if rfl (fun hc3 => ?_) (fun hc3 => ?_)
    rotate_left
    · refine wc_exit ?_
      have hge : (a0.length : Int) ≤ i2 := Int.not_lt.1 (of_decide_eq_false hc3)
      obtain rfl : m2 = 0 := by omega
      replace e2 := forN_0 e2
      exact ⟨rfl, (((((Dif.self _ _ _).upd rfl _).upd rfl _).upd rfl _).upd rfl _), (), e2, S⟩
    refine wc_skip ?_
    have hlt2 : i2 < (a0.length : Int) := of_decide_eq_true hc3
    obtain ⟨m2, rfl⟩ : ∃ m, m2 = m + 1 := ⟨m2 - 1, by omega⟩
    obtain ⟨q2, H, e2⟩ := forN_s e2
    unfold ref11_Steps.b0 at H
    try dsimp only at H
    have hb2 := (S.lenDZ 0)
    refine wc_seq ?_
    refine wc_block ?_
    refine wc_seq (wc_region ?_)
    refine wd (does_mv_l rfl) ?_
    refine wd (does_mv_i q2_i) ?_
    refine wd (does_indexD sl_L_api_Step rfl rfl (S.onZ 0) (And.intro (show 0 ≤ i2 by omega) (show i2 < (a0.length : Int) from hlt2)).1 (And.intro (show 0 ≤ i2 by omega) (show i2 < (a0.length : Int) from hlt2)).2) ?_
    obtain ⟨s5, hc6, S⟩ := S.viewStep 0 (And.intro (show 0 ≤ i2 by omega) (show i2 < (a0.length : Int) from hlt2))
    replace S : St A N w u2 [] [fS 1 IC s5 ((at_ PStep.z a0 i2).kids), oDStep s_0 a0, oDStep s_1 a1] := S
    refine wd (does_load_agg ag_Step rfl hc6 (Step.len _)) ?_
    refine wl_alloc ze_Step (by decide) fun b8 w7 hw7 => ?_
    replace S : St A N w w7 [oB b8 T_Step (Step.C (⟨Sq.z, false, 0, 0, SlV.nil⟩ : Step))] [fS 1 IC s5 ((at_ PStep.z a0 i2).kids), oDStep s_0 a0, oDStep s_1 a1] := S.new hw7
    refine wl_store_agg ag_Step rfl rfl (S.blk 0) (Step.len _) (by rw [Step.len]; decide) (Step.one _) (store_all (Step.len _)) fun w9 B hw9 zw9 => ?_
    replace S : St A N w w9 [oB b8 T_Step (Step.C (⟨(at_ PStep.z a0 i2).seq, (at_ PStep.z a0 i2).proved, (at_ PStep.z a0 i2).rule, (at_ PStep.z a0 i2).main, s5⟩ : Step))] [fS 1 IC s5 ((at_ PStep.z a0 i2).kids), oDStep s_0 a0, oDStep s_1 a1] := S.store 0 B hw9
    clear B
    refine wl_nil ?_
    refine wc_seq (wc_region ?_)
    refine wd (does_mv_l rfl) ?_
    refine wd (does_mv_i q2_i) ?_
    obtain ⟨hi10, H⟩ := chk_ex H
    refine wd (does_indexD sl_L_api_Step rfl rfl (S.onZ 2) (inb_ex hi10).1 (inb_ex hi10).2) ?_
    obtain ⟨s11, hc12, S⟩ := S.viewStep 2 (inb_ex hi10)
    replace S : St A N w w9 [oB b8 T_Step (Step.C (⟨(at_ PStep.z a0 i2).seq, (at_ PStep.z a0 i2).proved, (at_ PStep.z a0 i2).rule, (at_ PStep.z a0 i2).main, s5⟩ : Step))] [fS 1 IC s11 ((at_ PStep.z a1 i2).kids), fS 1 IC s5 ((at_ PStep.z a0 i2).kids), oDStep s_0 a0, oDStep s_1 a1] := S
    refine wd (does_load_agg ag_Step rfl hc12 (Step.len _)) ?_
    refine wl_alloc ze_Step (by decide) fun b14 w13 hw13 => ?_
    replace S : St A N w w13 [oB b14 T_Step (Step.C (⟨Sq.z, false, 0, 0, SlV.nil⟩ : Step)), oB b8 T_Step (Step.C (⟨(at_ PStep.z a0 i2).seq, (at_ PStep.z a0 i2).proved, (at_ PStep.z a0 i2).rule, (at_ PStep.z a0 i2).main, s5⟩ : Step))] [fS 1 IC s11 ((at_ PStep.z a1 i2).kids), fS 1 IC s5 ((at_ PStep.z a0 i2).kids), oDStep s_0 a0, oDStep s_1 a1] := S.new hw13
    refine wl_store_agg ag_Step rfl rfl (S.blk 0) (Step.len _) (by rw [Step.len]; decide) (Step.one _) (store_all (Step.len _)) fun w15 B hw15 zw15 => ?_
    replace S : St A N w w15 [oB b14 T_Step (Step.C (⟨(at_ PStep.z a1 i2).seq, (at_ PStep.z a1 i2).proved, (at_ PStep.z a1 i2).rule, (at_ PStep.z a1 i2).main, s11⟩ : Step)), oB b8 T_Step (Step.C (⟨(at_ PStep.z a0 i2).seq, (at_ PStep.z a0 i2).proved, (at_ PStep.z a0 i2).rule, (at_ PStep.z a0 i2).main, s5⟩ : Step))] [fS 1 IC s11 ((at_ PStep.z a1 i2).kids), fS 1 IC s5 ((at_ PStep.z a0 i2).kids), oDStep s_0 a0, oDStep s_1 a1] := S.store 0 B hw15
    clear B
    refine wl_nil ?_
    refine wc_seq (wc_region ?_)
    refine wd (does_fieldAddr fl_Step_seq rfl (o' := 0) rfl) ?_
    refine wd (does_load_agg ag_Sq rfl ((S.blk 1).cells (Step.sub_seq _)) (Sq.len _)) ?_
    refine wd (does_fieldAddr fl_Step_seq rfl (o' := 0) rfl) ?_
    refine wd (does_load_agg ag_Sq rfl ((S.blk 0).cells (Step.sub_seq _)) (Sq.len _)) ?_
    refine wd (does_nev eg_Sq (eq_Sq _ _) (by decide) rfl rfl) ?_
    refine wd (does_mv_b rfl) ?_
    refine wl_guard (j := 5) (pol := false) rfl rfl rfl (by decide) (fun hg => does_fieldAddr fl_Step_proved rfl (o' := 17) rfl) (by decide) ?_
    refine wl_guard (j := 5) (pol := false) rfl rfl rfl (by decide) (fun hg => does_load on_bool (gv_yes hg) ((S.blk 1).cell (Step.get_proved _))) (by decide) ?_
    refine wl_guard (j := 5) (pol := false) rfl rfl rfl (by decide) (fun hg => does_fieldAddr fl_Step_proved rfl (o' := 17) rfl) (by decide) ?_
    refine wl_guard (j := 5) (pol := false) rfl rfl rfl (by decide) (fun hg => does_load on_bool (gv_yes hg) ((S.blk 0).cell (Step.get_proved _))) (by decide) ?_
    refine wl_guard (j := 5) (pol := false) rfl rfl rfl (by decide) (fun hg => does_neb un_bool (gv_yes hg) (gv_yes hg)) (by decide) ?_
    refine wd (does_or rfl (fun hp => (gv_yes (and_1 hp)))) ?_
    refine wd (does_mv_b rfl) ?_
    refine wl_guard (j := 12) (pol := false) rfl rfl rfl (by decide) (fun hg => does_fieldAddr fl_Step_rule rfl (o' := 18) rfl) (by decide) ?_
    refine wl_guard (j := 12) (pol := false) rfl rfl rfl (by decide) (fun hg => does_load on_api_Rule (gv_yes hg) ((S.blk 1).cell (Step.get_rule _))) (by decide) ?_
    refine wl_guard (j := 12) (pol := false) rfl rfl rfl (by decide) (fun hg => does_fieldAddr fl_Step_rule rfl (o' := 18) rfl) (by decide) ?_
    refine wl_guard (j := 12) (pol := false) rfl rfl rfl (by decide) (fun hg => does_load on_api_Rule (gv_yes hg) ((S.blk 0).cell (Step.get_rule _))) (by decide) ?_
    refine wl_guard (j := 12) (pol := false) rfl rfl rfl (by decide) (fun hg => does_ne (gv_yes hg) (gv_yes hg)) (by decide) ?_
    refine wd (does_or rfl (fun hp => (gv_yes (and_1 hp)))) ?_
    refine wd (does_mv_b rfl) ?_
    refine wl_guard (j := 19) (pol := false) rfl rfl rfl (by decide) (fun hg => does_fieldAddr fl_Step_main rfl (o' := 19) rfl) (by decide) ?_
    refine wl_guard (j := 19) (pol := false) rfl rfl rfl (by decide) (fun hg => does_load on_int (gv_yes hg) ((S.blk 1).cell (Step.get_main _))) (by decide) ?_
    refine wl_guard (j := 19) (pol := false) rfl rfl rfl (by decide) (fun hg => does_fieldAddr fl_Step_main rfl (o' := 19) rfl) (by decide) ?_
    refine wl_guard (j := 19) (pol := false) rfl rfl rfl (by decide) (fun hg => does_load on_int (gv_yes hg) ((S.blk 0).cell (Step.get_main _))) (by decide) ?_
    refine wl_guard (j := 19) (pol := false) rfl rfl rfl (by decide) (fun hg => does_ne (gv_yes hg) (gv_yes hg)) (by decide) ?_
    refine wd (does_or rfl (fun hp => (gv_yes (and_1 hp)))) ?_
    refine wd (does_mv_b rfl) ?_
    refine wl_guard (j := 26) (pol := false) rfl rfl rfl (by decide) (fun hg => does_fieldAddr fl_Step_kids rfl (o' := 20) rfl) (by decide) ?_
    refine wl_guard (j := 26) (pol := false) rfl rfl rfl (by decide) (fun hg => does_load on_L_int (gv_yes hg) ((S.blk 1).cell (Step.get_kids _))) (by decide) ?_
    refine wl_guard (j := 26) (pol := false) rfl rfl rfl (by decide) (fun hg => does_fieldAddr fl_Step_kids rfl (o' := 20) rfl) (by decide) ?_
    refine wl_guard (j := 26) (pol := false) rfl rfl rfl (by decide) (fun hg => does_load on_L_int (gv_yes hg) ((S.blk 0).cell (Step.get_kids _))) (by decide) ?_
    obtain ⟨r16, er16, H⟩ := bind_ex H
    refine wl_gcall (j := 26) (pol := false) rfl rfl rfl (by decide) (fun hg => does_callg ca_ref03_Ints (cons2 (gv_yes hg) (cons2 (gv_yes hg) rfl))) (by decide) (fun hg => (have ⟨M, SS⟩ := S.lend ((.z 1 rfl (.z 0 rfl .nil))); quiet (ref03_Ints_st SS (if_t (by simpa using hg) er16)) (fun v w' h => ⟨h.1, _, _, h.2⟩))) fun w17 hw17 => ?_
    replace S := S.ext hw17
    refine wl_guard (j := 26) (pol := false) rfl rfl rfl (by decide) (fun hg => does_not (gv_yes hg)) (by decide) ?_
    refine wd (does_or rfl (fun hp => (gv_yes (and_1 hp)))) ?_
    refine wl_nil ?_
    refine wc_if rfl (fun hc18 => ?_) (fun hc18 => ?_)
    · replace H := if_t hc18 H
      refine wc_seq (wc_region ?_)
      refine wd (does_as_b rfl) ?_
      refine wl_nil ?_
      refine wc_ret ?_
      refine ⟨_, (rets1 (retOne_tmp rfl)), ?_⟩
      replace S : St A N w w17 [] [] := S.arr [] []
      obtain rfl := Option.some.inj H
      obtain rfl := e2
      obtain rfl := aft_r Ho2
      exact ⟨rfl, S⟩
    replace H := if_f hc18 H
    refine wc_skip ?_
    refine wc_region ?_
    refine wd (does_mv_i q2_i) ?_
    refine wd (does_addc rfl rfl (c := i2 + 1) rfl (by omega) (by omega)) ?_
    refine wd (does_as_i rfl) ?_
    refine wl_nil ?_
    replace S : St A N w w17 [] [oDStep s_0 a0, oDStep s_1 a1] := S.arr [] [2, 3]
    obtain rfl := Option.some.inj H
    exact ⟨rfl, ((((((((((((((((((((((((((((((((((((((((((((((((((((Dif.self _ _ _).upd rfl _).upd rfl _).upd rfl _).upd rfl _).upd rfl _).upd rfl _).upd rfl _).upd rfl _).upd rfl _).upd rfl _).upd rfl _).upd rfl _).upd rfl _).upd rfl _).upd rfl _).upd rfl _).upd rfl _).upd rfl _).upd rfl _).upd rfl _).upd rfl _).upd rfl _).upd rfl _).upd rfl _).upd rfl _).upd rfl _).upd rfl _).upd rfl _).upd rfl _).upd rfl _).upd rfl _).upd rfl _).upd rfl _).upd rfl _).upd rfl _).upd rfl _).upd rfl _).upd rfl _).upd rfl _).upd rfl _).upd rfl _).upd rfl _).upd rfl _).upd rfl _).upd rfl _).upd rfl _).upd rfl _).upd rfl _).upd rfl _).upd rfl _).upd rfl _), (m2, i2 + 1, ()), ⟨(by dsimp only; omega), (by dsimp only; omega), e2, rfl, S⟩, by dsimp only; omega⟩
  rintro g19 u20 ⟨s2, rfl, S⟩
  have H := Ho2
  dsimp only [aft] at H
  refine wc_seq (wc_region ?_)
  refine wd (does_as_b rfl) ?_
  refine wl_nil ?_
  refine wc_ret ?_
  refine ⟨_, (rets1 (retOne_tmp rfl)), ?_⟩
  replace S : St A N w u20 [] [] := S.arr [] []
  obtain rfl := Option.some.inj H
  exact ⟨rfl, S⟩
theorem ref11_Same_st {A : Nat → Prop} {N : Oth} {w : World} {a0 : PFound} {s_0 : SlV} {a1 : PFound} {s_1 : SlV} (S : St A N w w [] [oDStep s_0 a0.steps, oDStep s_1 a1.steps]) {r : Bool} (H : ref11_Same.f a0 a1 = some r) :
    Calls PP F_ref11_Same #[.agg (Found.C (⟨a0.proved, s_0, a0.visits⟩ : Found)).toArray, .agg (Found.C (⟨a1.proved, s_1, a1.visits⟩ : Found)).toArray] w fun e w' => ∃ v, e = .returned v ∧ (v = .bool r ∧ St A N w w' [] []) := by
  unfold ref11_Same.f at H
  refine calls_of_wc (n := 24) fn_ref11_Same rfl rfl (by simp) ?_
  refine wc_seq (wc_region ?_)
  refine wl_box_agg rfl (by decide) fun b2 w1 hw1 => ?_
  replace S : St A N w w1 [oB b2 T_Found (Found.C (⟨a0.proved, s_0, a0.visits⟩ : Found))] [oDStep s_0 a0.steps, oDStep s_1 a1.steps] := S.new hw1
  refine wl_box_agg rfl (by decide) fun b4 w3 hw3 => ?_
  replace S : St A N w w3 [oB b4 T_Found (Found.C (⟨a1.proved, s_1, a1.visits⟩ : Found)), oB b2 T_Found (Found.C (⟨a0.proved, s_0, a0.visits⟩ : Found))] [oDStep s_0 a0.steps, oDStep s_1 a1.steps] := S.new hw3
  refine wd (does_as_b rfl) ?_
  refine wl_nil ?_
  refine wc_seq (wc_region ?_)
  refine wd (does_fieldAddr fl_Found_proved rfl (o' := 0) rfl) ?_
  refine wd (does_load on_bool rfl ((S.blk 1).cell (Found.get_proved _))) ?_
  refine wd (does_fieldAddr fl_Found_proved rfl (o' := 0) rfl) ?_
  refine wd (does_load on_bool rfl ((S.blk 0).cell (Found.get_proved _))) ?_
  refine wd (does_eqb un_bool rfl rfl) ?_
  refine wd (does_mv_b rfl) ?_
  refine wl_guard (j := 5) (pol := true) rfl rfl rfl (by decide) (fun hg => does_fieldAddr fl_Found_visits rfl (o' := 2) rfl) (by decide) ?_
  refine wl_guard (j := 5) (pol := true) rfl rfl rfl (by decide) (fun hg => does_load on_int (gv_yes hg) ((S.blk 1).cell (Found.get_visits _))) (by decide) ?_
  refine wl_guard (j := 5) (pol := true) rfl rfl rfl (by decide) (fun hg => does_fieldAddr fl_Found_visits rfl (o' := 2) rfl) (by decide) ?_
  refine wl_guard (j := 5) (pol := true) rfl rfl rfl (by decide) (fun hg => does_load on_int (gv_yes hg) ((S.blk 0).cell (Found.get_visits _))) (by decide) ?_
  refine wl_guard (j := 5) (pol := true) rfl rfl rfl (by decide) (fun hg => does_eq (gv_yes hg) (gv_yes hg)) (by decide) ?_
  refine wd (does_and rfl (fun hp => (gv_yes (and_1 hp)))) ?_
  refine wd (does_mv_b rfl) ?_
  refine wl_guard (j := 12) (pol := true) rfl rfl rfl (by decide) (fun hg => does_fieldAddr fl_Found_steps rfl (o' := 1) rfl) (by decide) ?_
  refine wl_guard (j := 12) (pol := true) rfl rfl rfl (by decide) (fun hg => does_load on_L_api_Step (gv_yes hg) ((S.blk 1).cell (Found.get_steps _))) (by decide) ?_
  refine wl_guard (j := 12) (pol := true) rfl rfl rfl (by decide) (fun hg => does_fieldAddr fl_Found_steps rfl (o' := 1) rfl) (by decide) ?_
  refine wl_guard (j := 12) (pol := true) rfl rfl rfl (by decide) (fun hg => does_load on_L_api_Step (gv_yes hg) ((S.blk 0).cell (Found.get_steps _))) (by decide) ?_
  obtain ⟨r5, er5, H⟩ := bind_ex H
  refine wl_gcall (j := 12) (pol := true) rfl rfl rfl (by decide) (fun hg => does_callg ca_ref11_Steps (cons2 (gv_yes hg) (cons2 (gv_yes hg) rfl))) (by decide) (fun hg => (have ⟨M, SS⟩ := S.lend ((.z 0 rfl (.z 1 rfl .nil))); quiet (ref11_Steps_st SS (if_t (by simpa using hg) er5)) (fun v w' h => ⟨h.1, _, _, h.2⟩))) fun w6 hw6 => ?_
  replace S := S.ext hw6
  refine wd (does_and rfl (fun hp => (gv_yes (and_1 hp)))) ?_
  refine wd (does_as_b rfl) ?_
  refine wl_nil ?_
  refine wc_ret ?_
  refine ⟨_, (rets1 (retOne_tmp rfl)), ?_⟩
  replace S : St A N w w6 [] [] := S.arr [] []
  obtain rfl := Option.some.inj H
  exact ⟨rfl, S⟩
end Go.Proofs.YtjjkhjieegmphaaDoor
end
section
namespace Go.Proofs.YtjjkhjieegmphaaDoor
open Gw Go.RowKit
set_option linter.unusedVariables false
set_option linter.unusedSimpArgs false
set_option maxHeartbeats 4000000

theorem law11_SearchNobody_st {A : Nat → Prop} {N : Oth} {w : World} {a0 : Sq} {a1 : Int} (S : St A N w w [] [oTz]) {k : Nat} {r : Bool} (H : law11_SearchNobody.f k a0 a1 = some r) :
    Calls PP F_law11_SearchNobody #[.agg (Sq.C a0).toArray, .int .i64 a1] w fun e w' => ∃ v, e = .returned v ∧ (v = .bool r ∧ St A N w w' [] []) := by
  unfold law11_SearchNobody.f at H
  refine calls_of_wc (n := 44) fn_law11_SearchNobody rfl rfl (by simp) ?_
  refine wc_seq (wc_region ?_)
  refine wl_box_agg rfl (by decide) fun b2 w1 hw1 => ?_
  replace S : St A N w w1 [oB b2 T_Sq (Sq.C a0)] [oTz] := S.new hw1
  refine wd (does_as_b rfl) ?_
  refine wl_nil ?_
  refine wc_seq (wc_region ?_)
  replace S : St A N w w1 [oT none none, oB b2 T_Sq (Sq.C a0)] [oTz] := S.add (Ext.refl _) (oT.nil _) (fun _ x => x.elim)
  refine wd (does_as_p rfl) ?_
  refine wl_nil ?_
  refine wc_seq (wc_region ?_)
  refine wd (does_mv_p rfl) ?_
  refine wd (does_load_agg ag_Sq rfl ((S.blk 1).all _ (Sq.len _)) (Sq.len _)) ?_
  refine wd (does_mv_i rfl) ?_
  obtain ⟨r3, er3, H⟩ := bind_ex H
  obtain ⟨B5, MB5, SB5, back⟩ := S.calln 1 ((.z 0 rfl .nil))
  refine wl_call (does_call ca_search_Run) (by decide) (search_Run_st SB5 er3) ?_
  rintro _ w4 ⟨s6, rfl, S2⟩
  replace S : St A N w w4 [oT none r3.1, oDStep s6 r3.2.1.steps, oB b2 T_Sq (Sq.C a0)] [oTz] := back _ _ _ _ S2 rfl
  clear back S2 SB5
  refine wd (does_mv_t rfl) ?_
  refine wd (does_extract rfl rfl) ?_
  refine wd (does_extract rfl rfl) ?_
  refine wl_alloc ze_Found (by decide) fun b8 w7 hw7 => ?_
  replace S : St A N w w7 [oB b8 T_Found (Found.C (⟨false, SlV.nil, 0⟩ : Found)), oT none r3.1, oDStep s6 r3.2.1.steps, oB b2 T_Sq (Sq.C a0)] [oTz] := S.new hw7
  refine wl_store_agg ag_Found rfl rfl (S.blk 0) (Found.len _) (by rw [Found.len]; decide) (Found.one _) (store_all (Found.len _)) fun w9 B hw9 zw9 => ?_
  replace S : St A N w w9 [oB b8 T_Found (Found.C (⟨r3.2.1.proved, s6, r3.2.1.visits⟩ : Found)), oT none r3.1, oDStep s6 r3.2.1.steps, oB b2 T_Sq (Sq.C a0)] [oTz] := S.store 0 B hw9
  clear B
  refine wd (does_as_i rfl) ?_
  refine wl_nil ?_
  refine wc_seq (wc_region ?_)
  refine wd (does_build bu_Tab Bld.nil) ?_
  refine wl_box_agg rfl (by decide) fun b11 w10 hw10 => ?_
  replace S : St A N w w10 [oT (some ⟨b11, 0, none⟩) none, oB b8 T_Found (Found.C (⟨r3.2.1.proved, s6, r3.2.1.visits⟩ : Found)), oT none r3.1, oDStep s6 r3.2.1.steps, oB b2 T_Sq (Sq.C a0)] [oTz] := (S.new hw10).zeroT
  refine wd (does_load_agg ag_Sq rfl ((S.blk 4).all _ (Sq.len _)) (Sq.len _)) ?_
  refine wd (does_mv_i rfl) ?_
  obtain ⟨r12, er12, H⟩ := bind_ex H
  obtain ⟨B14, MB14, SB14, back⟩ := S.calln 1 ((.z 0 rfl .nil))
  refine wl_call (does_call ca_search_Run) (by decide) (search_Run_st SB14 er12) ?_
  rintro _ w13 ⟨s15, rfl, S2⟩
  replace S : St A N w w13 [oT (some ⟨b11, 0, none⟩) r12.1, oDStep s15 r12.2.1.steps, oB b8 T_Found (Found.C (⟨r3.2.1.proved, s6, r3.2.1.visits⟩ : Found)), oT none r3.1, oDStep s6 r3.2.1.steps, oB b2 T_Sq (Sq.C a0)] [oTz] := back _ _ _ _ S2 rfl
  clear back S2 SB14
  refine wd (does_mv_t rfl) ?_
  refine wd (does_extract rfl rfl) ?_
  refine wd (does_extract rfl rfl) ?_
  refine wl_alloc ze_Found (by decide) fun b17 w16 hw16 => ?_
  replace S : St A N w w16 [oB b17 T_Found (Found.C (⟨false, SlV.nil, 0⟩ : Found)), oT (some ⟨b11, 0, none⟩) r12.1, oDStep s15 r12.2.1.steps, oB b8 T_Found (Found.C (⟨r3.2.1.proved, s6, r3.2.1.visits⟩ : Found)), oT none r3.1, oDStep s6 r3.2.1.steps, oB b2 T_Sq (Sq.C a0)] [oTz] := S.new hw16
  refine wl_store_agg ag_Found rfl rfl (S.blk 0) (Found.len _) (by rw [Found.len]; decide) (Found.one _) (store_all (Found.len _)) fun w18 B hw18 zw18 => ?_
  replace S : St A N w w18 [oB b17 T_Found (Found.C (⟨r12.2.1.proved, s15, r12.2.1.visits⟩ : Found)), oT (some ⟨b11, 0, none⟩) r12.1, oDStep s15 r12.2.1.steps, oB b8 T_Found (Found.C (⟨r3.2.1.proved, s6, r3.2.1.visits⟩ : Found)), oT none r3.1, oDStep s6 r3.2.1.steps, oB b2 T_Sq (Sq.C a0)] [oTz] := S.store 0 B hw18
  clear B
  refine wd (does_as_i rfl) ?_
  refine wl_nil ?_
  refine wc_seq (wc_region ?_)
  refine wd (does_mv_i rfl) ?_
  refine wd (does_eq rfl rfl) ?_
  refine wd (does_mv_b rfl) ?_
  refine wl_guard (j := 2) (pol := true) rfl rfl rfl (by decide) (fun hg => does_mv_i rfl) (by decide) ?_
  refine wl_guard (j := 2) (pol := true) rfl rfl rfl (by decide) (fun hg => does_eq (gv_yes hg) rfl) (by decide) ?_
  refine wd (does_and rfl (fun hp => (gv_yes (and_1 hp)))) ?_
  refine wd (does_mv_b rfl) ?_
  refine wl_guard (j := 6) (pol := true) rfl rfl rfl (by decide) (fun hg => does_load_agg ag_Found rfl ((S.blk 3).all _ (Found.len _)) (Found.len _)) (by decide) ?_
  refine wl_guard (j := 6) (pol := true) rfl rfl rfl (by decide) (fun hg => Does.to (v' := .agg (Found.C (⟨false, SlV.nil, 0⟩ : Found)).toArray) (does_buildv (vs := []) bu_Found rfl Bld.nil) rfl) (by decide) ?_
  replace S : St A N w w18 [oB b17 T_Found (Found.C (⟨r12.2.1.proved, s15, r12.2.1.visits⟩ : Found)), oT (some ⟨b11, 0, none⟩) r12.1, oDStep s15 r12.2.1.steps, oB b8 T_Found (Found.C (⟨r3.2.1.proved, s6, r3.2.1.visits⟩ : Found)), oT none r3.1, oDStep s6 r3.2.1.steps, oB b2 T_Sq (Sq.C a0)] [oDStep SlV.nil ([]), oTz] := S.nilDZ T_Step 21 Step.C rStep
  obtain ⟨r19, er19, H⟩ := bind_ex H
  refine wl_gcall (j := 6) (pol := true) rfl rfl rfl (by decide) (fun hg => does_callg ca_ref11_Same (cons2 (gv_yes hg) (cons2 (gv_yes hg) rfl))) (by decide) (fun hg => (have ⟨M, SS⟩ := S.lend ((.o 5 rfl (.z 0 rfl .nil))); quiet (ref11_Same_st (a0 := r3.2.1) (a1 := (⟨false, [], 0⟩ : PFound)) SS (if_t (by simpa using hg) er19)) (fun v w' h => ⟨h.1, _, _, h.2⟩))) fun w20 hw20 => ?_
  replace S := S.ext hw20
  refine wd (does_and rfl (fun hp => (gv_yes (and_1 hp)))) ?_
  refine wd (does_mv_b rfl) ?_
  refine wl_guard (j := 11) (pol := true) rfl rfl rfl (by decide) (fun hg => does_load_agg ag_Found rfl ((S.blk 0).all _ (Found.len _)) (Found.len _)) (by decide) ?_
  refine wl_guard (j := 11) (pol := true) rfl rfl rfl (by decide) (fun hg => Does.to (v' := .agg (Found.C (⟨false, SlV.nil, 0⟩ : Found)).toArray) (does_buildv (vs := []) bu_Found rfl Bld.nil) rfl) (by decide) ?_
  replace S : St A N w w20 [oB b17 T_Found (Found.C (⟨r12.2.1.proved, s15, r12.2.1.visits⟩ : Found)), oT (some ⟨b11, 0, none⟩) r12.1, oDStep s15 r12.2.1.steps, oB b8 T_Found (Found.C (⟨r3.2.1.proved, s6, r3.2.1.visits⟩ : Found)), oT none r3.1, oDStep s6 r3.2.1.steps, oB b2 T_Sq (Sq.C a0)] [oDStep SlV.nil ([]), oDStep SlV.nil ([]), oTz] := S.nilDZ T_Step 21 Step.C rStep
  obtain ⟨r21, er21, H⟩ := bind_ex H
  refine wl_gcall (j := 11) (pol := true) rfl rfl rfl (by decide) (fun hg => does_callg ca_ref11_Same (cons2 (gv_yes hg) (cons2 (gv_yes hg) rfl))) (by decide) (fun hg => (have ⟨M, SS⟩ := S.lend ((.o 2 rfl (.z 0 rfl .nil))); quiet (ref11_Same_st (a0 := r12.2.1) (a1 := (⟨false, [], 0⟩ : PFound)) SS (if_t (by simpa using hg) er21)) (fun v w' h => ⟨h.1, _, _, h.2⟩))) fun w22 hw22 => ?_
  replace S := S.ext hw22
  refine wd (does_and rfl (fun hp => (gv_yes (and_1 hp)))) ?_
  refine wd (does_mv_b rfl) ?_
  obtain ⟨r23, er23, H⟩ := bind_ex H
  refine wl_gcall (j := 16) (pol := true) rfl rfl rfl (by decide) (fun hg => does_callg ca_law11_heads rfl) (by decide) (fun hg => (have ⟨M, SS⟩ := S.lend ((.z 2 rfl .nil)); quiet (law11_heads_st SS (if_t (by simpa using hg) er23)) (fun v w' h => ⟨h.1, _, _, h.2⟩))) fun w24 hw24 => ?_
  replace S := S.ext hw24
  refine wd (does_and rfl (fun hp => (gv_yes (and_1 hp)))) ?_
  refine wd (does_as_b rfl) ?_
  refine wl_nil ?_
  refine wc_ret ?_
  refine ⟨_, (rets1 (retOne_tmp rfl)), ?_⟩
  replace S : St A N w w24 [] [] := S.arr [] []
  obtain rfl := Option.some.inj H
  exact ⟨rfl, S⟩
end Go.Proofs.YtjjkhjieegmphaaDoor
end
section
namespace Go.Proofs.YtjjkhjieegmphaaDoor
open Gw
set_option linter.unusedVariables false
set_option linter.unusedSimpArgs false
theorem forE_find {α σ ρ : Type} {b : α → σ → Option (Stp σ ρ)} {p : α → Bool} {r : α → ρ} : ∀ (l : List α) (s : σ), (∀ x ∈ l, b x s = some (if p x then .ret (r x) else .go s)) → forE b l s = some (match l.find? p with | some x => .inr (r x) | none => .inl s)
  | [], s, _ => rfl
  | x :: l, s, h => by
    rw [forE, h x (by simp)]
    cases hp : p x with
    | true => simp [hp, List.find?_cons]
    | false => simpa [hp, List.find?_cons] using forE_find l s fun y hy => h y (by simp [hy])
theorem forN_find {σ ρ : Type} {b : Int → σ → Option (Stp σ ρ)} {p : Nat → Bool} {r : Nat → ρ} : ∀ (n i : Nat) (s : σ), (∀ j : Nat, i ≤ j → j < i + n → b j s = some (if p j then .ret (r j) else .go s)) → forN b n i s = some (match (List.range' i n).find? p with | some j => .inr (r j) | none => .inl s)
  | 0, i, s, _ => rfl
  | n + 1, i, s, h => by
    rw [forN, h i (Nat.le_refl _) (by omega), List.range'_succ]
    cases hp : p i with
    | true => simp [hp, List.find?_cons]
    | false =>
      have := forN_find n (i + 1) s fun j h1 h2 => h j (by omega) (by omega)
      simpa [hp, List.find?_cons] using this
theorem forE_two {b : Nat → List Int × List Int → Option (Stp (List Int × List Int) Empty)} {p : Nat → Bool} : ∀ (l : List Nat) (m : Nat) (x y : List Int), (∀ (j : Nat) (x y : List Int), j ∈ l → x.length ≤ 2 + 1024 → y.length ≤ 2 + 1024 → b j (x, y) = some (.go (if p j then (x ++ [(j : Int)], y ++ [13]) else (x, y)))) → x.length + l.length ≤ 2 + 1024 → y.length + l.length ≤ 2 + 1024 →
    forE b l (x, y) = some (.inl (x ++ (l.filter p).map (fun (j : Nat) => (j : Int)), y ++ (l.filter p).map fun _ => 13))
  | [], m, x, y, _, _, _ => by simp [forE]
  | j :: l, m, x, y, h, hx, hy => by
    simp only [List.length_cons] at hx hy
    rw [forE, h j x y (by simp) (by omega) (by omega)]
    cases hp : p j with
    | true =>
      have := forE_two (b := b) (p := p) l m (x ++ [(j : Int)]) (y ++ [13]) (fun i x y h1 => h i x y (by simp [h1])) (by simp; omega) (by simp; omega)
      simpa [hp] using this
    | false =>
      have := forE_two (b := b) (p := p) l m x y (fun i x y h1 => h i x y (by simp [h1])) (by omega) (by omega)
      simpa [hp] using this
/-- what stands in a set, found by going through all numbers -/
theorem list_find {b : Bits} {n : Nat} (hn : n ≤ 1024) (h : ∀ j ∈ b.list, j < n) (p : Nat → Bool) : b.list.find? p = (List.range n).find? fun (j : Nat) => b.has j && p j := by
  have h1 : b.list = (List.range n).filter fun (j : Nat) => b.has j := by
    unfold Bits.list
    rw [show (1024 : Nat) = n + (1024 - n) by omega, List.range_add, List.filter_append, List.append_right_eq_self]
    refine List.filter_eq_nil_iff.2 fun x hx hb => ?_
    obtain ⟨k, hk, rfl⟩ := List.mem_map.1 hx
    have := h (n + k) (Bits.mem_list.2 ⟨by have := List.mem_range.1 hk; omega, hb⟩)
    omega
  rw [h1, List.find?_filter]
  refine congrArg (fun q => (List.range n).find? q) (funext fun a => ?_)
  cases b.has a <;> cases p a <;> simp
/-- the program's node -/
abbrev nd (M : List Nd) (i : Int) : Nd := (nodeS M i).1
theorem nd_at {M : List Nd} {i : Int} (h : inb i M.length = true) : at_ Nd.z M i = nd M i := by
  have h := inb_ex h
  unfold nd nodeS hasRow at_
  simp [h]
theorem node_some (M : List Nd) (i : Int) : rule_node.f (some M) i = some (nd M i) := by simp [rule_node.f, formula_Table_Node.f]
/-- the rule that stands on a row on the left side -/
def onV (M : List Nd) (b : Bits) (i : Int) : Int :=
  if (nd M i).kind = 2 then 1 else if (nd M i).kind = 3 then 3 else if (nd M i).kind = 4 then 10 else if (nd M i).kind = 5 then
    (if (nd M (nd M i).l).kind = 1 then (if b.has (nd M i).l then 4 else 0) else if (nd M (nd M i).l).kind = 2 then 5 else if (nd M (nd M i).l).kind = 3 then 6 else if (nd M (nd M i).l).kind = 4 then 7 else if (nd M (nd M i).l).kind = 5 then 13 else 0)
  else 0
theorem on_some {M : List Nd} {s : Sq} (hb : s.left.okB = true) (i : Int) : rule_on.f (some M) s i = some (onV M s.left i) := by
  unfold rule_on.f onV
  simp only [node_some, bits_Has.f, hb, chk, Option.bind_some, decide_eq_true_eq, if_true]
  repeat (first | rfl | split)
/-- a rule fits a row -/
def fitsV (M : List Nd) (s : Sq) (r i : Int) : Bool :=
  if inb i M.length = false then false else if r = 2 then decide (i = s.goal) && s.left.has i else if r = 8 then decide (i = s.goal) && decide ((nd M i).kind = 5) else if r = 9 then decide (i = s.goal) && decide ((nd M i).kind = 3)
  else if r = 11 ∨ r = 12 then decide (i = s.goal) && decide ((nd M i).kind = 4) else decide (r ≠ 0) && s.left.has i && decide (onV M s.left i = r)
theorem fits_some {M : List Nd} {s : Sq} (hb : s.left.okB = true) (r i : Int) : rule_fits.f (some M) s r i = some (fitsV M s r i) := by
  unfold rule_fits.f fitsV inb
  by_cases h0 : i < 0
  · have : ¬ 0 ≤ i := by omega
    simp [h0, this]
  · by_cases h1 : (M.length : Int) ≤ i
    · have h2 : ¬ i < M.length := by omega
      simp [h0, formula_Table_Len.f, h1, h2]
    · have h2 : i < M.length := by omega
      have h3 : 0 ≤ i := by omega
      simp only [h0, formula_Table_Len.f, h1, h2, h3, node_some, on_some hb, bits_Has.f, hb, chk, decide_false, decide_true, Bool.not_false, if_true, Option.map_some, Option.bind_some, Bool.false_or, Bool.and_self, Bool.true_eq_false, if_false, decide_eq_true_eq, Bool.false_eq_true]
      by_cases r2 : r = 2
      · simp [r2]
      by_cases r8 : r = 8
      · simp [r8]
      by_cases r9 : r = 9
      · simp [r9]
      by_cases r11 : r = 11
      · simp [r11]
      by_cases r12 : r = 12
      · simp [r12]
      simp only [r2, r8, r9, r11, r12, if_false, decide_false, Option.bind_some, or_self, Bool.false_eq_true]
      by_cases hr : r = 0
      · simp [hr]
      · cases s.left.has i <;> simp [hr]
/-- a table in which each row stands behind its parts -/
structure Wf (M : List Nd) : Prop where
  len : M.length ≤ 1024
  nodup : M.Nodup
  kind : ∀ i : Int, inb i M.length = true → (nd M i).kind = 1 ∨ (nd M i).kind = 2 ∨ (nd M i).kind = 3 ∨ (nd M i).kind = 4 ∨ (nd M i).kind = 5
  kids : ∀ i : Int, inb i M.length = true → (nd M i).kind = 3 ∨ (nd M i).kind = 4 ∨ (nd M i).kind = 5 → (0 ≤ (nd M i).l ∧ (nd M i).l < i) ∧ 0 ≤ (nd M i).r ∧ (nd M i).r < i
theorem Wf.left {M : List Nd} (h : Wf M) {i : Int} (hi : inb i M.length = true) (hk : (nd M i).kind = 3 ∨ (nd M i).kind = 4 ∨ (nd M i).kind = 5) : inb (nd M i).l M.length = true := by
  have h1 := h.kids i hi hk
  have h2 := inb_ex hi
  simp only [inb, Bool.and_eq_true, decide_eq_true_eq]; omega
theorem Wf.right {M : List Nd} (h : Wf M) {i : Int} (hi : inb i M.length = true) (hk : (nd M i).kind = 3 ∨ (nd M i).kind = 4 ∨ (nd M i).kind = 5) : inb (nd M i).r M.length = true := by
  have h1 := h.kids i hi hk
  have h2 := inb_ex hi
  simp only [inb, Bool.and_eq_true, decide_eq_true_eq]; omega
theorem docHas (M : List Nd) (i : Int) : ref03_T_Has.f (some M) i = some (inb i M.length) := by simp [ref03_T_Has.f, chk, inb]
theorem docKind {M : List Nd} {i : Int} (hi : inb i M.length = true) : ref09_kind.f (some M) i = some (nd M i).kind := by
  simp only [ref09_kind.f, chk, Option.isSome_some, Option.getD_some, hi, if_true, nd_at hi]
theorem docFits {M : List Nd} {s : Sq} (hw : Wf M) (hb : s.left.okB = true) (r i : Int) : ref09_Fits.f (some M) s r i = some (fitsV M s r i) := by
  unfold ref09_Fits.f
  rw [docHas]
  cases hi : inb i M.length with
  | false => simp [fitsV, hi]
  | true =>
    simp only [Option.bind_some, Bool.not_true, Bool.false_eq_true, if_false, Option.isSome_some, Option.getD_some, chk, if_true, nd_at hi, ref05_Has.f, hb, hi, fitsV, Bool.true_eq_false]
    have hk := hw.kind i hi
    rcases hk with k | k | k | k | k
    · have ho : onV M s.left i = 0 := by simp [onV, k]
      by_cases r1 : r = 1
      · subst r1; cases s.left.has i <;> simp [k, ho]
      by_cases r2 : r = 2
      · subst r2; cases s.left.has i <;> simp [k, ho]
      by_cases r3 : r = 3
      · subst r3; cases s.left.has i <;> simp [k, ho]
      by_cases r4 : r = 4
      · subst r4; cases s.left.has i <;> simp [k, ho]
      by_cases r5 : r = 5
      · subst r5; cases s.left.has i <;> simp [k, ho]
      by_cases r6 : r = 6
      · subst r6; cases s.left.has i <;> simp [k, ho]
      by_cases r7 : r = 7
      · subst r7; cases s.left.has i <;> simp [k, ho]
      by_cases r8 : r = 8
      · subst r8; cases s.left.has i <;> simp [k, ho]
      by_cases r9 : r = 9
      · subst r9; cases s.left.has i <;> simp [k, ho]
      by_cases r10 : r = 10
      · subst r10; cases s.left.has i <;> simp [k, ho]
      by_cases r11 : r = 11
      · subst r11; cases s.left.has i <;> simp [k, ho]
      by_cases r12 : r = 12
      · subst r12; cases s.left.has i <;> simp [k, ho]
      by_cases r13 : r = 13
      · subst r13; cases s.left.has i <;> simp [k, ho]
      simp only [k, ho]
      simp [r1, r2, r3, r4, r5, r6, r7, r8, r9, r10, r11, r12, r13]
      try (intro h; omega)
    · have ho : onV M s.left i = 1 := by simp [onV, k]
      by_cases r1 : r = 1
      · subst r1; cases s.left.has i <;> simp [k, ho]
      by_cases r2 : r = 2
      · subst r2; cases s.left.has i <;> simp [k, ho]
      by_cases r3 : r = 3
      · subst r3; cases s.left.has i <;> simp [k, ho]
      by_cases r4 : r = 4
      · subst r4; cases s.left.has i <;> simp [k, ho]
      by_cases r5 : r = 5
      · subst r5; cases s.left.has i <;> simp [k, ho]
      by_cases r6 : r = 6
      · subst r6; cases s.left.has i <;> simp [k, ho]
      by_cases r7 : r = 7
      · subst r7; cases s.left.has i <;> simp [k, ho]
      by_cases r8 : r = 8
      · subst r8; cases s.left.has i <;> simp [k, ho]
      by_cases r9 : r = 9
      · subst r9; cases s.left.has i <;> simp [k, ho]
      by_cases r10 : r = 10
      · subst r10; cases s.left.has i <;> simp [k, ho]
      by_cases r11 : r = 11
      · subst r11; cases s.left.has i <;> simp [k, ho]
      by_cases r12 : r = 12
      · subst r12; cases s.left.has i <;> simp [k, ho]
      by_cases r13 : r = 13
      · subst r13; cases s.left.has i <;> simp [k, ho]
      have ho2 : ¬ (1 : Int) = r := by omega
      cases s.left.has i <;> simp [k, ho, ho2, r1, r2, r3, r4, r5, r6, r7, r8, r9, r10, r11, r12, r13]
      try omega
    · have ho : onV M s.left i = 3 := by simp [onV, k]
      by_cases r1 : r = 1
      · subst r1; cases s.left.has i <;> simp [k, ho]
      by_cases r2 : r = 2
      · subst r2; cases s.left.has i <;> simp [k, ho]
      by_cases r3 : r = 3
      · subst r3; cases s.left.has i <;> simp [k, ho]
      by_cases r4 : r = 4
      · subst r4; cases s.left.has i <;> simp [k, ho]
      by_cases r5 : r = 5
      · subst r5; cases s.left.has i <;> simp [k, ho]
      by_cases r6 : r = 6
      · subst r6; cases s.left.has i <;> simp [k, ho]
      by_cases r7 : r = 7
      · subst r7; cases s.left.has i <;> simp [k, ho]
      by_cases r8 : r = 8
      · subst r8; cases s.left.has i <;> simp [k, ho]
      by_cases r9 : r = 9
      · subst r9; cases s.left.has i <;> simp [k, ho]
      by_cases r10 : r = 10
      · subst r10; cases s.left.has i <;> simp [k, ho]
      by_cases r11 : r = 11
      · subst r11; cases s.left.has i <;> simp [k, ho]
      by_cases r12 : r = 12
      · subst r12; cases s.left.has i <;> simp [k, ho]
      by_cases r13 : r = 13
      · subst r13; cases s.left.has i <;> simp [k, ho]
      have ho2 : ¬ (3 : Int) = r := by omega
      cases s.left.has i <;> simp [k, ho, ho2, r1, r2, r3, r4, r5, r6, r7, r8, r9, r10, r11, r12, r13]
      try omega
    · have ho : onV M s.left i = 10 := by simp [onV, k]
      by_cases r1 : r = 1
      · subst r1; cases s.left.has i <;> simp [k, ho]
      by_cases r2 : r = 2
      · subst r2; cases s.left.has i <;> simp [k, ho]
      by_cases r3 : r = 3
      · subst r3; cases s.left.has i <;> simp [k, ho]
      by_cases r4 : r = 4
      · subst r4; cases s.left.has i <;> simp [k, ho]
      by_cases r5 : r = 5
      · subst r5; cases s.left.has i <;> simp [k, ho]
      by_cases r6 : r = 6
      · subst r6; cases s.left.has i <;> simp [k, ho]
      by_cases r7 : r = 7
      · subst r7; cases s.left.has i <;> simp [k, ho]
      by_cases r8 : r = 8
      · subst r8; cases s.left.has i <;> simp [k, ho]
      by_cases r9 : r = 9
      · subst r9; cases s.left.has i <;> simp [k, ho]
      by_cases r10 : r = 10
      · subst r10; cases s.left.has i <;> simp [k, ho]
      by_cases r11 : r = 11
      · subst r11; cases s.left.has i <;> simp [k, ho]
      by_cases r12 : r = 12
      · subst r12; cases s.left.has i <;> simp [k, ho]
      by_cases r13 : r = 13
      · subst r13; cases s.left.has i <;> simp [k, ho]
      have ho2 : ¬ (10 : Int) = r := by omega
      cases s.left.has i <;> simp [k, ho, ho2, r1, r2, r3, r4, r5, r6, r7, r8, r9, r10, r11, r12, r13]
      try omega
    · have hl := hw.left hi (.inr (.inr k))
      have hk2 := hw.kind _ hl
      rw [docKind hl]
      rcases hk2 with c | c | c | c | c
      · cases hh : s.left.has (nd M i).l with
        | true =>
          have ho : onV M s.left i = 4 := by simp [onV, k, c, hh]
          by_cases r1 : r = 1
          · subst r1; cases s.left.has i <;> simp [k, ho, c, hh]
          by_cases r2 : r = 2
          · subst r2; cases s.left.has i <;> simp [k, ho, c, hh]
          by_cases r3 : r = 3
          · subst r3; cases s.left.has i <;> simp [k, ho, c, hh]
          by_cases r4 : r = 4
          · subst r4; cases s.left.has i <;> simp [k, ho, c, hh]
          by_cases r5 : r = 5
          · subst r5; cases s.left.has i <;> simp [k, ho, c, hh]
          by_cases r6 : r = 6
          · subst r6; cases s.left.has i <;> simp [k, ho, c, hh]
          by_cases r7 : r = 7
          · subst r7; cases s.left.has i <;> simp [k, ho, c, hh]
          by_cases r8 : r = 8
          · subst r8; cases s.left.has i <;> simp [k, ho, c, hh]
          by_cases r9 : r = 9
          · subst r9; cases s.left.has i <;> simp [k, ho, c, hh]
          by_cases r10 : r = 10
          · subst r10; cases s.left.has i <;> simp [k, ho, c, hh]
          by_cases r11 : r = 11
          · subst r11; cases s.left.has i <;> simp [k, ho, c, hh]
          by_cases r12 : r = 12
          · subst r12; cases s.left.has i <;> simp [k, ho, c, hh]
          by_cases r13 : r = 13
          · subst r13; cases s.left.has i <;> simp [k, ho, c, hh]
          have ho2 : ¬ (4 : Int) = r := by omega
          cases s.left.has i <;> simp [k, ho, ho2, c, hh, r1, r2, r3, r4, r5, r6, r7, r8, r9, r10, r11, r12, r13]
          try omega
        | false =>
          have ho : onV M s.left i = 0 := by simp [onV, k, c, hh]
          by_cases r1 : r = 1
          · subst r1; cases s.left.has i <;> simp [k, ho, c, hh]
          by_cases r2 : r = 2
          · subst r2; cases s.left.has i <;> simp [k, ho, c, hh]
          by_cases r3 : r = 3
          · subst r3; cases s.left.has i <;> simp [k, ho, c, hh]
          by_cases r4 : r = 4
          · subst r4; cases s.left.has i <;> simp [k, ho, c, hh]
          by_cases r5 : r = 5
          · subst r5; cases s.left.has i <;> simp [k, ho, c, hh]
          by_cases r6 : r = 6
          · subst r6; cases s.left.has i <;> simp [k, ho, c, hh]
          by_cases r7 : r = 7
          · subst r7; cases s.left.has i <;> simp [k, ho, c, hh]
          by_cases r8 : r = 8
          · subst r8; cases s.left.has i <;> simp [k, ho, c, hh]
          by_cases r9 : r = 9
          · subst r9; cases s.left.has i <;> simp [k, ho, c, hh]
          by_cases r10 : r = 10
          · subst r10; cases s.left.has i <;> simp [k, ho, c, hh]
          by_cases r11 : r = 11
          · subst r11; cases s.left.has i <;> simp [k, ho, c, hh]
          by_cases r12 : r = 12
          · subst r12; cases s.left.has i <;> simp [k, ho, c, hh]
          by_cases r13 : r = 13
          · subst r13; cases s.left.has i <;> simp [k, ho, c, hh]
          cases s.left.has i <;> simp [k, ho, c, hh, r1, r2, r3, r4, r5, r6, r7, r8, r9, r10, r11, r12, r13]
          try omega
      · have ho : onV M s.left i = 5 := by simp [onV, k, c]
        by_cases r1 : r = 1
        · subst r1; cases s.left.has i <;> simp [k, ho, c]
        by_cases r2 : r = 2
        · subst r2; cases s.left.has i <;> simp [k, ho, c]
        by_cases r3 : r = 3
        · subst r3; cases s.left.has i <;> simp [k, ho, c]
        by_cases r4 : r = 4
        · subst r4; cases s.left.has i <;> simp [k, ho, c]
        by_cases r5 : r = 5
        · subst r5; cases s.left.has i <;> simp [k, ho, c]
        by_cases r6 : r = 6
        · subst r6; cases s.left.has i <;> simp [k, ho, c]
        by_cases r7 : r = 7
        · subst r7; cases s.left.has i <;> simp [k, ho, c]
        by_cases r8 : r = 8
        · subst r8; cases s.left.has i <;> simp [k, ho, c]
        by_cases r9 : r = 9
        · subst r9; cases s.left.has i <;> simp [k, ho, c]
        by_cases r10 : r = 10
        · subst r10; cases s.left.has i <;> simp [k, ho, c]
        by_cases r11 : r = 11
        · subst r11; cases s.left.has i <;> simp [k, ho, c]
        by_cases r12 : r = 12
        · subst r12; cases s.left.has i <;> simp [k, ho, c]
        by_cases r13 : r = 13
        · subst r13; cases s.left.has i <;> simp [k, ho, c]
        have ho2 : ¬ (5 : Int) = r := by omega
        cases s.left.has i <;> simp [k, ho, ho2, c, r1, r2, r3, r4, r5, r6, r7, r8, r9, r10, r11, r12, r13]
        try omega
      · have ho : onV M s.left i = 6 := by simp [onV, k, c]
        by_cases r1 : r = 1
        · subst r1; cases s.left.has i <;> simp [k, ho, c]
        by_cases r2 : r = 2
        · subst r2; cases s.left.has i <;> simp [k, ho, c]
        by_cases r3 : r = 3
        · subst r3; cases s.left.has i <;> simp [k, ho, c]
        by_cases r4 : r = 4
        · subst r4; cases s.left.has i <;> simp [k, ho, c]
        by_cases r5 : r = 5
        · subst r5; cases s.left.has i <;> simp [k, ho, c]
        by_cases r6 : r = 6
        · subst r6; cases s.left.has i <;> simp [k, ho, c]
        by_cases r7 : r = 7
        · subst r7; cases s.left.has i <;> simp [k, ho, c]
        by_cases r8 : r = 8
        · subst r8; cases s.left.has i <;> simp [k, ho, c]
        by_cases r9 : r = 9
        · subst r9; cases s.left.has i <;> simp [k, ho, c]
        by_cases r10 : r = 10
        · subst r10; cases s.left.has i <;> simp [k, ho, c]
        by_cases r11 : r = 11
        · subst r11; cases s.left.has i <;> simp [k, ho, c]
        by_cases r12 : r = 12
        · subst r12; cases s.left.has i <;> simp [k, ho, c]
        by_cases r13 : r = 13
        · subst r13; cases s.left.has i <;> simp [k, ho, c]
        have ho2 : ¬ (6 : Int) = r := by omega
        cases s.left.has i <;> simp [k, ho, ho2, c, r1, r2, r3, r4, r5, r6, r7, r8, r9, r10, r11, r12, r13]
        try omega
      · have ho : onV M s.left i = 7 := by simp [onV, k, c]
        by_cases r1 : r = 1
        · subst r1; cases s.left.has i <;> simp [k, ho, c]
        by_cases r2 : r = 2
        · subst r2; cases s.left.has i <;> simp [k, ho, c]
        by_cases r3 : r = 3
        · subst r3; cases s.left.has i <;> simp [k, ho, c]
        by_cases r4 : r = 4
        · subst r4; cases s.left.has i <;> simp [k, ho, c]
        by_cases r5 : r = 5
        · subst r5; cases s.left.has i <;> simp [k, ho, c]
        by_cases r6 : r = 6
        · subst r6; cases s.left.has i <;> simp [k, ho, c]
        by_cases r7 : r = 7
        · subst r7; cases s.left.has i <;> simp [k, ho, c]
        by_cases r8 : r = 8
        · subst r8; cases s.left.has i <;> simp [k, ho, c]
        by_cases r9 : r = 9
        · subst r9; cases s.left.has i <;> simp [k, ho, c]
        by_cases r10 : r = 10
        · subst r10; cases s.left.has i <;> simp [k, ho, c]
        by_cases r11 : r = 11
        · subst r11; cases s.left.has i <;> simp [k, ho, c]
        by_cases r12 : r = 12
        · subst r12; cases s.left.has i <;> simp [k, ho, c]
        by_cases r13 : r = 13
        · subst r13; cases s.left.has i <;> simp [k, ho, c]
        have ho2 : ¬ (7 : Int) = r := by omega
        cases s.left.has i <;> simp [k, ho, ho2, c, r1, r2, r3, r4, r5, r6, r7, r8, r9, r10, r11, r12, r13]
        try omega
      · have ho : onV M s.left i = 13 := by simp [onV, k, c]
        by_cases r1 : r = 1
        · subst r1; cases s.left.has i <;> simp [k, ho, c]
        by_cases r2 : r = 2
        · subst r2; cases s.left.has i <;> simp [k, ho, c]
        by_cases r3 : r = 3
        · subst r3; cases s.left.has i <;> simp [k, ho, c]
        by_cases r4 : r = 4
        · subst r4; cases s.left.has i <;> simp [k, ho, c]
        by_cases r5 : r = 5
        · subst r5; cases s.left.has i <;> simp [k, ho, c]
        by_cases r6 : r = 6
        · subst r6; cases s.left.has i <;> simp [k, ho, c]
        by_cases r7 : r = 7
        · subst r7; cases s.left.has i <;> simp [k, ho, c]
        by_cases r8 : r = 8
        · subst r8; cases s.left.has i <;> simp [k, ho, c]
        by_cases r9 : r = 9
        · subst r9; cases s.left.has i <;> simp [k, ho, c]
        by_cases r10 : r = 10
        · subst r10; cases s.left.has i <;> simp [k, ho, c]
        by_cases r11 : r = 11
        · subst r11; cases s.left.has i <;> simp [k, ho, c]
        by_cases r12 : r = 12
        · subst r12; cases s.left.has i <;> simp [k, ho, c]
        by_cases r13 : r = 13
        · subst r13; cases s.left.has i <;> simp [k, ho, c]
        have ho2 : ¬ (13 : Int) = r := by omega
        cases s.left.has i <;> simp [k, ho, ho2, c, r1, r2, r3, r4, r5, r6, r7, r8, r9, r10, r11, r12, r13]
        try omega
theorem find_congr {α : Type} {p q : α → Bool} : ∀ {l : List α}, (∀ x ∈ l, p x = q x) → l.find? p = l.find? q
  | [], _ => rfl
  | x :: l, h => by
    rw [List.find?_cons, List.find?_cons, h x (by simp), find_congr fun y hy => h y (by simp [hy])]
theorem any_find {α : Type} {p : α → Bool} : ∀ (l : List α), l.any p = (l.find? p).isSome
  | [] => rfl
  | x :: l => by
    rw [List.any_cons, List.find?_cons, any_find l]
    cases p x <;> rfl
/-- the first row on the left side of which c holds -/
def firstV (M : List Nd) (s : Sq) (c : Int → Bool) : Option Nat := (List.range M.length).find? fun (j : Nat) => s.left.has j && c (onV M s.left j)
theorem firstV_some {M : List Nd} {s : Sq} {c : Int → Bool} {j : Nat} (h : firstV M s c = some j) : j < M.length ∧ s.left.has j = true ∧ c (onV M s.left j) = true := by
  have h1 := List.find?_some h
  have h2 := List.mem_of_find?_eq_some h
  simp only [Bool.and_eq_true] at h1
  exact ⟨List.mem_range.1 h2, h1.1, h1.2⟩
/-- what is chosen: the rule, the row -/
def applyV (M : List Nd) (s : Sq) : Int × Int :=
  match firstV M s (fun r => decide (r = 1)) with
  | some j => (1, j)
  | none => if s.left.has s.goal then (2, s.goal) else
    match firstV M s (fun r => decide (3 ≤ r) && decide (r ≤ 7)) with
    | some j => (onV M s.left j, j)
    | none => if (nd M s.goal).kind = 5 then (8, s.goal) else if (nd M s.goal).kind = 3 then (9, s.goal) else
      match firstV M s (fun r => decide (r = 10)) with
      | some j => (10, j)
      | none => (14, 0)
/-- a sequent that is one of the table's -/
structure Rt (M : List Nd) (s : Sq) : Prop where
  ok : s.left.okB = true
  left : ∀ j ∈ s.left.list, j < M.length
  goal : inb s.goal M.length = true
theorem least1 {M : List Nd} {s : Sq} (hM : M.length ≤ 1024) (h : Rt M s) : rule_least__rule_apply_1_1.f (some M) s = some (match firstV M s (fun r => decide (r = 1)) with | some j => ((⟨onV M s.left j, j⟩ : Fnd), true) | none => (Fnd.z, false)) := by
  unfold rule_least__rule_apply_1_1.f
  rw [h.ok, chk, if_pos rfl, forE_find (p := fun (j : Nat) => decide (onV M s.left j = 1)) (r := fun (j : Nat) => (true, (⟨onV M s.left j, j⟩ : Fnd))), list_find hM h.left]
  · unfold firstV
    cases (List.range M.length).find? fun (j : Nat) => s.left.has j && decide (onV M s.left j = 1) <;> rfl
  · intro x _
    simp [rule_least__rule_apply_1_1.b0, on_some h.ok, rule_apply_1_1.f]
    split <;> rfl
theorem least3 {M : List Nd} {s : Sq} (hM : M.length ≤ 1024) (h : Rt M s) : rule_least__rule_apply_3_1.f (some M) s = some (match firstV M s (fun r => decide (3 ≤ r) && decide (r ≤ 7)) with | some j => ((⟨onV M s.left j, j⟩ : Fnd), true) | none => (Fnd.z, false)) := by
  unfold rule_least__rule_apply_3_1.f
  rw [h.ok, chk, if_pos rfl, forE_find (p := fun (j : Nat) => decide (3 ≤ onV M s.left j) && decide (onV M s.left j ≤ 7)) (r := fun (j : Nat) => (true, (⟨onV M s.left j, j⟩ : Fnd))), list_find hM h.left]
  · unfold firstV
    cases (List.range M.length).find? fun (j : Nat) => s.left.has j && (decide (3 ≤ onV M s.left j) && decide (onV M s.left j ≤ 7)) <;> rfl
  · intro x _
    simp [rule_least__rule_apply_3_1.b0, on_some h.ok, rule_apply_3_1.f]
    split <;> rfl
theorem least6 {M : List Nd} {s : Sq} (hM : M.length ≤ 1024) (h : Rt M s) : rule_least__rule_apply_6_1.f (some M) s = some (match firstV M s (fun r => decide (r = 10)) with | some j => ((⟨onV M s.left j, j⟩ : Fnd), true) | none => (Fnd.z, false)) := by
  unfold rule_least__rule_apply_6_1.f
  rw [h.ok, chk, if_pos rfl, forE_find (p := fun (j : Nat) => decide (onV M s.left j = 10)) (r := fun (j : Nat) => (true, (⟨onV M s.left j, j⟩ : Fnd))), list_find hM h.left]
  · unfold firstV
    cases (List.range M.length).find? fun (j : Nat) => s.left.has j && decide (onV M s.left j = 10) <;> rfl
  · intro x _
    simp [rule_least__rule_apply_6_1.b0, on_some h.ok, rule_apply_6_1.f]
    split <;> rfl
theorem apply_some {M : List Nd} {s : Sq} (hM : M.length ≤ 1024) (h : Rt M s) : rule_apply.f (some M) s = some ⟨(applyV M s).1, (applyV M s).2⟩ := by
  unfold rule_apply.f rule_apply_1.f rule_apply_2.f rule_apply_3.f rule_apply_4.f rule_apply_5.f rule_apply_6.f applyV
  simp only [least1 hM h, least3 hM h, least6 hM h, node_some, bits_Has.f, h.ok, chk, if_true, Option.bind_some]
  cases h1 : firstV M s (fun r => decide (r = 1)) with
  | some j =>
    have := (firstV_some h1).2.2
    simp only [decide_eq_true_eq] at this
    simp [this]
  | none =>
    simp only [Bool.false_eq_true, if_false]
    by_cases hg : s.left.has s.goal = true
    · simp [hg]
    simp only [hg, if_false]
    cases h3 : firstV M s (fun r => decide (3 ≤ r) && decide (r ≤ 7)) with
    | some j => simp
    | none =>
      simp only [Bool.false_eq_true, if_false]
      by_cases h5 : (nd M s.goal).kind = 5
      · simp [h5]
      by_cases h6 : (nd M s.goal).kind = 3
      · simp [h6]
      simp only [h5, h6, decide_false, Bool.false_eq_true, if_false]
      cases h10 : firstV M s (fun r => decide (r = 10)) with
      | some j =>
        have := (firstV_some h10).2.2
        simp only [decide_eq_true_eq] at this
        simp [this]
      | none => simp
end Go.Proofs.YtjjkhjieegmphaaDoor
end
section
namespace Go.Proofs.YtjjkhjieegmphaaDoor
open Gw
set_option linter.unusedVariables false
set_option linter.unusedSimpArgs false
theorem inb_nat (j n : Nat) : inb (j : Int) n = decide (j < n) := by
  unfold inb
  rw [decide_eq_true (show 0 ≤ (j : Int) by omega), Bool.true_and, decide_eq_decide]
  omega
theorem list_eq {b : Bits} {n : Nat} (hn : n ≤ 1024) (h : ∀ j ∈ b.list, j < n) : b.list = (List.range n).filter fun (j : Nat) => b.has j := by
  unfold Bits.list
  rw [show (1024 : Nat) = n + (1024 - n) by omega, List.range_add, List.filter_append, List.append_right_eq_self]
  refine List.filter_eq_nil_iff.2 fun x hx hb => ?_
  obtain ⟨k, hk, rfl⟩ := List.mem_map.1 hx
  have := h (n + k) (Bits.mem_list.2 ⟨by have := List.mem_range.1 hk; omega, hb⟩)
  omega
/-- the sequent is one of the table's -/
def lookV (M : List Nd) (s : Sq) : Bool := (s.left.list.all fun j => decide (j < M.length)) && inb s.goal M.length
theorem lookV_rt {M : List Nd} {s : Sq} (hb : s.left.okB = true) (h : lookV M s = true) : Rt M s := by
  simp only [lookV, Bool.and_eq_true, List.all_eq_true, decide_eq_true_eq] at h
  exact ⟨hb, h.1, h.2⟩
theorem look_some {M : List Nd} {s : Sq} (hb : s.left.okB = true) : rule_look.f (some M) s = some (if lookV M s then 0 else 31) := by
  unfold rule_look.f
  simp only [formula_Table_Not_neg.f, Option.bind_some, hb, chk, if_true, show (decide ((31 : Int) = 1)) = false from rfl, Bool.false_eq_true, if_false]
  rw [forE_find (p := fun (j : Nat) => decide ((M.length : Int) ≤ (j : Int))) (r := fun _ => (31 : Int))]
  · have ha : (s.left.list.all fun j => decide (j < M.length)) = !(s.left.list.find? fun (j : Nat) => decide ((M.length : Int) ≤ (j : Int))).isSome := by
      rw [← any_find, List.all_eq_not_any_not]
      congr 2
      funext j
      by_cases hj : j < M.length
      · have : ¬ (M.length : Int) ≤ j := by omega
        simp [hj, this]
      · have : (M.length : Int) ≤ j := by omega
        simp [hj, this]
    unfold lookV
    rw [ha]
    cases s.left.list.find? fun (j : Nat) => decide ((M.length : Int) ≤ (j : Int)) with
    | some j => simp [fin]
    | none =>
      simp only [Option.bind_some, fin, Option.isSome_none, Bool.not_false, Bool.true_and, formula_Table_Len.f, Option.map_some]
      by_cases h0 : s.goal < 0
      · have h1 : ¬ 0 ≤ s.goal := by omega
        simp [h0, inb, h1]
      · have h1 : 0 ≤ s.goal := by omega
        by_cases h2 : (M.length : Int) ≤ s.goal
        · have h3 : ¬ s.goal < M.length := by omega
          simp [h0, inb, h1, h2, h3]
        · have h3 : s.goal < M.length := by omega
          simp [h0, inb, h1, h2, h3]
  · intro x _
    simp only [rule_look.b0, formula_Table_Len.f, Option.map_some, Option.bind_some]
    split <;> rfl
/-- what is left to choose: rules, rows -/
def choicesV (M : List Nd) (s : Sq) : List Int × List Int :=
  if (applyV M s).1 = 14 then
    ((if (nd M s.goal).kind = 4 then [11, 12] else []) ++ ((List.range M.length).filter fun (j : Nat) => s.left.has j && decide (onV M s.left j = 13)).map (fun _ => 13),
     (if (nd M s.goal).kind = 4 then [s.goal, s.goal] else []) ++ ((List.range M.length).filter fun (j : Nat) => s.left.has j && decide (onV M s.left j = 13)).map fun (j : Nat) => (j : Int))
  else ([], [])
theorem choices_some {M : List Nd} {s : Sq} (hM : M.length ≤ 1024) (hl : lookV M s = true) (hb : s.left.okB = true) : rule_Choices.f (some M) s = some ((choicesV M s).1, (choicesV M s).2, 0) := by
  have h := lookV_rt hb hl
  unfold rule_Choices.f choicesV
  simp only [look_some hb, hl, if_true, Option.bind_some, apply_some hM h, node_some, decide_eq_true_eq, ne_eq, not_true_eq_false, decide_false, Bool.false_eq_true, if_false]
  by_cases h14 : (applyV M s).1 = 14
  · simp only [h14, not_true_eq_false, if_false, if_true]
    have hll : s.left.list.length ≤ 1024 := by
      unfold Bits.list
      exact Nat.le_trans (List.length_filter_le _ _) (by simp)
    have key : ∀ x y : List Int, x.length ≤ 2 → y.length ≤ 2 → forE (fun (x : Nat) (s_1 : List Int × List Int) => rule_Choices.b0 (some M) s (x : Int) s_1.1 s_1.2) s.left.list (x, y) =
        some (.inl (x ++ (s.left.list.filter fun (j : Nat) => decide (onV M s.left j = 13)).map (fun (j : Nat) => (j : Int)), y ++ (s.left.list.filter fun (j : Nat) => decide (onV M s.left j = 13)).map fun _ => 13)) := by
      intro x y hx hy
      refine forE_two _ 0 x y (fun j x y hj h1 h2 => ?_) (by omega) (by omega)
      unfold rule_Choices.b0
      simp only [on_some hb, Option.bind_some, chk, List.length_cons, List.length_nil, decide_eq_true_eq]
      by_cases h13 : onV M s.left j = 13
      · have e1 : (x.length + (0 + 1)) * 8 ≤ 140737488355328 := by omega
        have e2 : (y.length + (0 + 1)) * 8 ≤ 140737488355328 := by omega
        simp only [h13, e1, e2, decide_true, if_true]
      · simp only [h13, decide_false, if_false, Bool.false_eq_true]
    have hf : (s.left.list.filter fun (j : Nat) => decide (onV M s.left j = 13)) = (List.range M.length).filter fun (j : Nat) => s.left.has j && decide (onV M s.left j = 13) := by
      rw [list_eq hM h.left, List.filter_filter]
      exact congrArg (fun q => (List.range M.length).filter q) (funext fun j => Bool.and_comm _ _)
    by_cases h4 : (nd M s.goal).kind = 4
    · simp only [h4, if_true, chk, List.length_nil, List.length_cons, Option.bind_some, hb, List.nil_append]
      simp only [show decide ((0 + (0 + 1 + 1)) * 8 ≤ 140737488355328) = true from rfl, if_true]
      simp only [Option.bind_some]
      rw [key _ _ (by simp) (by simp), hf]
      simp [fin]
    · simp only [h4, if_false, Option.bind_some, hb, chk, if_true]
      rw [key _ _ (by simp) (by simp), hf]
      simp [fin]
  · simp [h14]
end Go.Proofs.YtjjkhjieegmphaaDoor
end
section
namespace Go.Proofs.YtjjkhjieegmphaaDoor
open Gw
set_option linter.unusedVariables false

def law09_RuleTells.f (a0 : List Nd) (a1 : Sq) (a2 : Int) (a3 : Int) : Option Bool :=
  (law03_Both.f a0).bind fun r3 => if !r3.2.2 then (law09_heads.f).bind fun r9 => some r9 else (rule_Apply.f r3.1 a1).bind fun r12 => (rule_Choices.f r3.1 a1).bind fun r15 => (rule_Fits.f r3.1 a1 a2 a3).bind fun r20 => (ref09_Right.f r3.2.1 a1).bind fun r23 => if !r23 then (if ((((((((decide (r12.1 = 0)) && (decide (r12.2.1 = 0))) && (decide (r12.2.2 = 31))) && (decide ((r15.1.length : Int) = 0))) && (decide ((r15.2.1.length : Int) = 0))) && (decide (r15.2.2 = 31))) && (!r20.1)) && (decide (r20.2 = 31))) then law09_heads.f else some false).bind fun r27 => some (((((((((decide (r12.1 = 0)) && (decide (r12.2.1 = 0))) && (decide (r12.2.2 = 31))) && (decide ((r15.1.length : Int) = 0))) && (decide ((r15.2.1.length : Int) = 0))) && (decide (r15.2.2 = 31))) && (!r20.1)) && (decide (r20.2 = 31))) && r27) else (ref09_Apply.f r3.2.1 a1).bind fun r29 => (ref09_Choices.f r3.2.1 a1).bind fun r32 => (if (((decide (r12.1 = r29.1)) && (decide (r12.2.1 = r29.2))) && (decide (r12.2.2 = 0))) then law09_rules.f r15.1 r32.1 else some false).bind fun r37 => (if ((((decide (r12.1 = r29.1)) && (decide (r12.2.1 = r29.2))) && (decide (r12.2.2 = 0))) && r37) then ref03_Ints.f r15.2.1 r32.2 else some false).bind fun r39 => (if ((((((decide (r12.1 = r29.1)) && (decide (r12.2.1 = r29.2))) && (decide (r12.2.2 = 0))) && r37) && r39) && (decide (r15.2.2 = 0))) then ref09_Fits.f r3.2.1 a1 a2 a3 else some false).bind fun r41 => (if ((((((((decide (r12.1 = r29.1)) && (decide (r12.2.1 = r29.2))) && (decide (r12.2.2 = 0))) && r37) && r39) && (decide (r15.2.2 = 0))) && (r20.1 == r41)) && (decide (r20.2 = 0))) then law03_Like.f r3.1 r3.2.1 else some false).bind fun r43 => (if (((((((((decide (r12.1 = r29.1)) && (decide (r12.2.1 = r29.2))) && (decide (r12.2.2 = 0))) && r37) && r39) && (decide (r15.2.2 = 0))) && (r20.1 == r41)) && (decide (r20.2 = 0))) && r43) then law09_heads.f else some false).bind fun r45 => some ((((((((((decide (r12.1 = r29.1)) && (decide (r12.2.1 = r29.2))) && (decide (r12.2.2 = 0))) && r37) && r39) && (decide (r15.2.2 = 0))) && (r20.1 == r41)) && (decide (r20.2 = 0))) && r43) && r45)
end Go.Proofs.YtjjkhjieegmphaaDoor
end
section
namespace Go.Proofs.YtjjkhjieegmphaaDoor
open Gw
set_option linter.unusedVariables false
set_option linter.unusedSimpArgs false
theorem wrap_small {n : Int} (h : 0 ≤ n ∧ n < 9223372036854775808) : IntKind.i64.wrap n = n := by
  exact IntWalk.i64_in _ ⟨by omega, by omega⟩
theorem idx_find (n : Nd) : ∀ (N : List Nd) (s : Nat), (List.range' s N.length).find? (fun k => decide (N.getD (k - s) Nd.z = n)) = (N.idxOf? n).map (· + s)
  | [], s => rfl
  | a :: N, s => by
    rw [List.length_cons, List.range'_succ, List.find?_cons, List.idxOf?_cons]
    by_cases h : a = n
    · simp [h]
    · have h1 : (a == n) = false := by simpa using h
      have h2 : (List.range' (s + 1) N.length).find? (fun k => decide ((a :: N).getD (k - s) Nd.z = n)) = (List.range' (s + 1) N.length).find? (fun k => decide (N.getD (k - (s + 1)) Nd.z = n)) := find_congr fun k hk => by
        have hk := (List.mem_range'_1.1 hk).1
        rw [show k - s = (k - (s + 1)) + 1 by omega]; simp
      simp only [Nat.sub_self, List.getD_cons_zero, h, decide_false, h1, h2, idx_find n N (s + 1)]
      cases N.idxOf? n with
      | none => rfl
      | some k => simp; omega
theorem docFind (N : List Nd) (n : Nd) : ref03_T_Find.f (some N) n = some (match N.idxOf? n with | some k => ((k : Int), true) | none => (0, false)) := by
  unfold ref03_T_Find.f
  have h1 := forN_find (b := fun i s => ref03_T_Find.b0 (some N) n i) (p := fun k => decide (N.getD k Nd.z = n)) (r := fun k => ((k : Int), true)) N.length 0 () (by
    intro k _ hk
    unfold ref03_T_Find.b0 at_
    rw [Int.toNat_natCast, Option.getD_some]
    split <;> rfl)
  have e0 : (((N.length : Nat) : Int) - 0).toNat = N.length := by omega
  simp only [Option.isSome_some, Option.getD_some, chk, if_true, e0]
  rw [show (0 : Int) = ((0 : Nat) : Int) from rfl, h1]
  have h2 := idx_find n N 0
  simp only [Nat.sub_zero, Nat.add_zero] at h2
  rw [h2]
  cases N.idxOf? n <;> rfl
theorem bind_eq {α β : Type} {x : Option α} {y : α} {f : α → Option β} {r : Option β} (hx : x = some y) (h : f y = r) : x.bind f = r := by rw [hx]; exact h
theorem docPut {N : List Nd} {n : Nd} (hN : N.length ≤ 1024) (hn : n.name.size < 9223372036854775808) : ref03_T_Put.f (some N) n = some (some (putS N n).1, (putS N n).2.1, (putS N n).2.2) := by
  have hrow : ∀ i : Int, ref03_T_Has.f (some N) i = some (hasRow N i) := fun i => by simp [ref03_T_Has.f, chk, hasRow]
  have hend : ((ref03_T_Find.f (some N) n).bind fun r25 => if r25.2 then some (some N, r25.1, 0) else chk (some N).isSome (if decide (1024 ≤ ((((some N).getD []).length : Nat) : Int)) then some ((some ((some N).getD [])), 0, 30) else chk (decide ((((some N).getD []).length + 1) * 40 ≤ 140737488355328)) (some ((some (((some N).getD []) ++ [n])), IntKind.i64.wrap (((((some N).getD []) ++ [n]).length : Int) - 1), 0)))) =
      (match N.idxOf? n with | some k => some (some N, (k : Int), (0 : Int)) | none => if 1024 ≤ N.length then some (some N, 0, 30) else some (some (N ++ [n]), (N.length : Int), 0)) := by
    rw [docFind]
    cases N.idxOf? n with
    | some k => rfl
    | none =>
      simp only [Option.bind_some, Bool.false_eq_true, if_false, Option.isSome_some, Option.getD_some, chk, if_true, decide_eq_true_eq]
      by_cases h : 1024 ≤ N.length
      · have h1 : (1024 : Int) ≤ (N.length : Int) := by omega
        simp only [h, h1, if_true]
      · have h1 : ¬ (1024 : Int) ≤ (N.length : Int) := by omega
        have h2 : (N.length + 1) * 40 ≤ 140737488355328 := by omega
        have h3 : IntKind.i64.wrap (((N ++ [n]).length : Int) - 1) = (N.length : Int) := by
          rw [wrap_small (by simp; omega)]; simp
        simp only [h, h1, h2, h3, if_true, if_false]
  unfold ref03_T_Put.f
  refine bind_eq (y := if fitsS N n = 0 then .inl (some N) else .inr (some N, 0, fitsS N n)) ?_ ?_
  · unfold fitsS
    simp only [hrow, ref03_Word.f, hn, chk, decide_true, if_true, Option.bind_some]
    by_cases k1 : n.kind = 1
    · simp only [k1, decide_true, if_true]
      by_cases hl : n.l = 0
      · by_cases hr : n.r = 0
        · by_cases hw : isWord n.name <;> simp [hl, hr, hw]
        · simp [hl, hr]
      · simp [hl]
    by_cases k2 : n.kind = 2
    · have e : (n = { Nd.z with kind := 2 }) ↔ (n.name = ⟨#[]⟩ ∧ n.l = 0 ∧ n.r = 0) := by
        constructor
        · intro h; rw [h]; exact ⟨rfl, rfl, rfl⟩
        · rintro ⟨h1, h2, h3⟩
          obtain ⟨a, b, c, d⟩ := n
          simp only at k2 h1 h2 h3
          subst k2 h1 h2 h3; rfl
      simp only [k2, decide_true, if_true, show ¬ ((2 : Int) = 1) by decide, decide_false, Bool.false_eq_true, if_false, e]
      by_cases hm : n.name = ⟨#[]⟩
      · by_cases hl : n.l = 0
        · by_cases hr : n.r = 0 <;> simp [hm, hl, hr]
        · simp [hm, hl]
      · simp [hm]
    by_cases k3 : n.kind = 3 ∨ n.kind = 4 ∨ n.kind = 5
    · have ho : ((if decide (n.kind = 3) = true then some (decide (n.kind = 3)) else if decide (n.kind = 4) = true then some (decide (n.kind = 4)) else some (decide (n.kind = 5))) : Option Bool) = some true := by
        rcases k3 with k | k | k <;> simp [k]
      simp only [k1, k2, k3, decide_false, Bool.false_eq_true, if_false, if_true]
      simp only [decide_eq_true_eq] at ho ⊢
      rw [ho]
      simp only [Option.bind_some, if_true]
      by_cases hm : n.name = ⟨#[]⟩
      · cases hl : hasRow N n.l with
        | false => simp [hm, hl]
        | true => cases hr : hasRow N n.r <;> simp [hm, hl, hr]
      · simp [hm]
    · have ho : ((if decide (n.kind = 3) = true then some (decide (n.kind = 3)) else if decide (n.kind = 4) = true then some (decide (n.kind = 4)) else some (decide (n.kind = 5))) : Option Bool) = some false := by
        simp only [not_or] at k3; simp [k3.1, k3.2.1, k3.2.2]
      simp only [k1, k2, k3, decide_false, Bool.false_eq_true, if_false, if_true]
      simp only [decide_eq_true_eq] at ho ⊢
      rw [ho]
      simp
  · by_cases hf : fitsS N n = 0
    · rw [if_pos hf]
      refine Eq.trans (show _ = _ from hend) ?_
      unfold putS
      rw [if_pos hf]
      cases N.idxOf? n with
      | some k => rfl
      | none =>
        by_cases h : 1024 ≤ N.length
        · simp only [if_pos h]
        · simp only [if_neg h]
    · rw [if_neg hf, put_bad hf]; rfl
theorem rows_take {M : List Nd} {i : Nat} (hi : i < M.length) : at_ Nd.z M i = M[i] := by
  unfold at_; rw [Int.toNat_natCast, List.getD_eq_getElem?_getD, List.getElem?_eq_getElem hi]; rfl
theorem Apply_some {M : List Nd} {s : Sq} (hM : M.length ≤ 1024) (hb : s.left.okB = true) : rule_Apply.f (some M) s = some (if lookV M s then ((applyV M s).1, (applyV M s).2, 0) else (0, 0, 31)) := by
  unfold rule_Apply.f
  rw [look_some hb]
  cases hl : lookV M s with
  | true => simp [apply_some hM (lookV_rt hb hl)]
  | false => simp
end Go.Proofs.YtjjkhjieegmphaaDoor
end
section
namespace Go.Proofs.YtjjkhjieegmphaaDoor
open Gw
set_option linter.unusedVariables false

def law09_RulePremises.f (a0 : List Nd) (a1 : Sq) (a2 : Int) (a3 : Int) : Option Bool :=
  (law03_Both.f a0).bind fun r3 => if !r3.2.2 then (law09_heads.f).bind fun r9 => some r9 else (rule_Premises.f r3.1 a1 a2 a3).bind fun r12 => (ref09_Right.f r3.2.1 a1).bind fun r16 => if !r16 then (if ((decide ((r12.2.1.length : Int) = 0)) && (decide (r12.2.2 = 31))) then law03_Like.f r12.1 r3.2.1 else some false).bind fun r20 => (if (((decide ((r12.2.1.length : Int) = 0)) && (decide (r12.2.2 = 31))) && r20) then law09_heads.f else some false).bind fun r22 => some ((((decide ((r12.2.1.length : Int) = 0)) && (decide (r12.2.2 = 31))) && r20) && r22) else (ref09_Premises.f r3.2.1 a1 a2 a3).bind fun r24 => (ref09_Seqs.f r12.2.1 r24.2.1).bind fun r28 => (if (r28 && (decide (r12.2.2 = r24.2.2))) then law03_Like.f r12.1 r24.1 else some false).bind fun r31 => (if ((r28 && (decide (r12.2.2 = r24.2.2))) && r31) then law09_heads.f else some false).bind fun r33 => some (((r28 && (decide (r12.2.2 = r24.2.2))) && r31) && r33)
end Go.Proofs.YtjjkhjieegmphaaDoor
end
section
namespace Go.Proofs.YtjjkhjieegmphaaDoor
open Gw
set_option linter.unusedVariables false
set_option linter.unusedSimpArgs false
theorem okB_add {b : Bits} (n : Int) : (b.add n).okB = true := Bits.ok_okB (Bits.add_ok _ _)
theorem okB_del {b : Bits} (n : Int) : (b.del n).okB = true := Bits.ok_okB (Bits.del_ok _ _)
theorem union_one {b : Bits} {x : Int} (hx : 0 ≤ x ∧ x < 1024) : b.union (Bits.ofs [x]).1 = b.add x := by
  refine Bits.eq_of_has (Bits.union_ok _ _) (Bits.add_ok _ _) fun m hm => ?_
  rw [Bits.union_has, Bits.add_has _ _ _ hx]
  unfold Bits.ofs
  rw [if_pos (by simpa using hx), show Bits.ofl [x] = Bits.z.add x from rfl, Bits.add_has _ _ _ hx, Bits.z_has, Bool.or_false, Bool.or_comm]
theorem union_two {b : Bits} {x y : Int} (hx : 0 ≤ x ∧ x < 1024) (hy : 0 ≤ y ∧ y < 1024) : b.union (Bits.ofs [x, y]).1 = (b.add x).add y := by
  refine Bits.eq_of_has (Bits.union_ok _ _) (Bits.add_ok _ _) fun m hm => ?_
  rw [Bits.union_has, Bits.add_has _ _ _ hy, Bits.add_has _ _ _ hx]
  unfold Bits.ofs
  rw [if_pos (by intro n hn; rcases List.mem_cons.1 hn with rfl | hn; exact hx; rw [List.mem_singleton.1 hn]; exact hy), show Bits.ofl [x, y] = (Bits.z.add x).add y from rfl, Bits.add_has _ _ _ hy, Bits.add_has _ _ _ hx, Bits.z_has, Bool.or_false]
  cases b.has m <;> simp
theorem add_add {b : Bits} {x : Int} (hx : 0 ≤ x ∧ x < 1024) : (b.add x).add x = b.add x := by
  refine Bits.eq_of_has (Bits.add_ok _ _) (Bits.add_ok _ _) fun m hm => ?_
  rw [Bits.add_has _ _ _ hx, Bits.add_has _ _ _ hx]
  cases b.has m <;> simp
theorem withP1 {s : Sq} {x : Int} (hb : s.left.okB = true) (hx : 0 ≤ x ∧ x < 1024) : rule_with.f s [x] = some { s with left := s.left.add x } := by
  unfold rule_with.f bits_Of.f bits_Union.f
  simp only [Option.bind_some]
  rw [chk, if_pos (by rw [hb, Bits.ok_okB (Bits.ofs_ok _)]; rfl), union_one hx]; rfl
theorem withP2 {s : Sq} {x y : Int} (hb : s.left.okB = true) (hx : 0 ≤ x ∧ x < 1024) (hy : 0 ≤ y ∧ y < 1024) : rule_with.f s [x, y] = some { s with left := (s.left.add x).add y } := by
  unfold rule_with.f bits_Of.f bits_Union.f
  simp only [Option.bind_some]
  rw [chk, if_pos (by rw [hb, Bits.ok_okB (Bits.ofs_ok _)]; rfl), union_two hx hy]; rfl
theorem withD2 {s : Sq} {x y : Int} (hb : s.left.okB = true) (hx : 0 ≤ x ∧ x < 1024) (hy : 0 ≤ y ∧ y < 1024) : ref09_with.f s x y = some { s with left := (s.left.add x).add y } := by
  have h1 : ref05_With.f s.left x = some (s.left.add x) := by
    unfold ref05_With.f
    rw [chk, if_pos]
    rw [hb, decide_eq_true hx.1, decide_eq_true hx.2]; rfl
  have h2 : ref05_With.f (s.left.add x) y = some ((s.left.add x).add y) := by
    unfold ref05_With.f
    rw [chk, if_pos]
    rw [okB_add, decide_eq_true hy.1, decide_eq_true hy.2]; rfl
  unfold ref09_with.f
  rw [h1, Option.bind_some, h2, Option.bind_some]
theorem withD1 {s : Sq} {x : Int} (hb : s.left.okB = true) (hx : 0 ≤ x ∧ x < 1024) : ref09_with.f s x x = some { s with left := s.left.add x } := by
  rw [withD2 hb hx hx, add_add hx]
theorem withP1m {B : Bits} {g x : Int} (hb : B.okB = true) (hx : 0 ≤ x ∧ x < 1024) : rule_with.f ⟨B, g⟩ [x] = some ⟨B.add x, g⟩ := withP1 (s := ⟨B, g⟩) hb hx
theorem withP2m {B : Bits} {g x y : Int} (hb : B.okB = true) (hx : 0 ≤ x ∧ x < 1024) (hy : 0 ≤ y ∧ y < 1024) : rule_with.f ⟨B, g⟩ [x, y] = some ⟨(B.add x).add y, g⟩ := withP2 (s := ⟨B, g⟩) hb hx hy
theorem withD1m {B : Bits} {g x : Int} (hb : B.okB = true) (hx : 0 ≤ x ∧ x < 1024) : ref09_with.f ⟨B, g⟩ x x = some ⟨B.add x, g⟩ := withD1 (s := ⟨B, g⟩) hb hx
theorem withD2m {B : Bits} {g x y : Int} (hb : B.okB = true) (hx : 0 ≤ x ∧ x < 1024) (hy : 0 ≤ y ∧ y < 1024) : ref09_with.f ⟨B, g⟩ x y = some ⟨(B.add x).add y, g⟩ := withD2 (s := ⟨B, g⟩) hb hx hy
theorem both1 {B : Bits} {g x : Int} (hb : B.okB = true) (hx : 0 ≤ x ∧ x < 1024) : ∃ q, rule_with.f ⟨B, g⟩ [x] = some q ∧ ref09_with.f ⟨B, g⟩ x x = some q := ⟨_, withP1m hb hx, withD1m hb hx⟩
theorem both2 {B : Bits} {g x y : Int} (hb : B.okB = true) (hx : 0 ≤ x ∧ x < 1024) (hy : 0 ≤ y ∧ y < 1024) : ∃ q, rule_with.f ⟨B, g⟩ [x, y] = some q ∧ ref09_with.f ⟨B, g⟩ x y = some q := ⟨_, withP2m hb hx hy, withD2m hb hx hy⟩
theorem put_props {N : List Nd} {n : Nd} (hN : N.length ≤ 1024) (hd : N.Nodup) : ((putS N n).2.2 ≠ 0 → (putS N n).1 = N) ∧ ((putS N n).2.2 = 0 → 0 ≤ (putS N n).2.1 ∧ (putS N n).2.1 < 1024) ∧ (putS N n).1.take N.length = N ∧ (putS N n).1.Nodup ∧ (putS N n).1.length ≤ 1024 ∧ N.length ≤ (putS N n).1.length := by
  by_cases hf : fitsS N n = 0
  · cases hk : N.idxOf? n with
    | some k =>
      rw [put_old hf hk]
      have := (List.idxOf?_eq_some_iff.1 hk).1
      exact ⟨fun h => absurd rfl h, fun _ => ⟨by simp, by simp; omega⟩, by simp, hd, hN, Nat.le_refl _⟩
    | none =>
      by_cases hl : 1024 ≤ N.length
      · rw [put_full hf hk hl]
        exact ⟨fun _ => rfl, fun h => absurd h (by simp), by simp, hd, hN, Nat.le_refl _⟩
      · rw [put_new hf hk hl]
        refine ⟨fun h => absurd rfl h, fun _ => ⟨by simp, by simp; omega⟩, by simp, ?_, by simp; omega, by simp⟩
        rw [List.nodup_append]
        refine ⟨hd, by simp, fun a ha b hb e => ?_⟩
        rw [List.mem_singleton.1 hb] at e
        subst e
        have := List.idxOf?_eq_none_iff.1 hk
        exact this ha
  · rw [put_bad hf]
    exact ⟨fun _ => rfl, fun h => absurd h hf, by simp, hd, hN, Nat.le_refl _⟩
theorem impP (N : List Nd) (a b : Int) : formula_Table_Imp.f (some N) a b = some (some (putS N (impN a b)).1, (putS N (impN a b)).2.1, (putS N (impN a b)).2.2) := rfl
theorem impD {N : List Nd} (hN : N.length ≤ 1024) (a b : Int) : ref03_T_Imp.f (some N) a b = some (some (putS N (impN a b)).1, (putS N (impN a b)).2.1, (putS N (impN a b)).2.2) := by
  unfold ref03_T_Imp.f ref03_T_Two.f
  rw [docPut hN (by show (ByteArray.empty).size < _; decide)]
  rfl
theorem cutP {N M : List Nd} (h1 : N.take M.length = M) (h2 : N.Nodup) (h3 : M.length ≤ N.length) : formula_Table_Cut.f (some N) (M.length : Int) = some (some M, 0) := by
  unfold formula_Table_Cut.f
  have h4 : ¬ (M.length : Int) < 0 := by omega
  have h5 : ¬ (N.length : Int) < (M.length : Int) := by omega
  simp [h4, h5, chk, h2, h1]
theorem cutD {N M : List Nd} (h1 : N.take M.length = M) (h3 : M.length ≤ N.length) : ref03_T_Cut.f (some N) (M.length : Int) = some (some M, 0) := by
  unfold ref03_T_Cut.f
  have h4 : ¬ (M.length : Int) < 0 := by omega
  have h5 : ¬ (N.length : Int) < (M.length : Int) := by omega
  have h6 : 0 ≤ (M.length : Int) ∧ (M.length : Int) ≤ (N.length : Int) := by omega
  simp [h4, h5, chk, h6, h1]
/-- what both sides make of a rule's premises -/
def Agree (M : List Nd) (s : Sq) (r i : Int) : Prop := ∃ (M' : List Nd) (L : List Sq) (e : Int), rule_Premises.f (some M) s r i = some (some M', L, e) ∧ ref09_Premises.f (some M) s r i = some (some M', L, e)
theorem in1024 {M : List Nd} {i : Int} (hM : M.length ≤ 1024) (h : inb i M.length = true) : 0 ≤ i ∧ i < 1024 := by have := inb_ex h; omega
theorem on_cases {M : List Nd} {b : Bits} {i r : Int} (h : onV M b i = r) (h0 : r ≠ 0) : (r = 1 ∧ (nd M i).kind = 2) ∨ (r = 3 ∧ (nd M i).kind = 3) ∨ (r = 10 ∧ (nd M i).kind = 4) ∨ ((nd M i).kind = 5 ∧ ((r = 4 ∧ (nd M (nd M i).l).kind = 1) ∨ (r = 5 ∧ (nd M (nd M i).l).kind = 2) ∨ (r = 6 ∧ (nd M (nd M i).l).kind = 3) ∨ (r = 7 ∧ (nd M (nd M i).l).kind = 4) ∨ (r = 13 ∧ (nd M (nd M i).l).kind = 5))) := by
  by_cases k2 : (nd M i).kind = 2
  · rw [onV, if_pos k2] at h; exact .inl ⟨h.symm, k2⟩
  by_cases k3 : (nd M i).kind = 3
  · rw [onV, if_neg k2, if_pos k3] at h; exact .inr (.inl ⟨h.symm, k3⟩)
  by_cases k4 : (nd M i).kind = 4
  · rw [onV, if_neg k2, if_neg k3, if_pos k4] at h; exact .inr (.inr (.inl ⟨h.symm, k4⟩))
  by_cases k5 : (nd M i).kind = 5
  · rw [onV, if_neg k2, if_neg k3, if_neg k4, if_pos k5] at h
    refine .inr (.inr (.inr ⟨k5, ?_⟩))
    by_cases c1 : (nd M (nd M i).l).kind = 1
    · rw [if_pos c1] at h
      split at h
      · exact .inl ⟨h.symm, c1⟩
      · exact absurd h.symm h0
    rw [if_neg c1] at h
    by_cases c2 : (nd M (nd M i).l).kind = 2
    · rw [if_pos c2] at h; exact .inr (.inl ⟨h.symm, c2⟩)
    rw [if_neg c2] at h
    by_cases c3 : (nd M (nd M i).l).kind = 3
    · rw [if_pos c3] at h; exact .inr (.inr (.inl ⟨h.symm, c3⟩))
    rw [if_neg c3] at h
    by_cases c4 : (nd M (nd M i).l).kind = 4
    · rw [if_pos c4] at h; exact .inr (.inr (.inr (.inl ⟨h.symm, c4⟩)))
    rw [if_neg c4] at h
    by_cases c5 : (nd M (nd M i).l).kind = 5
    · rw [if_pos c5] at h; exact .inr (.inr (.inr (.inr ⟨h.symm, c5⟩)))
    rw [if_neg c5] at h
    exact absurd h.symm h0
  · rw [onV, if_neg k2, if_neg k3, if_neg k4, if_neg k5] at h; exact absurd h.symm h0
theorem fits_cases {M : List Nd} {s : Sq} {r i : Int} (h : fitsV M s r i = true) : inb i M.length = true ∧ (r = 2 ∨ (r = 8 ∧ (nd M i).kind = 5) ∨ (r = 9 ∧ (nd M i).kind = 3) ∨ ((r = 11 ∨ r = 12) ∧ (nd M i).kind = 4) ∨ (r = 1 ∧ (nd M i).kind = 2) ∨ (r = 3 ∧ (nd M i).kind = 3) ∨ (r = 10 ∧ (nd M i).kind = 4) ∨ ((nd M i).kind = 5 ∧ ((r = 4 ∧ (nd M (nd M i).l).kind = 1) ∨ (r = 5 ∧ (nd M (nd M i).l).kind = 2) ∨ (r = 6 ∧ (nd M (nd M i).l).kind = 3) ∨ (r = 7 ∧ (nd M (nd M i).l).kind = 4) ∨ (r = 13 ∧ (nd M (nd M i).l).kind = 5)))) := by
  unfold fitsV at h
  cases hi : inb i M.length with
  | false => simp [hi] at h
  | true =>
    refine ⟨rfl, ?_⟩
    simp only [hi, Bool.true_eq_false, if_false] at h
    split at h
    · exact .inl ‹_›
    split at h
    · simp only [Bool.and_eq_true, decide_eq_true_eq] at h; exact .inr (.inl ⟨‹_›, h.2⟩)
    split at h
    · simp only [Bool.and_eq_true, decide_eq_true_eq] at h; exact .inr (.inr (.inl ⟨‹_›, h.2⟩))
    split at h
    · simp only [Bool.and_eq_true, decide_eq_true_eq] at h; exact .inr (.inr (.inr (.inl ⟨‹_›, h.2⟩)))
    · simp only [Bool.and_eq_true, decide_eq_true_eq, ne_eq] at h
      exact .inr (.inr (.inr (.inr (on_cases h.2 h.1.1))))
theorem prem_2 {M : List Nd} {s : Sq} {i : Int} (hw : Wf M) (hl : lookV M s = true) (hb : s.left.okB = true) (hf : fitsV M s 2 i = true) (hi : inb i M.length = true) : Agree M s 2 i := by
  have h := lookV_rt hb hl
  have hd := hw.nodup
  unfold Agree
  have hP : ∀ M' L, rule_premises.f (some M) s 2 i = some (some M', L, 0) → rule_Premises.f (some M) s 2 i = some (some M', L, 0) := by
    intro M' L e
    simp [rule_Premises.f, look_some hb, hl, fits_some hb, hf, formula_Table_Len.f, e]
  have hE : ∀ N L e, e ≠ 0 → rule_premises.f (some M) s 2 i = some (some N, L, e) → N.take M.length = M → N.Nodup → M.length ≤ N.length → rule_Premises.f (some M) s 2 i = some (some M, [], e) := by
    intro N L e he e1 h1 h2 h3
    simp [rule_Premises.f, look_some hb, hl, fits_some hb, hf, formula_Table_Len.f, e1, he, cutP h1 h2 h3]
  have hbd : ({ s with left := s.left.del i } : Sq).left.okB = true := okB_del i
  have k345 : (nd M i).kind = 3 ∨ (nd M i).kind = 4 ∨ (nd M i).kind = 5 → (0 ≤ (nd M i).l ∧ (nd M i).l < 1024) ∧ (0 ≤ (nd M i).r ∧ (nd M i).r < 1024) := fun k => ⟨in1024 hw.len (hw.left hi k), in1024 hw.len (hw.right hi k)⟩
  exact ⟨M, [], 0, hP _ _ (by simp -implicitDefEqProofs [rule_premises.f, node_some, bits_Drop.f, chk, hb]), by simp -implicitDefEqProofs [ref09_Premises.f, docFits hw hb, hf, chk, hi, nd_at hi, ref05_Drop.f, hb]⟩
theorem prem_8 {M : List Nd} {s : Sq} {i : Int} (hw : Wf M) (hl : lookV M s = true) (hb : s.left.okB = true) (hf : fitsV M s 8 i = true) (hi : inb i M.length = true) (k : (nd M i).kind = 5) : Agree M s 8 i := by
  have h := lookV_rt hb hl
  have hd := hw.nodup
  unfold Agree
  have hP : ∀ M' L, rule_premises.f (some M) s 8 i = some (some M', L, 0) → rule_Premises.f (some M) s 8 i = some (some M', L, 0) := by
    intro M' L e
    simp [rule_Premises.f, look_some hb, hl, fits_some hb, hf, formula_Table_Len.f, e]
  have hE : ∀ N L e, e ≠ 0 → rule_premises.f (some M) s 8 i = some (some N, L, e) → N.take M.length = M → N.Nodup → M.length ≤ N.length → rule_Premises.f (some M) s 8 i = some (some M, [], e) := by
    intro N L e he e1 h1 h2 h3
    simp [rule_Premises.f, look_some hb, hl, fits_some hb, hf, formula_Table_Len.f, e1, he, cutP h1 h2 h3]
  have hbd : ({ s with left := s.left.del i } : Sq).left.okB = true := okB_del i
  have k345 : (nd M i).kind = 3 ∨ (nd M i).kind = 4 ∨ (nd M i).kind = 5 → (0 ≤ (nd M i).l ∧ (nd M i).l < 1024) ∧ (0 ≤ (nd M i).r ∧ (nd M i).r < 1024) := fun k => ⟨in1024 hw.len (hw.left hi k), in1024 hw.len (hw.right hi k)⟩
  obtain ⟨hx, hy⟩ := k345 (.inr (.inr k))
  exact ⟨M, _, 0, hP _ _ (by simp -implicitDefEqProofs [rule_premises.f, node_some, bits_Drop.f, chk, hb, withP1 hb hx, rule_to.f]; rfl), by simp -implicitDefEqProofs [ref09_Premises.f, docFits hw hb, hf, chk, hi, nd_at hi, ref05_Drop.f, hb, withD1 hb hx, ref09_to.f]⟩
theorem prem_9 {M : List Nd} {s : Sq} {i : Int} (hw : Wf M) (hl : lookV M s = true) (hb : s.left.okB = true) (hf : fitsV M s 9 i = true) (hi : inb i M.length = true) (k : (nd M i).kind = 3) : Agree M s 9 i := by
  have h := lookV_rt hb hl
  have hd := hw.nodup
  unfold Agree
  have hP : ∀ M' L, rule_premises.f (some M) s 9 i = some (some M', L, 0) → rule_Premises.f (some M) s 9 i = some (some M', L, 0) := by
    intro M' L e
    simp [rule_Premises.f, look_some hb, hl, fits_some hb, hf, formula_Table_Len.f, e]
  have hE : ∀ N L e, e ≠ 0 → rule_premises.f (some M) s 9 i = some (some N, L, e) → N.take M.length = M → N.Nodup → M.length ≤ N.length → rule_Premises.f (some M) s 9 i = some (some M, [], e) := by
    intro N L e he e1 h1 h2 h3
    simp [rule_Premises.f, look_some hb, hl, fits_some hb, hf, formula_Table_Len.f, e1, he, cutP h1 h2 h3]
  have hbd : ({ s with left := s.left.del i } : Sq).left.okB = true := okB_del i
  have k345 : (nd M i).kind = 3 ∨ (nd M i).kind = 4 ∨ (nd M i).kind = 5 → (0 ≤ (nd M i).l ∧ (nd M i).l < 1024) ∧ (0 ≤ (nd M i).r ∧ (nd M i).r < 1024) := fun k => ⟨in1024 hw.len (hw.left hi k), in1024 hw.len (hw.right hi k)⟩
  exact ⟨M, _, 0, hP _ _ (by simp -implicitDefEqProofs [rule_premises.f, node_some, bits_Drop.f, chk, hb, rule_to.f]; rfl), by simp -implicitDefEqProofs [ref09_Premises.f, docFits hw hb, hf, chk, hi, nd_at hi, ref05_Drop.f, hb, ref09_to.f]⟩
theorem prem_11 {M : List Nd} {s : Sq} {i : Int} (hw : Wf M) (hl : lookV M s = true) (hb : s.left.okB = true) (hf : fitsV M s 11 i = true) (hi : inb i M.length = true) (k : (nd M i).kind = 4) : Agree M s 11 i := by
  have h := lookV_rt hb hl
  have hd := hw.nodup
  unfold Agree
  have hP : ∀ M' L, rule_premises.f (some M) s 11 i = some (some M', L, 0) → rule_Premises.f (some M) s 11 i = some (some M', L, 0) := by
    intro M' L e
    simp [rule_Premises.f, look_some hb, hl, fits_some hb, hf, formula_Table_Len.f, e]
  have hE : ∀ N L e, e ≠ 0 → rule_premises.f (some M) s 11 i = some (some N, L, e) → N.take M.length = M → N.Nodup → M.length ≤ N.length → rule_Premises.f (some M) s 11 i = some (some M, [], e) := by
    intro N L e he e1 h1 h2 h3
    simp [rule_Premises.f, look_some hb, hl, fits_some hb, hf, formula_Table_Len.f, e1, he, cutP h1 h2 h3]
  have hbd : ({ s with left := s.left.del i } : Sq).left.okB = true := okB_del i
  have k345 : (nd M i).kind = 3 ∨ (nd M i).kind = 4 ∨ (nd M i).kind = 5 → (0 ≤ (nd M i).l ∧ (nd M i).l < 1024) ∧ (0 ≤ (nd M i).r ∧ (nd M i).r < 1024) := fun k => ⟨in1024 hw.len (hw.left hi k), in1024 hw.len (hw.right hi k)⟩
  exact ⟨M, _, 0, hP _ _ (by simp -implicitDefEqProofs [rule_premises.f, node_some, bits_Drop.f, chk, hb, rule_to.f]; rfl), by simp -implicitDefEqProofs [ref09_Premises.f, docFits hw hb, hf, chk, hi, nd_at hi, ref05_Drop.f, hb, ref09_to.f]⟩
theorem prem_12 {M : List Nd} {s : Sq} {i : Int} (hw : Wf M) (hl : lookV M s = true) (hb : s.left.okB = true) (hf : fitsV M s 12 i = true) (hi : inb i M.length = true) (k : (nd M i).kind = 4) : Agree M s 12 i := by
  have h := lookV_rt hb hl
  have hd := hw.nodup
  unfold Agree
  have hP : ∀ M' L, rule_premises.f (some M) s 12 i = some (some M', L, 0) → rule_Premises.f (some M) s 12 i = some (some M', L, 0) := by
    intro M' L e
    simp [rule_Premises.f, look_some hb, hl, fits_some hb, hf, formula_Table_Len.f, e]
  have hE : ∀ N L e, e ≠ 0 → rule_premises.f (some M) s 12 i = some (some N, L, e) → N.take M.length = M → N.Nodup → M.length ≤ N.length → rule_Premises.f (some M) s 12 i = some (some M, [], e) := by
    intro N L e he e1 h1 h2 h3
    simp [rule_Premises.f, look_some hb, hl, fits_some hb, hf, formula_Table_Len.f, e1, he, cutP h1 h2 h3]
  have hbd : ({ s with left := s.left.del i } : Sq).left.okB = true := okB_del i
  have k345 : (nd M i).kind = 3 ∨ (nd M i).kind = 4 ∨ (nd M i).kind = 5 → (0 ≤ (nd M i).l ∧ (nd M i).l < 1024) ∧ (0 ≤ (nd M i).r ∧ (nd M i).r < 1024) := fun k => ⟨in1024 hw.len (hw.left hi k), in1024 hw.len (hw.right hi k)⟩
  exact ⟨M, _, 0, hP _ _ (by simp -implicitDefEqProofs [rule_premises.f, node_some, bits_Drop.f, chk, hb, rule_to.f]; rfl), by simp -implicitDefEqProofs [ref09_Premises.f, docFits hw hb, hf, chk, hi, nd_at hi, ref05_Drop.f, hb, ref09_to.f]⟩
theorem prem_1 {M : List Nd} {s : Sq} {i : Int} (hw : Wf M) (hl : lookV M s = true) (hb : s.left.okB = true) (hf : fitsV M s 1 i = true) (hi : inb i M.length = true) (k : (nd M i).kind = 2) : Agree M s 1 i := by
  have h := lookV_rt hb hl
  have hd := hw.nodup
  unfold Agree
  have hP : ∀ M' L, rule_premises.f (some M) s 1 i = some (some M', L, 0) → rule_Premises.f (some M) s 1 i = some (some M', L, 0) := by
    intro M' L e
    simp [rule_Premises.f, look_some hb, hl, fits_some hb, hf, formula_Table_Len.f, e]
  have hE : ∀ N L e, e ≠ 0 → rule_premises.f (some M) s 1 i = some (some N, L, e) → N.take M.length = M → N.Nodup → M.length ≤ N.length → rule_Premises.f (some M) s 1 i = some (some M, [], e) := by
    intro N L e he e1 h1 h2 h3
    simp [rule_Premises.f, look_some hb, hl, fits_some hb, hf, formula_Table_Len.f, e1, he, cutP h1 h2 h3]
  have hbd : ({ s with left := s.left.del i } : Sq).left.okB = true := okB_del i
  have k345 : (nd M i).kind = 3 ∨ (nd M i).kind = 4 ∨ (nd M i).kind = 5 → (0 ≤ (nd M i).l ∧ (nd M i).l < 1024) ∧ (0 ≤ (nd M i).r ∧ (nd M i).r < 1024) := fun k => ⟨in1024 hw.len (hw.left hi k), in1024 hw.len (hw.right hi k)⟩
  exact ⟨M, [], 0, hP _ _ (by simp -implicitDefEqProofs [rule_premises.f, node_some, bits_Drop.f, chk, hb]), by simp -implicitDefEqProofs [ref09_Premises.f, docFits hw hb, hf, chk, hi, nd_at hi, ref05_Drop.f, hb]⟩
theorem prem_3 {M : List Nd} {s : Sq} {i : Int} (hw : Wf M) (hl : lookV M s = true) (hb : s.left.okB = true) (hf : fitsV M s 3 i = true) (hi : inb i M.length = true) (k : (nd M i).kind = 3) : Agree M s 3 i := by
  have h := lookV_rt hb hl
  have hd := hw.nodup
  unfold Agree
  have hP : ∀ M' L, rule_premises.f (some M) s 3 i = some (some M', L, 0) → rule_Premises.f (some M) s 3 i = some (some M', L, 0) := by
    intro M' L e
    simp [rule_Premises.f, look_some hb, hl, fits_some hb, hf, formula_Table_Len.f, e]
  have hE : ∀ N L e, e ≠ 0 → rule_premises.f (some M) s 3 i = some (some N, L, e) → N.take M.length = M → N.Nodup → M.length ≤ N.length → rule_Premises.f (some M) s 3 i = some (some M, [], e) := by
    intro N L e he e1 h1 h2 h3
    simp [rule_Premises.f, look_some hb, hl, fits_some hb, hf, formula_Table_Len.f, e1, he, cutP h1 h2 h3]
  have hbd : ({ s with left := s.left.del i } : Sq).left.okB = true := okB_del i
  have k345 : (nd M i).kind = 3 ∨ (nd M i).kind = 4 ∨ (nd M i).kind = 5 → (0 ≤ (nd M i).l ∧ (nd M i).l < 1024) ∧ (0 ≤ (nd M i).r ∧ (nd M i).r < 1024) := fun k => ⟨in1024 hw.len (hw.left hi k), in1024 hw.len (hw.right hi k)⟩
  obtain ⟨hx, hy⟩ := k345 (.inl k)
  obtain ⟨q, p1, p2⟩ := both2 (g := s.goal) (okB_del (b := s.left) i) hx hy
  exact ⟨M, _, 0, hP _ _ (by simp -implicitDefEqProofs [rule_premises.f, node_some, bits_Drop.f, chk, hb, p1]; rfl), by simp -implicitDefEqProofs [ref09_Premises.f, docFits hw hb, hf, chk, hi, nd_at hi, ref05_Drop.f, hb, p2]⟩
theorem prem_10 {M : List Nd} {s : Sq} {i : Int} (hw : Wf M) (hl : lookV M s = true) (hb : s.left.okB = true) (hf : fitsV M s 10 i = true) (hi : inb i M.length = true) (k : (nd M i).kind = 4) : Agree M s 10 i := by
  have h := lookV_rt hb hl
  have hd := hw.nodup
  unfold Agree
  have hP : ∀ M' L, rule_premises.f (some M) s 10 i = some (some M', L, 0) → rule_Premises.f (some M) s 10 i = some (some M', L, 0) := by
    intro M' L e
    simp [rule_Premises.f, look_some hb, hl, fits_some hb, hf, formula_Table_Len.f, e]
  have hE : ∀ N L e, e ≠ 0 → rule_premises.f (some M) s 10 i = some (some N, L, e) → N.take M.length = M → N.Nodup → M.length ≤ N.length → rule_Premises.f (some M) s 10 i = some (some M, [], e) := by
    intro N L e he e1 h1 h2 h3
    simp [rule_Premises.f, look_some hb, hl, fits_some hb, hf, formula_Table_Len.f, e1, he, cutP h1 h2 h3]
  have hbd : ({ s with left := s.left.del i } : Sq).left.okB = true := okB_del i
  have k345 : (nd M i).kind = 3 ∨ (nd M i).kind = 4 ∨ (nd M i).kind = 5 → (0 ≤ (nd M i).l ∧ (nd M i).l < 1024) ∧ (0 ≤ (nd M i).r ∧ (nd M i).r < 1024) := fun k => ⟨in1024 hw.len (hw.left hi k), in1024 hw.len (hw.right hi k)⟩
  obtain ⟨hx, hy⟩ := k345 (.inr (.inl k))
  obtain ⟨q, p1, p2⟩ := both1 (g := s.goal) (okB_del (b := s.left) i) hx
  obtain ⟨q', p3, p4⟩ := both1 (g := s.goal) (okB_del (b := s.left) i) hy
  exact ⟨M, _, 0, hP _ _ (by simp -implicitDefEqProofs [rule_premises.f, node_some, bits_Drop.f, chk, hb, p1, p3]; rfl), by simp -implicitDefEqProofs [ref09_Premises.f, docFits hw hb, hf, chk, hi, nd_at hi, ref05_Drop.f, hb, p2, p4]⟩
theorem prem_4 {M : List Nd} {s : Sq} {i : Int} (hw : Wf M) (hl : lookV M s = true) (hb : s.left.okB = true) (hf : fitsV M s 4 i = true) (hi : inb i M.length = true) (k : (nd M i).kind = 5) (c : (nd M (nd M i).l).kind = 1) : Agree M s 4 i := by
  have h := lookV_rt hb hl
  have hd := hw.nodup
  unfold Agree
  have hP : ∀ M' L, rule_premises.f (some M) s 4 i = some (some M', L, 0) → rule_Premises.f (some M) s 4 i = some (some M', L, 0) := by
    intro M' L e
    simp [rule_Premises.f, look_some hb, hl, fits_some hb, hf, formula_Table_Len.f, e]
  have hE : ∀ N L e, e ≠ 0 → rule_premises.f (some M) s 4 i = some (some N, L, e) → N.take M.length = M → N.Nodup → M.length ≤ N.length → rule_Premises.f (some M) s 4 i = some (some M, [], e) := by
    intro N L e he e1 h1 h2 h3
    simp [rule_Premises.f, look_some hb, hl, fits_some hb, hf, formula_Table_Len.f, e1, he, cutP h1 h2 h3]
  have hbd : ({ s with left := s.left.del i } : Sq).left.okB = true := okB_del i
  have k345 : (nd M i).kind = 3 ∨ (nd M i).kind = 4 ∨ (nd M i).kind = 5 → (0 ≤ (nd M i).l ∧ (nd M i).l < 1024) ∧ (0 ≤ (nd M i).r ∧ (nd M i).r < 1024) := fun k => ⟨in1024 hw.len (hw.left hi k), in1024 hw.len (hw.right hi k)⟩
  obtain ⟨hx, hy⟩ := k345 (.inr (.inr k))
  have hli := hw.left hi (.inr (.inr k))
  obtain ⟨q, p1, p2⟩ := both1 (g := s.goal) (okB_del (b := s.left) i) hy
  exact ⟨M, _, 0, hP _ _ (by simp -implicitDefEqProofs [rule_premises.f, node_some, bits_Drop.f, chk, hb, p1]; rfl), by simp -implicitDefEqProofs [ref09_Premises.f, docFits hw hb, hf, chk, hi, nd_at hi, ref05_Drop.f, hb, p2]⟩
theorem prem_5 {M : List Nd} {s : Sq} {i : Int} (hw : Wf M) (hl : lookV M s = true) (hb : s.left.okB = true) (hf : fitsV M s 5 i = true) (hi : inb i M.length = true) (k : (nd M i).kind = 5) (c : (nd M (nd M i).l).kind = 2) : Agree M s 5 i := by
  have h := lookV_rt hb hl
  have hd := hw.nodup
  unfold Agree
  have hP : ∀ M' L, rule_premises.f (some M) s 5 i = some (some M', L, 0) → rule_Premises.f (some M) s 5 i = some (some M', L, 0) := by
    intro M' L e
    simp [rule_Premises.f, look_some hb, hl, fits_some hb, hf, formula_Table_Len.f, e]
  have hE : ∀ N L e, e ≠ 0 → rule_premises.f (some M) s 5 i = some (some N, L, e) → N.take M.length = M → N.Nodup → M.length ≤ N.length → rule_Premises.f (some M) s 5 i = some (some M, [], e) := by
    intro N L e he e1 h1 h2 h3
    simp [rule_Premises.f, look_some hb, hl, fits_some hb, hf, formula_Table_Len.f, e1, he, cutP h1 h2 h3]
  have hbd : ({ s with left := s.left.del i } : Sq).left.okB = true := okB_del i
  have k345 : (nd M i).kind = 3 ∨ (nd M i).kind = 4 ∨ (nd M i).kind = 5 → (0 ≤ (nd M i).l ∧ (nd M i).l < 1024) ∧ (0 ≤ (nd M i).r ∧ (nd M i).r < 1024) := fun k => ⟨in1024 hw.len (hw.left hi k), in1024 hw.len (hw.right hi k)⟩
  obtain ⟨hx, hy⟩ := k345 (.inr (.inr k))
  have hli := hw.left hi (.inr (.inr k))
  exact ⟨M, _, 0, hP _ _ (by simp -implicitDefEqProofs [rule_premises.f, node_some, bits_Drop.f, chk, hb]; rfl), by simp -implicitDefEqProofs [ref09_Premises.f, docFits hw hb, hf, chk, hi, nd_at hi, ref05_Drop.f, hb]⟩
theorem prem_6 {M : List Nd} {s : Sq} {i : Int} (hw : Wf M) (hl : lookV M s = true) (hb : s.left.okB = true) (hf : fitsV M s 6 i = true) (hi : inb i M.length = true) (k : (nd M i).kind = 5) (c : (nd M (nd M i).l).kind = 3) : Agree M s 6 i := by
  have h := lookV_rt hb hl
  have hd := hw.nodup
  unfold Agree
  have hP : ∀ M' L, rule_premises.f (some M) s 6 i = some (some M', L, 0) → rule_Premises.f (some M) s 6 i = some (some M', L, 0) := by
    intro M' L e
    simp [rule_Premises.f, look_some hb, hl, fits_some hb, hf, formula_Table_Len.f, e]
  have hE : ∀ N L e, e ≠ 0 → rule_premises.f (some M) s 6 i = some (some N, L, e) → N.take M.length = M → N.Nodup → M.length ≤ N.length → rule_Premises.f (some M) s 6 i = some (some M, [], e) := by
    intro N L e he e1 h1 h2 h3
    simp [rule_Premises.f, look_some hb, hl, fits_some hb, hf, formula_Table_Len.f, e1, he, cutP h1 h2 h3]
  have hbd : ({ s with left := s.left.del i } : Sq).left.okB = true := okB_del i
  have k345 : (nd M i).kind = 3 ∨ (nd M i).kind = 4 ∨ (nd M i).kind = 5 → (0 ≤ (nd M i).l ∧ (nd M i).l < 1024) ∧ (0 ≤ (nd M i).r ∧ (nd M i).r < 1024) := fun k => ⟨in1024 hw.len (hw.left hi k), in1024 hw.len (hw.right hi k)⟩
  obtain ⟨hx, hy⟩ := k345 (.inr (.inr k))
  have hli := hw.left hi (.inr (.inr k))
  have hkk := hw.kids _ hli (.inl c)
  have hc0 : ¬ (nd M (nd M i).l).l < 0 := by omega
  have hc1 : ¬ (nd M (nd M i).l).r < 0 := by omega
  have hr0 : ¬ (nd M i).r < 0 := by omega
  obtain ⟨a1, b1, t1, d1, l1, g1⟩ := put_props (n := impN (nd M (nd M i).l).r (nd M i).r) hw.len hd
  generalize hp1 : putS M (impN (nd M (nd M i).l).r (nd M i).r) = P1 at a1 b1 t1 d1 l1 g1
  by_cases e1 : P1.2.2 = 0
  · obtain ⟨a2, b2, t2, d2, l2, g2⟩ := put_props (n := impN (nd M (nd M i).l).l P1.2.1) l1 d1
    generalize hp2 : putS P1.1 (impN (nd M (nd M i).l).l P1.2.1) = P2 at a2 b2 t2 d2 l2 g2
    have tt : P2.1.take M.length = M := by
      have := congrArg (List.take M.length) t2
      rw [List.take_take, Nat.min_eq_left g1, t1] at this
      exact this
    by_cases e2 : P2.2.2 = 0
    · obtain ⟨q, p1, p2⟩ := both1 (g := s.goal) (okB_del (b := s.left) i) (b2 e2)
      exact ⟨P2.1, [q], 0, hP _ _ (by simp -implicitDefEqProofs [rule_premises.f, node_some, bits_Drop.f, chk, hb, rule_pair.f, rule_imps__rule_pair_1__rule_premises_1.f, rule_pair_1.f, rule_premises_1.f, impP, hp1, hp2, e1, e2, at_, inb, p1]), by simp -implicitDefEqProofs [ref09_Premises.f, docFits hw hb, hf, chk, hi, hli, nd_at hi, nd_at hli, ref05_Drop.f, hb, ref09_imps.f, impD hw.len, impD l1, hp1, hp2, e1, e2, hc0, hc1, hr0, p2]⟩
    · exact ⟨M, [], P2.2.2, hE P2.1 [] _ e2 (by simp -implicitDefEqProofs [rule_premises.f, node_some, bits_Drop.f, chk, hb, rule_pair.f, rule_imps__rule_pair_1__rule_premises_1.f, rule_pair_1.f, rule_premises_1.f, impP, hp1, hp2, e1, e2, at_, inb]) tt d2 (by omega), by simp -implicitDefEqProofs [ref09_Premises.f, docFits hw hb, hf, chk, hi, hli, nd_at hi, nd_at hli, ref05_Drop.f, hb, ref09_imps.f, impD hw.len, impD l1, hp1, hp2, e1, e2, hc0, hc1, hr0, cutD tt (by omega)]⟩
  · exact ⟨M, [], P1.2.2, hE P1.1 [] _ e1 (by simp -implicitDefEqProofs [rule_premises.f, node_some, bits_Drop.f, chk, hb, rule_pair.f, rule_imps__rule_pair_1__rule_premises_1.f, rule_pair_1.f, rule_premises_1.f, impP, hp1, e1, at_, inb]) t1 d1 g1, by simp -implicitDefEqProofs [ref09_Premises.f, docFits hw hb, hf, chk, hi, hli, nd_at hi, nd_at hli, ref05_Drop.f, hb, ref09_imps.f, impD hw.len, hp1, e1, a1 e1]⟩
theorem prem_7 {M : List Nd} {s : Sq} {i : Int} (hw : Wf M) (hl : lookV M s = true) (hb : s.left.okB = true) (hf : fitsV M s 7 i = true) (hi : inb i M.length = true) (k : (nd M i).kind = 5) (c : (nd M (nd M i).l).kind = 4) : Agree M s 7 i := by
  have h := lookV_rt hb hl
  have hd := hw.nodup
  unfold Agree
  have hP : ∀ M' L, rule_premises.f (some M) s 7 i = some (some M', L, 0) → rule_Premises.f (some M) s 7 i = some (some M', L, 0) := by
    intro M' L e
    simp [rule_Premises.f, look_some hb, hl, fits_some hb, hf, formula_Table_Len.f, e]
  have hE : ∀ N L e, e ≠ 0 → rule_premises.f (some M) s 7 i = some (some N, L, e) → N.take M.length = M → N.Nodup → M.length ≤ N.length → rule_Premises.f (some M) s 7 i = some (some M, [], e) := by
    intro N L e he e1 h1 h2 h3
    simp [rule_Premises.f, look_some hb, hl, fits_some hb, hf, formula_Table_Len.f, e1, he, cutP h1 h2 h3]
  have hbd : ({ s with left := s.left.del i } : Sq).left.okB = true := okB_del i
  have k345 : (nd M i).kind = 3 ∨ (nd M i).kind = 4 ∨ (nd M i).kind = 5 → (0 ≤ (nd M i).l ∧ (nd M i).l < 1024) ∧ (0 ≤ (nd M i).r ∧ (nd M i).r < 1024) := fun k => ⟨in1024 hw.len (hw.left hi k), in1024 hw.len (hw.right hi k)⟩
  obtain ⟨hx, hy⟩ := k345 (.inr (.inr k))
  have hli := hw.left hi (.inr (.inr k))
  have hkk := hw.kids _ hli (.inr (.inl c))
  have hc0 : ¬ (nd M (nd M i).l).l < 0 := by omega
  have hc1 : ¬ (nd M (nd M i).l).r < 0 := by omega
  have hr0 : ¬ (nd M i).r < 0 := by omega
  obtain ⟨a1, b1, t1, d1, l1, g1⟩ := put_props (n := impN (nd M (nd M i).l).l (nd M i).r) hw.len hd
  generalize hp1 : putS M (impN (nd M (nd M i).l).l (nd M i).r) = P1 at a1 b1 t1 d1 l1 g1
  by_cases e1 : P1.2.2 = 0
  · obtain ⟨a2, b2, t2, d2, l2, g2⟩ := put_props (n := impN (nd M (nd M i).l).r (nd M i).r) l1 d1
    generalize hp2 : putS P1.1 (impN (nd M (nd M i).l).r (nd M i).r) = P2 at a2 b2 t2 d2 l2 g2
    have tt : P2.1.take M.length = M := by
      have := congrArg (List.take M.length) t2
      rw [List.take_take, Nat.min_eq_left g1, t1] at this
      exact this
    by_cases e2 : P2.2.2 = 0
    · obtain ⟨q, p1, p2⟩ := both2 (g := s.goal) (okB_del (b := s.left) i) (b1 e1) (b2 e2)
      exact ⟨P2.1, [q], 0, hP _ _ (by simp -implicitDefEqProofs [rule_premises.f, node_some, bits_Drop.f, chk, hb, rule_pair.f, rule_imps__rule_pair_1__rule_pair_1.f, rule_pair_1.f, rule_premises_1.f, impP, hp1, hp2, e1, e2, at_, inb, p1]), by simp -implicitDefEqProofs [ref09_Premises.f, docFits hw hb, hf, chk, hi, hli, nd_at hi, nd_at hli, ref05_Drop.f, hb, ref09_imps.f, impD hw.len, impD l1, hp1, hp2, e1, e2, hc0, hc1, hr0, p2]⟩
    · exact ⟨M, [], P2.2.2, hE P2.1 [] _ e2 (by simp -implicitDefEqProofs [rule_premises.f, node_some, bits_Drop.f, chk, hb, rule_pair.f, rule_imps__rule_pair_1__rule_pair_1.f, rule_pair_1.f, rule_premises_1.f, impP, hp1, hp2, e1, e2, at_, inb]) tt d2 (by omega), by simp -implicitDefEqProofs [ref09_Premises.f, docFits hw hb, hf, chk, hi, hli, nd_at hi, nd_at hli, ref05_Drop.f, hb, ref09_imps.f, impD hw.len, impD l1, hp1, hp2, e1, e2, hc0, hc1, hr0, cutD tt (by omega)]⟩
  · exact ⟨M, [], P1.2.2, hE P1.1 [] _ e1 (by simp -implicitDefEqProofs [rule_premises.f, node_some, bits_Drop.f, chk, hb, rule_pair.f, rule_imps__rule_pair_1__rule_pair_1.f, rule_pair_1.f, rule_premises_1.f, impP, hp1, e1, at_, inb]) t1 d1 g1, by simp -implicitDefEqProofs [ref09_Premises.f, docFits hw hb, hf, chk, hi, hli, nd_at hi, nd_at hli, ref05_Drop.f, hb, ref09_imps.f, impD hw.len, hp1, e1, a1 e1]⟩
theorem prem_13 {M : List Nd} {s : Sq} {i : Int} (hw : Wf M) (hl : lookV M s = true) (hb : s.left.okB = true) (hf : fitsV M s 13 i = true) (hi : inb i M.length = true) (k : (nd M i).kind = 5) (c : (nd M (nd M i).l).kind = 5) : Agree M s 13 i := by
  have h := lookV_rt hb hl
  have hd := hw.nodup
  unfold Agree
  have hP : ∀ M' L, rule_premises.f (some M) s 13 i = some (some M', L, 0) → rule_Premises.f (some M) s 13 i = some (some M', L, 0) := by
    intro M' L e
    simp [rule_Premises.f, look_some hb, hl, fits_some hb, hf, formula_Table_Len.f, e]
  have hE : ∀ N L e, e ≠ 0 → rule_premises.f (some M) s 13 i = some (some N, L, e) → N.take M.length = M → N.Nodup → M.length ≤ N.length → rule_Premises.f (some M) s 13 i = some (some M, [], e) := by
    intro N L e he e1 h1 h2 h3
    simp [rule_Premises.f, look_some hb, hl, fits_some hb, hf, formula_Table_Len.f, e1, he, cutP h1 h2 h3]
  have hbd : ({ s with left := s.left.del i } : Sq).left.okB = true := okB_del i
  have k345 : (nd M i).kind = 3 ∨ (nd M i).kind = 4 ∨ (nd M i).kind = 5 → (0 ≤ (nd M i).l ∧ (nd M i).l < 1024) ∧ (0 ≤ (nd M i).r ∧ (nd M i).r < 1024) := fun k => ⟨in1024 hw.len (hw.left hi k), in1024 hw.len (hw.right hi k)⟩
  obtain ⟨hx, hy⟩ := k345 (.inr (.inr k))
  have hli := hw.left hi (.inr (.inr k))
  obtain ⟨a1, b1, t1, d1, l1, g1⟩ := put_props (n := impN (nd M (nd M i).l).r (nd M i).r) hw.len hd
  generalize hp1 : putS M (impN (nd M (nd M i).l).r (nd M i).r) = P1 at a1 b1 t1 d1 l1 g1
  by_cases e1 : P1.2.2 = 0
  · obtain ⟨q, p1, p2⟩ := both1 (g := s.goal) (okB_del (b := s.left) i) (b1 e1)
    obtain ⟨q', p3, p4⟩ := both1 (g := s.goal) (okB_del (b := s.left) i) hy
    exact ⟨P1.1, _, 0, hP _ _ (by simp -implicitDefEqProofs [rule_premises.f, node_some, bits_Drop.f, chk, hb, rule_pair.f, rule_imps__rule_pair_1.f, rule_pair_1.f, impP, hp1, e1, at_, inb, p1, p3, rule_to.f]; rfl), by simp -implicitDefEqProofs [ref09_Premises.f, docFits hw hb, hf, chk, hi, hli, nd_at hi, nd_at hli, ref05_Drop.f, hb, impD hw.len, hp1, e1, p2, p4, ref09_to.f]⟩
  · exact ⟨M, [], P1.2.2, hE P1.1 [] _ e1 (by simp -implicitDefEqProofs [rule_premises.f, node_some, bits_Drop.f, chk, hb, rule_pair.f, rule_imps__rule_pair_1.f, rule_pair_1.f, impP, hp1, e1, at_, inb]) t1 d1 g1, by simp -implicitDefEqProofs [ref09_Premises.f, docFits hw hb, hf, chk, hi, hli, nd_at hi, nd_at hli, ref05_Drop.f, hb, impD hw.len, hp1, e1, a1 e1]⟩
theorem prem_eq {M : List Nd} {s : Sq} {r i : Int} (hw : Wf M) (hl : lookV M s = true) (hb : s.left.okB = true) : Agree M s r i := by
  cases hf : fitsV M s r i with
  | false => exact ⟨M, [], 90, by simp [rule_Premises.f, look_some hb, hl, fits_some hb, hf], by simp [ref09_Premises.f, docFits hw hb, hf]⟩
  | true =>
    obtain ⟨hi, hc⟩ := fits_cases hf
    rcases hc with rfl | ⟨rfl, k⟩ | ⟨rfl, k⟩ | ⟨hr, k⟩ | ⟨rfl, k⟩ | ⟨rfl, k⟩ | ⟨rfl, k⟩ | ⟨k, hc⟩
    · exact prem_2 hw hl hb hf hi
    · exact prem_8 hw hl hb hf hi k
    · exact prem_9 hw hl hb hf hi k
    · rcases hr with rfl | rfl
      · exact prem_11 hw hl hb hf hi k
      · exact prem_12 hw hl hb hf hi k
    · exact prem_1 hw hl hb hf hi k
    · exact prem_3 hw hl hb hf hi k
    · exact prem_10 hw hl hb hf hi k
    · rcases hc with ⟨rfl, c⟩ | ⟨rfl, c⟩ | ⟨rfl, c⟩ | ⟨rfl, c⟩ | ⟨rfl, c⟩
      · exact prem_4 hw hl hb hf hi k c
      · exact prem_5 hw hl hb hf hi k c
      · exact prem_6 hw hl hb hf hi k c
      · exact prem_7 hw hl hb hf hi k c
      · exact prem_13 hw hl hb hf hi k c
end Go.Proofs.YtjjkhjieegmphaaDoor
end
section
namespace Go.Proofs.YtjjkhjieegmphaaDoor
open Gw
set_option linter.unusedVariables false

def law09_value.b0 (a0 : List Nd) (a1 : Int) (i5 : Int) (x5_0 : Int) (x5_1 : List Bool) : Option (Int × List Bool) :=
  if decide ((at_ Nd.z a0 i5).kind = 1) then chk (decide (0 ≤ IntKind.u64.wrap (Int.tmod x5_0 64))) (chk (inb i5 x5_1.length) (some (IntKind.i64.wrap (x5_0 + 1), x5_1.set (i5).toNat (decide (bitsOp .and .u64 (Int.fdiv a1 (2 ^ (min (IntKind.u64.wrap (Int.tmod x5_0 64)).toNat IntKind.u64.bits))) 1 = 1))))) else if decide ((at_ Nd.z a0 i5).kind = 3) then chk (inb ((at_ Nd.z a0 i5).l) x5_1.length) (chk (!(at_ false x5_1 ((at_ Nd.z a0 i5).l)) || (inb ((at_ Nd.z a0 i5).r) x5_1.length)) (chk (inb i5 x5_1.length) (some (x5_0, x5_1.set (i5).toNat ((at_ false x5_1 ((at_ Nd.z a0 i5).l)) && (at_ false x5_1 ((at_ Nd.z a0 i5).r))))))) else if decide ((at_ Nd.z a0 i5).kind = 4) then chk (inb ((at_ Nd.z a0 i5).l) x5_1.length) (chk (!(!(at_ false x5_1 ((at_ Nd.z a0 i5).l))) || (inb ((at_ Nd.z a0 i5).r) x5_1.length)) (chk (inb i5 x5_1.length) (some (x5_0, x5_1.set (i5).toNat ((at_ false x5_1 ((at_ Nd.z a0 i5).l)) || (at_ false x5_1 ((at_ Nd.z a0 i5).r))))))) else if decide ((at_ Nd.z a0 i5).kind = 5) then chk (inb ((at_ Nd.z a0 i5).l) x5_1.length) (chk (!(!(!(at_ false x5_1 ((at_ Nd.z a0 i5).l)))) || (inb ((at_ Nd.z a0 i5).r) x5_1.length)) (chk (inb i5 x5_1.length) (some (x5_0, x5_1.set (i5).toNat ((!(at_ false x5_1 ((at_ Nd.z a0 i5).l))) || (at_ false x5_1 ((at_ Nd.z a0 i5).r))))))) else some (x5_0, x5_1)
def law09_value.f (a0 : List Nd) (a1 : Int) : Option (List Bool) :=
  chk (decide (0 ≤ (a0.length : Int) ∧ ((a0.length : Int)).toNat ≤ 16777216)) ((forS (fun i s => law09_value.b0 a0 a1 i s.1 s.2) ((a0.length : Int) - 0).toNat 0 (0, List.replicate ((a0.length : Int)).toNat false)).bind fun (o5 : Int × List Bool) => some o5.2)
def law09_wrong.b0 (r3 : List Int) (a0 : List Bool) (i7 : Int) : Option (Stp Unit Bool) :=
  chk (inb (at_ (0 : Int) r3 i7) a0.length) (if !(at_ false a0 (at_ (0 : Int) r3 i7)) then some (.ret false) else some (.go ()))
def law09_wrong.f (a0 : List Bool) (a1 : Sq) : Option Bool :=
  (ref05_List.f a1.left).bind fun r3 => (forN (fun i s => law09_wrong.b0 r3 a0 i) ((r3.length : Int) - 0).toNat 0 ()).bind (aft fun (s7 : Unit) => chk (inb a1.goal a0.length) (some (!(at_ false a0 a1.goal))))
def ref09_Less.b0 (a0 : List Int) (a1 : List Int) (x1_0 : Int) : Option (Stp Int Bool) :=
  if (decide (x1_0 < (a0.length : Int))) && (decide (x1_0 < (a1.length : Int))) then chk (inb x1_0 a0.length) (chk (inb x1_0 a1.length) (if decide (at_ (0 : Int) a0 x1_0 ≠ at_ (0 : Int) a1 x1_0) then chk (inb x1_0 a0.length) (chk (inb x1_0 a1.length) (some (.ret (decide (at_ (0 : Int) a0 x1_0 < at_ (0 : Int) a1 x1_0))))) else some (.go (IntKind.i64.wrap (x1_0 + 1))))) else some (.brk x1_0)
def ref09_Less.f (k : Nat) (a0 : List Int) (a1 : List Int) : Option Bool :=
  (iter (fun s => ref09_Less.b0 a0 a1 s) k 0).bind (aft fun (s1 : Int) => some (decide ((a0.length : Int) < (a1.length : Int))))
def ref09_Weights.b0 (a0 : Tb) (i11 : Int) (x11_0 : List Int) : Option (List Int) :=
  chk (inb i11 x11_0.length) (if (decide ((at_ Nd.z (a0.getD []) i11).kind ≠ 1)) && (decide ((at_ Nd.z (a0.getD []) i11).kind ≠ 2)) then (if decide ((at_ Nd.z (a0.getD []) i11).kind = 3) then some ((2, x11_0.set (i11).toNat 1)) else some ((1, x11_0.set (i11).toNat 1))).bind fun (o26 : Int × List Int) => chk (inb ((at_ Nd.z (a0.getD []) i11).l) o26.2.length) (chk (inb ((at_ Nd.z (a0.getD []) i11).r) o26.2.length) (chk (inb i11 o26.2.length) (some (o26.2.set (i11).toNat (if IntKind.u64.wrap ((IntKind.u64.wrap ((at_ (0 : Int) o26.2 ((at_ Nd.z (a0.getD []) i11).l)) + (at_ (0 : Int) o26.2 ((at_ Nd.z (a0.getD []) i11).r)))) + o26.1) < 4611686018427387904 then IntKind.u64.wrap ((IntKind.u64.wrap ((at_ (0 : Int) o26.2 ((at_ Nd.z (a0.getD []) i11).l)) + (at_ (0 : Int) o26.2 ((at_ Nd.z (a0.getD []) i11).r)))) + o26.1) else 4611686018427387904))))) else some (x11_0.set (i11).toNat 1))
def ref09_Weights.b2 (r37 : List Int) (a1 : Sq) (i47 : Int) (o11 : List Int) (x60_0 : Int) (x60_1 : List Int) : Option (Stp (Int × List Int) (List Int)) :=
  chk (!(decide (0 < x60_0)) || (inb (IntKind.i64.wrap (x60_0 - 1)) x60_1.length)) (chk (!(decide (0 < x60_0)) || (inb (at_ (0 : Int) (r37 ++ [a1.goal]) i47) o11.length)) (if (decide (0 < x60_0)) && (decide (at_ (0 : Int) x60_1 (IntKind.i64.wrap (x60_0 - 1)) < at_ (0 : Int) o11 (at_ (0 : Int) (r37 ++ [a1.goal]) i47))) then chk (inb (IntKind.i64.wrap (x60_0 - 1)) x60_1.length) (chk (inb x60_0 x60_1.length) (some (.go (IntKind.i64.wrap (x60_0 - 1), x60_1.set (x60_0).toNat (at_ (0 : Int) x60_1 (IntKind.i64.wrap (x60_0 - 1))))))) else some (.brk (x60_0, x60_1))))
def ref09_Weights.b1 (r37 : List Int) (a1 : Sq) (o11 : List Int) (k : Nat) (i47 : Int) (x47_0 : List Int) : Option (List Int) :=
  chk (inb (at_ (0 : Int) (r37 ++ [a1.goal]) i47) o11.length) (chk (decide ((x47_0.length + ([at_ (0 : Int) o11 (at_ (0 : Int) (r37 ++ [a1.goal]) i47)]).length) * 8 ≤ 140737488355328)) ((iter (fun s => ref09_Weights.b2 r37 a1 i47 o11 s.1 s.2) k ((x47_0.length : Int), x47_0 ++ [at_ (0 : Int) o11 (at_ (0 : Int) (r37 ++ [a1.goal]) i47)])).bind (aft fun (s60 : Int × List Int) => chk (inb (at_ (0 : Int) (r37 ++ [a1.goal]) i47) o11.length) (chk (inb s60.1 s60.2.length) (some (s60.2.set (s60.1).toNat (at_ (0 : Int) o11 (at_ (0 : Int) (r37 ++ [a1.goal]) i47))))))))
def ref09_Weights.f (k : Nat) (a0 : Tb) (a1 : Sq) : Option (List Int) :=
  chk a0.isSome (chk (decide (0 ≤ ((a0.getD []).length : Int) ∧ (((a0.getD []).length : Int)).toNat ≤ 16777216)) ((forS (fun i s => ref09_Weights.b0 a0 i s) (((a0.getD []).length : Int) - 0).toNat 0 (List.replicate (((a0.getD []).length : Int)).toNat (0 : Int))).bind fun (o11 : List Int) => (ref05_List.f a1.left).bind fun r37 => chk (decide ((r37.length + ([a1.goal]).length) * 8 ≤ 140737488355328)) ((forS (fun i s => ref09_Weights.b1 r37 a1 o11 k i s) (((r37 ++ [a1.goal]).length : Int) - 0).toNat 0 ([] : List Int)).bind fun (o47 : List Int) => some o47)))
def law09_next.f (a0 : Tb) (a1 : Sq) (a2 : Int) : Option (Tb × List Sq × Int × Bool) :=
  (rule_Apply.f a0 a1).bind fun r3 => if decide (r3.2.2 ≠ 0) then some (a0, ([] : List Sq), 0, false) else (if decide (r3.1 = 14) then (rule_Choices.f a0 a1).bind fun r9 => if ((decide (r9.2.2 ≠ 0)) || (decide ((r9.1.length : Int) = 0))) || (decide ((r9.2.1.length : Int) ≠ (r9.1.length : Int))) then some (.inr (a0, ([] : List Sq), 0, false)) else chk (decide (IntKind.u64.wrap (r9.1.length : Int) ≠ 0)) (chk (inb (IntKind.i64.wrap (Int.tmod (IntKind.u64.wrap a2) (IntKind.u64.wrap (r9.1.length : Int)))) r9.1.length) (chk (inb (IntKind.i64.wrap (Int.tmod (IntKind.u64.wrap a2) (IntKind.u64.wrap (r9.1.length : Int)))) r9.2.1.length) (some (.inl (at_ (0 : Int) r9.1 (IntKind.i64.wrap (Int.tmod (IntKind.u64.wrap a2) (IntKind.u64.wrap (r9.1.length : Int)))), at_ (0 : Int) r9.2.1 (IntKind.i64.wrap (Int.tmod (IntKind.u64.wrap a2) (IntKind.u64.wrap (r9.1.length : Int)))), a0))))) else some (.inl (r3.1, r3.2.1, a0))).bind (aft fun (s7 : Int × Int × Tb) => (rule_Premises.f s7.2.2 a1 s7.1 s7.2.1).bind fun r20 => some (r20.1, r20.2.1, s7.1, decide (r20.2.2 = 0)))
end Go.Proofs.YtjjkhjieegmphaaDoor
end
section
namespace Go.Proofs.YtjjkhjieegmphaaDoor
open Gw
set_option linter.unusedVariables false
set_option linter.unusedSimpArgs false
/-- the value at a row -/
abbrev vl (V : List Bool) (i : Int) : Bool := at_ false V i
/-- V tells the rows of N below n as their parts are -/
def Sem (N : List Nd) (V : List Bool) (n : Int) : Prop := ∀ i : Int, 0 ≤ i → i < n → ((nd N i).kind = 2 → vl V i = false) ∧ ((nd N i).kind = 3 → vl V i = (vl V (nd N i).l && vl V (nd N i).r)) ∧ ((nd N i).kind = 4 → vl V i = (vl V (nd N i).l || vl V (nd N i).r)) ∧ ((nd N i).kind = 5 → vl V i = (!vl V (nd N i).l || vl V (nd N i).r))
theorem wrap_pos (x : Int) : 0 ≤ IntKind.u64.wrap x := by simp [IntKind.wrap, IntKind.bits, IntKind.signed]; omega
theorem all_add {b : Bits} {x : Int} (hx : 0 ≤ x ∧ x < 1024) {p : Int → Prop} : (∀ j : Int, (b.add x).has j = true → p j) ↔ p x ∧ ∀ j : Int, b.has j = true → p j := by
  constructor
  · intro h
    exact ⟨h x (by rw [Bits.add_has _ _ _ hx]; simp), fun j hj => h j (by rw [Bits.add_has _ _ _ hx, hj]; simp)⟩
  · rintro ⟨h1, h2⟩ j hj
    rw [Bits.add_has _ _ _ hx] at hj
    simp only [Bool.or_eq_true, decide_eq_true_eq] at hj
    rcases hj with rfl | hj
    · exact h1
    · exact h2 j hj
end Go.Proofs.YtjjkhjieegmphaaDoor
end
section
namespace Go.Proofs.YtjjkhjieegmphaaDoor
open Gw
set_option linter.unusedVariables false
set_option linter.unusedSimpArgs false
/-- the premises of rule r on row i: the rows behind it, the sequents -/
inductive PremR (M : List Nd) (s : Sq) (i : Int) : Int → List Nd → List Sq → Prop
  | bot (h : s.left.has i = true) (k : (nd M i).kind = 2) : PremR M s i 1 M []
  | ax (h : s.left.has i = true) (g : i = s.goal) : PremR M s i 2 M []
  | andL (h : s.left.has i = true) (k : (nd M i).kind = 3) : PremR M s i 3 M [⟨((s.left.del i).add (nd M i).l).add (nd M i).r, s.goal⟩]
  | atom (h : s.left.has i = true) (k : (nd M i).kind = 5) (c : (nd M (nd M i).l).kind = 1) (a : s.left.has (nd M i).l = true) : PremR M s i 4 M [⟨(s.left.del i).add (nd M i).r, s.goal⟩]
  | botL (h : s.left.has i = true) (k : (nd M i).kind = 5) (c : (nd M (nd M i).l).kind = 2) : PremR M s i 5 M [⟨s.left.del i, s.goal⟩]
  | conj (h : s.left.has i = true) (k : (nd M i).kind = 5) (c : (nd M (nd M i).l).kind = 3) (e1 : (putS M (impN (nd M (nd M i).l).r (nd M i).r)).2.2 = 0)
      (e2 : (putS (putS M (impN (nd M (nd M i).l).r (nd M i).r)).1 (impN (nd M (nd M i).l).l (putS M (impN (nd M (nd M i).l).r (nd M i).r)).2.1)).2.2 = 0) :
      PremR M s i 6 (putS (putS M (impN (nd M (nd M i).l).r (nd M i).r)).1 (impN (nd M (nd M i).l).l (putS M (impN (nd M (nd M i).l).r (nd M i).r)).2.1)).1
        [⟨(s.left.del i).add (putS (putS M (impN (nd M (nd M i).l).r (nd M i).r)).1 (impN (nd M (nd M i).l).l (putS M (impN (nd M (nd M i).l).r (nd M i).r)).2.1)).2.1, s.goal⟩]
  | disj (h : s.left.has i = true) (k : (nd M i).kind = 5) (c : (nd M (nd M i).l).kind = 4) (e1 : (putS M (impN (nd M (nd M i).l).l (nd M i).r)).2.2 = 0)
      (e2 : (putS (putS M (impN (nd M (nd M i).l).l (nd M i).r)).1 (impN (nd M (nd M i).l).r (nd M i).r)).2.2 = 0) :
      PremR M s i 7 (putS (putS M (impN (nd M (nd M i).l).l (nd M i).r)).1 (impN (nd M (nd M i).l).r (nd M i).r)).1
        [⟨((s.left.del i).add (putS M (impN (nd M (nd M i).l).l (nd M i).r)).2.1).add (putS (putS M (impN (nd M (nd M i).l).l (nd M i).r)).1 (impN (nd M (nd M i).l).r (nd M i).r)).2.1, s.goal⟩]
  | impR (g : i = s.goal) (k : (nd M i).kind = 5) : PremR M s i 8 M [⟨s.left.add (nd M i).l, (nd M i).r⟩]
  | andR (g : i = s.goal) (k : (nd M i).kind = 3) : PremR M s i 9 M [⟨s.left, (nd M i).l⟩, ⟨s.left, (nd M i).r⟩]
  | orL (h : s.left.has i = true) (k : (nd M i).kind = 4) : PremR M s i 10 M [⟨(s.left.del i).add (nd M i).l, s.goal⟩, ⟨(s.left.del i).add (nd M i).r, s.goal⟩]
  | orR1 (g : i = s.goal) (k : (nd M i).kind = 4) : PremR M s i 11 M [⟨s.left, (nd M i).l⟩]
  | orR2 (g : i = s.goal) (k : (nd M i).kind = 4) : PremR M s i 12 M [⟨s.left, (nd M i).r⟩]
  | impL (h : s.left.has i = true) (k : (nd M i).kind = 5) (c : (nd M (nd M i).l).kind = 5) (e1 : (putS M (impN (nd M (nd M i).l).r (nd M i).r)).2.2 = 0) :
      PremR M s i 13 (putS M (impN (nd M (nd M i).l).r (nd M i).r)).1 [⟨(s.left.del i).add (putS M (impN (nd M (nd M i).l).r (nd M i).r)).2.1, (nd M i).l⟩, ⟨(s.left.del i).add (nd M i).r, s.goal⟩]
end Go.Proofs.YtjjkhjieegmphaaDoor
end
section
namespace Go.Proofs.YtjjkhjieegmphaaDoor
open Gw
set_option linter.unusedVariables false
set_option linter.unusedSimpArgs false
theorem fits_has {M : List Nd} {s : Sq} {r i : Int} (h : fitsV M s r i = true) : ((r = 8 ∨ r = 9 ∨ r = 11 ∨ r = 12) → i = s.goal) ∧ (r ≠ 8 → r ≠ 9 → r ≠ 11 → r ≠ 12 → s.left.has i = true) ∧ (r = 2 → i = s.goal) ∧ (r = 4 → s.left.has (nd M i).l = true) := by
  unfold fitsV at h
  cases hi : inb i M.length with
  | false => simp [hi] at h
  | true =>
    simp only [hi, Bool.true_eq_false, if_false] at h
    by_cases r2 : r = 2
    · rw [if_pos r2] at h
      simp only [Bool.and_eq_true, decide_eq_true_eq] at h
      exact ⟨fun q => by omega, fun _ _ _ _ => h.2, fun _ => h.1, fun q => by omega⟩
    rw [if_neg r2] at h
    by_cases r8 : r = 8
    · rw [if_pos r8] at h
      simp only [Bool.and_eq_true, decide_eq_true_eq] at h
      exact ⟨fun _ => h.1, fun q => absurd r8 q, fun q => by omega, fun q => by omega⟩
    rw [if_neg r8] at h
    by_cases r9 : r = 9
    · rw [if_pos r9] at h
      simp only [Bool.and_eq_true, decide_eq_true_eq] at h
      exact ⟨fun _ => h.1, fun _ q => absurd r9 q, fun q => by omega, fun q => by omega⟩
    rw [if_neg r9] at h
    by_cases r11 : r = 11 ∨ r = 12
    · rw [if_pos r11] at h
      simp only [Bool.and_eq_true, decide_eq_true_eq] at h
      exact ⟨fun _ => h.1, fun _ _ q q' => by omega, fun q => by omega, fun q => by omega⟩
    rw [if_neg r11] at h
    simp only [Bool.and_eq_true, decide_eq_true_eq, ne_eq] at h
    refine ⟨fun q => by omega, fun _ _ _ _ => h.1.2, fun q => by omega, fun q => ?_⟩
    subst q
    have h4 := h.2
    unfold onV at h4
    by_cases k5 : (nd M i).kind = 5
    · by_cases c1 : (nd M (nd M i).l).kind = 1
      · rw [if_neg (by omega), if_neg (by omega), if_neg (by omega), if_pos k5, if_pos c1] at h4
        split at h4
        · assumption
        · omega
      · exfalso
        rcases on_cases (M := M) (b := s.left) (i := i) (r := 4) h.2 (by decide) with q | q | q | ⟨_, q⟩ <;> omega
    · exfalso
      rcases on_cases (M := M) (b := s.left) (i := i) (r := 4) h.2 (by decide) with q | q | q | ⟨q, _⟩ <;> omega
theorem prem_rel {M : List Nd} {s : Sq} {r i : Int} {T : Tb} {L : List Sq} (hw : Wf M) (hb : s.left.okB = true) (hf : fitsV M s r i = true) (h : rule_premises.f (some M) s r i = some (T, L, 0)) : ∃ N, T = some N ∧ PremR M s i r N L := by
  obtain ⟨hi, hc⟩ := fits_cases hf
  obtain ⟨g1, g2, g3, g4⟩ := fits_has hf
  have k345 : (nd M i).kind = 3 ∨ (nd M i).kind = 4 ∨ (nd M i).kind = 5 → (0 ≤ (nd M i).l ∧ (nd M i).l < 1024) ∧ (0 ≤ (nd M i).r ∧ (nd M i).r < 1024) := fun k => ⟨in1024 hw.len (hw.left hi k), in1024 hw.len (hw.right hi k)⟩
  rcases hc with rfl | ⟨rfl, k⟩ | ⟨rfl, k⟩ | ⟨hr, k⟩ | ⟨rfl, k⟩ | ⟨rfl, k⟩ | ⟨rfl, k⟩ | ⟨k, hc⟩
  · simp -implicitDefEqProofs [rule_premises.f, node_some, bits_Drop.f, chk, hb] at h
    obtain ⟨rfl, rfl⟩ := h
    exact ⟨M, rfl, PremR.ax (g2 (by decide) (by decide) (by decide) (by decide)) (g3 rfl)⟩
  · obtain ⟨hx, hy⟩ := k345 (.inr (.inr k))
    simp -implicitDefEqProofs [rule_premises.f, node_some, bits_Drop.f, chk, hb, withP1 hb hx, rule_to.f] at h
    obtain ⟨rfl, rfl⟩ := h
    exact ⟨M, rfl, PremR.impR (g1 (by decide)) k⟩
  · simp -implicitDefEqProofs [rule_premises.f, node_some, bits_Drop.f, chk, hb, rule_to.f] at h
    obtain ⟨rfl, rfl⟩ := h
    exact ⟨M, rfl, PremR.andR (g1 (by decide)) k⟩
  · rcases hr with rfl | rfl
    · simp -implicitDefEqProofs [rule_premises.f, node_some, bits_Drop.f, chk, hb, rule_to.f] at h
      obtain ⟨rfl, rfl⟩ := h
      exact ⟨M, rfl, PremR.orR1 (g1 (by decide)) k⟩
    · simp -implicitDefEqProofs [rule_premises.f, node_some, bits_Drop.f, chk, hb, rule_to.f] at h
      obtain ⟨rfl, rfl⟩ := h
      exact ⟨M, rfl, PremR.orR2 (g1 (by decide)) k⟩
  · simp -implicitDefEqProofs [rule_premises.f, node_some, bits_Drop.f, chk, hb] at h
    obtain ⟨rfl, rfl⟩ := h
    exact ⟨M, rfl, PremR.bot (g2 (by decide) (by decide) (by decide) (by decide)) k⟩
  · obtain ⟨hx, hy⟩ := k345 (.inl k)
    simp -implicitDefEqProofs [rule_premises.f, node_some, bits_Drop.f, chk, hb, withP2m (okB_del i) hx hy] at h
    obtain ⟨rfl, rfl⟩ := h
    exact ⟨M, rfl, PremR.andL (g2 (by decide) (by decide) (by decide) (by decide)) k⟩
  · obtain ⟨hx, hy⟩ := k345 (.inr (.inl k))
    simp -implicitDefEqProofs [rule_premises.f, node_some, bits_Drop.f, chk, hb, withP1m (okB_del i) hx, withP1m (okB_del i) hy] at h
    obtain ⟨rfl, rfl⟩ := h
    exact ⟨M, rfl, PremR.orL (g2 (by decide) (by decide) (by decide) (by decide)) k⟩
  · obtain ⟨hx, hy⟩ := k345 (.inr (.inr k))
    rcases hc with ⟨rfl, c⟩ | ⟨rfl, c⟩ | ⟨rfl, c⟩ | ⟨rfl, c⟩ | ⟨rfl, c⟩
    · simp -implicitDefEqProofs [rule_premises.f, node_some, bits_Drop.f, chk, hb, withP1m (okB_del i) hy] at h
      obtain ⟨rfl, rfl⟩ := h
      exact ⟨M, rfl, PremR.atom (g2 (by decide) (by decide) (by decide) (by decide)) k c (g4 rfl)⟩
    · simp -implicitDefEqProofs [rule_premises.f, node_some, bits_Drop.f, chk, hb] at h
      obtain ⟨rfl, rfl⟩ := h
      exact ⟨M, rfl, PremR.botL (g2 (by decide) (by decide) (by decide) (by decide)) k c⟩
    · have q1 := put_props (n := impN (nd M (nd M i).l).r (nd M i).r) hw.len hw.nodup
      have con := @PremR.conj M s i (g2 (by decide) (by decide) (by decide) (by decide)) k c
      generalize hA : putS M (impN (nd M (nd M i).l).r (nd M i).r) = A1 at q1 con
      have q2 := (put_props (n := impN (nd M (nd M i).l).l A1.2.1) q1.2.2.2.2.1 q1.2.2.2.1).2.1
      generalize hB : putS A1.1 (impN (nd M (nd M i).l).l A1.2.1) = A2 at q2 con
      by_cases e1 : A1.2.2 = 0
      · by_cases e2 : A2.2.2 = 0
        · simp -implicitDefEqProofs [rule_premises.f, node_some, bits_Drop.f, chk, hb, rule_pair.f, rule_imps__rule_pair_1__rule_premises_1.f, rule_pair_1.f, rule_premises_1.f, impP, at_, inb, hA, hB, e1, e2, withP1m (okB_del i) (q2 e2)] at h
          obtain ⟨rfl, rfl⟩ := h
          exact ⟨_, rfl, con e1 e2⟩
        · simp -implicitDefEqProofs [rule_premises.f, node_some, bits_Drop.f, chk, hb, rule_pair.f, rule_imps__rule_pair_1__rule_premises_1.f, rule_pair_1.f, rule_premises_1.f, impP, at_, inb, hA, hB, e1, e2] at h
      · simp -implicitDefEqProofs [rule_premises.f, node_some, bits_Drop.f, chk, hb, rule_pair.f, rule_imps__rule_pair_1__rule_premises_1.f, rule_pair_1.f, rule_premises_1.f, impP, at_, inb, hA, e1] at h
    · have q1 := put_props (n := impN (nd M (nd M i).l).l (nd M i).r) hw.len hw.nodup
      have con := @PremR.disj M s i (g2 (by decide) (by decide) (by decide) (by decide)) k c
      generalize hA : putS M (impN (nd M (nd M i).l).l (nd M i).r) = A1 at q1 con
      have q2 := (put_props (n := impN (nd M (nd M i).l).r (nd M i).r) q1.2.2.2.2.1 q1.2.2.2.1).2.1
      generalize hB : putS A1.1 (impN (nd M (nd M i).l).r (nd M i).r) = A2 at q2 con
      by_cases e1 : A1.2.2 = 0
      · by_cases e2 : A2.2.2 = 0
        · simp -implicitDefEqProofs [rule_premises.f, node_some, bits_Drop.f, chk, hb, rule_pair.f, rule_imps__rule_pair_1__rule_pair_1.f, rule_pair_1.f, rule_premises_1.f, impP, at_, inb, hA, hB, e1, e2, withP2m (okB_del i) (q1.2.1 e1) (q2 e2)] at h
          obtain ⟨rfl, rfl⟩ := h
          exact ⟨_, rfl, con e1 e2⟩
        · simp -implicitDefEqProofs [rule_premises.f, node_some, bits_Drop.f, chk, hb, rule_pair.f, rule_imps__rule_pair_1__rule_pair_1.f, rule_pair_1.f, rule_premises_1.f, impP, at_, inb, hA, hB, e1, e2] at h
      · simp -implicitDefEqProofs [rule_premises.f, node_some, bits_Drop.f, chk, hb, rule_pair.f, rule_imps__rule_pair_1__rule_pair_1.f, rule_pair_1.f, rule_premises_1.f, impP, at_, inb, hA, e1] at h
    · have p1 := (put_props (n := impN (nd M (nd M i).l).r (nd M i).r) hw.len hw.nodup).2.1
      have con := @PremR.impL M s i (g2 (by decide) (by decide) (by decide) (by decide)) k c
      generalize hA : putS M (impN (nd M (nd M i).l).r (nd M i).r) = A1 at p1 con
      by_cases e1 : A1.2.2 = 0
      · simp -implicitDefEqProofs [rule_premises.f, node_some, bits_Drop.f, chk, hb, rule_pair.f, rule_imps__rule_pair_1.f, rule_pair_1.f, impP, hA, e1, withP1m (okB_del i) (p1 e1), withP1m (okB_del i) hy, rule_to.f] at h
        obtain ⟨rfl, rfl⟩ := h
        exact ⟨_, rfl, con e1⟩
      · simp -implicitDefEqProofs [rule_premises.f, node_some, bits_Drop.f, chk, hb, rule_pair.f, rule_imps__rule_pair_1.f, rule_pair_1.f, impP, hA, e1] at h
end Go.Proofs.YtjjkhjieegmphaaDoor
end
section
namespace Go.Proofs.YtjjkhjieegmphaaDoor
open Gw
set_option linter.unusedVariables false

def law09_RuleTruth.b0 (r20 : List Nd) (r12 : Tb × List Sq × Int × Bool) (r33 : List Bool) (i37 : Int) (x37_0 : Bool) : Option (Stp Bool Bool) :=
  (ref09_Right.f (some ((some r20).getD [])) (at_ Sq.z r12.2.1 i37)).bind fun r40 => if !r40 then some (.ret false) else (if (!x37_0) then law09_wrong.f r33 (at_ Sq.z r12.2.1 i37) else some false).bind fun r45 => some (.go (x37_0 || r45))
def law09_RuleTruth.f (a0 : List Nd) (a1 : Sq) (a2 : Int) (a3 : Int) : Option Bool :=
  (law03_Both.f a0).bind fun r3 => if !r3.2.2 then (law09_heads.f).bind fun r9 => some r9 else (law09_next.f r3.1 a1 a2).bind fun r12 => if !r12.2.2.2 then (law09_heads.f).bind fun r17 => some r17 else (formula_Table_Rows.f r12.1).bind fun r20 => (ref09_Right.f (some r20) a1).bind fun r26 => if !r26 then some false else (law09_value.f ((some r20).getD []) a3).bind fun r33 => (forN (fun i s => law09_RuleTruth.b0 r20 r12 r33 i s) ((r12.2.1.length : Int) - 0).toNat 0 false).bind (aft fun (s37 : Bool) => (law09_wrong.f r33 a1).bind fun r49 => if r49 && (!s37) then some false else (if (!((!(((decide (r12.2.2.1 ≠ 11)) && (decide (r12.2.2.1 ≠ 12))) && (decide (r12.2.2.1 ≠ 13)))) || (!s37))) then law09_wrong.f r33 a1 else some false).bind fun r53 => (if (((!(((decide (r12.2.2.1 ≠ 11)) && (decide (r12.2.2.1 ≠ 12))) && (decide (r12.2.2.1 ≠ 13)))) || (!s37)) || r53) then law09_heads.f else some false).bind fun r55 => some ((((!(((decide (r12.2.2.1 ≠ 11)) && (decide (r12.2.2.1 ≠ 12))) && (decide (r12.2.2.1 ≠ 13)))) || (!s37)) || r53) && r55))
end Go.Proofs.YtjjkhjieegmphaaDoor
end
section
namespace Go.Proofs.YtjjkhjieegmphaaDoor
open Gw
set_option linter.unusedVariables false
set_option linter.unusedSimpArgs false
/-- what Premises answers: an error, or what PremR tells -/
theorem Premises_rel {M : List Nd} {s : Sq} (r i : Int) (hw : Wf M) (hl : lookV M s = true) (hb : s.left.okB = true) :
    ∃ N L e, rule_Premises.f (some M) s r i = some (some N, L, e) ∧ (e = 0 → fitsV M s r i = true ∧ PremR M s i r N L) := by
  obtain ⟨N, L, e, h, _⟩ := prem_eq (r := r) (i := i) hw hl hb
  refine ⟨N, L, e, h, fun he => ?_⟩
  subst he
  unfold rule_Premises.f at h
  rw [look_some hb, hl, fits_some hb] at h
  simp only [if_true, ne_eq, not_true_eq_false, decide_false, Bool.false_eq_true, if_false, Option.bind_some] at h
  cases hf : fitsV M s r i with
  | false => simp [hf] at h
  | true =>
    refine ⟨rfl, ?_⟩
    simp only [hf, Bool.not_true, Bool.false_eq_true, if_false] at h
    obtain ⟨n, h1, h⟩ := bind_ex h
    obtain ⟨⟨T, L', e'⟩, h2, h⟩ := bind_ex h
    by_cases he : e' = 0
    · subst he
      simp only [not_true_eq_false, decide_false, Bool.false_eq_true, if_false, Option.some.injEq, Prod.mk.injEq] at h
      obtain ⟨rfl, rfl, _⟩ := h
      obtain ⟨N', e1, h3⟩ := prem_rel hw hb hf h2
      cases e1
      exact h3
    · simp only [he, not_false_eq_true, decide_true, if_true] at h
      obtain ⟨_, _, h⟩ := bind_ex h
      simp only [Option.some.injEq, Prod.mk.injEq] at h
      exact absurd h.2.2 he
theorem inb_mono {i : Int} {m n : Nat} (h : inb i m = true) (hmn : m ≤ n) : inb i n = true := by
  have := inb_ex h
  simp only [inb, Bool.and_eq_true, decide_eq_true_eq]; omega
theorem lookV_iff {M : List Nd} {s : Sq} : lookV M s = true ↔ (∀ j : Int, s.left.has j = true → inb j M.length = true) ∧ inb s.goal M.length = true := by
  unfold lookV
  rw [Bool.and_eq_true, List.all_eq_true]
  refine and_congr ⟨fun h j hj => ?_, fun h j hj => ?_⟩ Iff.rfl
  · have hr : 0 ≤ j ∧ j < 1024 := by
      refine Decidable.byContradiction fun q => ?_
      rw [Bits.has_out _ _ (by omega)] at hj; cases hj
    have hjn : ((j.toNat : Nat) : Int) = j := by omega
    have := h j.toNat (Bits.mem_list.2 ⟨by omega, by rw [hjn]; exact hj⟩)
    rw [← hjn, inb_nat]; exact this
  · have := h j (Bits.mem_list.1 hj).2
    rw [inb_nat] at this; exact this
/-- an index that a number picks -/
theorem pick_inb {n : Nat} (h0 : n ≠ 0) (hn : n ≤ 4096) (p : Int) : inb (IntKind.i64.wrap (Int.tmod (IntKind.u64.wrap p) (IntKind.u64.wrap (n : Int)))) n = true ∧ IntKind.u64.wrap (n : Int) ≠ 0 := by
  have h1 : IntKind.u64.wrap (n : Int) = n := by simp [IntKind.wrap, IntKind.bits, IntKind.signed]; omega
  have h2 := wrap_pos p
  rw [h1]
  have h3 := Int.tmod_lt_of_pos (IntKind.u64.wrap p) (b := (n : Int)) (by omega)
  have h4 : 0 ≤ Int.tmod (IntKind.u64.wrap p) (n : Int) := Int.tmod_nonneg _ h2
  rw [wrap_small (by omega)]
  refine ⟨?_, by omega⟩
  simp only [inb, Bool.and_eq_true, decide_eq_true_eq]; omega
theorem choices_len {M : List Nd} {s : Sq} (hM : M.length ≤ 1024) : (choicesV M s).1.length = (choicesV M s).2.length ∧ (choicesV M s).1.length ≤ 4096 := by
  unfold choicesV
  have h1 : ((List.range M.length).filter fun (j : Nat) => s.left.has j && decide (onV M s.left j = 13)).length ≤ M.length := by simpa using List.length_filter_le (fun (j : Nat) => s.left.has j && decide (onV M s.left j = 13)) (List.range M.length)
  split
  · split <;> simp <;> omega
  · simp
/-- the premises of what a program answers, or of a choice -/
theorem next_some {M : List Nd} {s : Sq} (pick : Int) (hw : Wf M) (hb : s.left.okB = true) :
    ∃ T L r ok, law09_next.f (some M) s pick = some (T, L, r, ok) ∧ (ok = true → lookV M s = true ∧ ∃ N i, T = some N ∧ fitsV M s r i = true ∧ PremR M s i r N L) := by
  unfold law09_next.f
  rw [Apply_some hw.len hb]
  cases hl : lookV M s with
  | false => exact ⟨_, _, _, _, rfl, fun h => by cases h⟩
  | true =>
    have key : ∀ r i : Int, ∃ T L ok, (rule_Premises.f (some M) s r i).bind (fun r20 => some (r20.1, r20.2.1, r, decide (r20.2.2 = 0))) = some (T, L, r, ok) ∧ (ok = true → ∃ N i, T = some N ∧ fitsV M s r i = true ∧ PremR M s i r N L) := by
      intro r i
      obtain ⟨N, L, e, h, he⟩ := Premises_rel r i hw hl hb
      rw [h]
      exact ⟨_, _, _, rfl, fun q => ⟨N, i, rfl, he (of_decide_eq_true q)⟩⟩
    simp only [if_true, Option.bind_some, ne_eq, not_true_eq_false, decide_false, Bool.false_eq_true, if_false]
    by_cases h14 : (applyV M s).1 = 14
    · simp only [h14, decide_true, if_true, choices_some hw.len hl hb, Option.bind_some, not_true_eq_false, decide_false, Bool.false_or]
      obtain ⟨c1, c2⟩ := choices_len (M := M) (s := s) hw.len
      by_cases h0 : (choicesV M s).1.length = 0
      · rw [decide_eq_true (show (((choicesV M s).1.length : Nat) : Int) = 0 by omega)]
        exact ⟨_, _, _, _, rfl, fun h => by cases h⟩
      · obtain ⟨p1, p2⟩ := pick_inb h0 c2 pick
        rw [decide_eq_false (show ¬ (((choicesV M s).1.length : Nat) : Int) = 0 by omega), Bool.false_or, decide_eq_false (show ¬ ¬ (((choicesV M s).2.length : Nat) : Int) = (((choicesV M s).1.length : Nat) : Int) by omega), if_neg (by simp), chk, if_pos (decide_eq_true p2), p1, chk, if_pos rfl, chk, ← c1, if_pos p1]
        obtain ⟨T, L, ok, h1, h2⟩ := key (at_ (0 : Int) (choicesV M s).1 (IntKind.i64.wrap (Int.tmod (IntKind.u64.wrap pick) (IntKind.u64.wrap ((choicesV M s).1.length : Int))))) (at_ (0 : Int) (choicesV M s).2 (IntKind.i64.wrap (Int.tmod (IntKind.u64.wrap pick) (IntKind.u64.wrap ((choicesV M s).1.length : Int)))))
        exact ⟨T, L, _, ok, h1, fun q => ⟨trivial, h2 q⟩⟩
    · simp only [h14, decide_false, Bool.false_eq_true, if_false, Option.bind_some]
      obtain ⟨T, L, ok, h1, h2⟩ := key (applyV M s).1 (applyV M s).2
      exact ⟨T, L, _, ok, h1, fun q => ⟨trivial, h2 q⟩⟩
end Go.Proofs.YtjjkhjieegmphaaDoor
end
section
namespace Go.Proofs.YtjjkhjieegmphaaDoor
open Gw
set_option linter.unusedVariables false
set_option linter.unusedSimpArgs false
/-- formulas as trees; an atom is told by its row -/
inductive Fm where
  | atom (a : Int)
  | bot
  | and (x y : Fm)
  | or (x y : Fm)
  | imp (x y : Fm)
structure Kr where
  W : Type
  le : W → W → Prop
  refl : ∀ w, le w w
  trans : ∀ {a b c : W}, le a b → le b c → le a c
  val : W → Int → Prop
  mono : ∀ {a b : W} {p : Int}, le a b → val a p → val b p
/-- a world forces a formula -/
def Kr.fc (K : Kr) : Fm → K.W → Prop
  | .atom a, w => K.val w a
  | .bot, _ => False
  | .and x y, w => K.fc x w ∧ K.fc y w
  | .or x y, w => K.fc x w ∨ K.fc y w
  | .imp x y, w => ∀ v, K.le w v → K.fc x v → K.fc y v
def fmF (M : List Nd) : Nat → Int → Fm
  | 0, _ => .bot
  | n + 1, i => if (nd M i).kind = 1 then .atom i else if (nd M i).kind = 3 then .and (fmF M n (nd M i).l) (fmF M n (nd M i).r) else if (nd M i).kind = 4 then .or (fmF M n (nd M i).l) (fmF M n (nd M i).r)
    else if (nd M i).kind = 5 then .imp (fmF M n (nd M i).l) (fmF M n (nd M i).r) else .bot
/-- the formula of a row -/
def fm (M : List Nd) (i : Int) : Fm := fmF M (i.toNat + 1) i
theorem fmF_two {M N : List Nd} (hw : Wf M) (hN : ∀ j : Int, inb j M.length = true → nd N j = nd M j) : ∀ (n m : Nat) (i : Int), inb i M.length = true → i.toNat < n → i.toNat < m → fmF N n i = fmF M m i := by
  intro n
  induction n with
  | zero => intro m i _ h; omega
  | succ n ih =>
    intro m i hi h1 h2
    obtain ⟨m, rfl⟩ : ∃ q, m = q + 1 := ⟨m - 1, by omega⟩
    rw [fmF, fmF, hN i hi]
    have hk := hw.kind i hi
    have h0 := inb_ex hi
    by_cases k : (nd M i).kind = 3 ∨ (nd M i).kind = 4 ∨ (nd M i).kind = 5
    · have hks := hw.kids i hi k
      rw [ih m _ (hw.left hi k) (by omega) (by omega), ih m _ (hw.right hi k) (by omega) (by omega)]
    · have k12 : (nd M i).kind = 1 ∨ (nd M i).kind = 2 := by omega
      rcases k12 with k | k <;> simp [k]
theorem fm_ext {M N : List Nd} (hw : Wf M) (hN : ∀ j : Int, inb j M.length = true → nd N j = nd M j) {i : Int} (hi : inb i M.length = true) : fm N i = fm M i := fmF_two hw hN _ _ i hi (by omega) (by omega)
/-- all on the left side is forced -/
def Hd (K : Kr) (w : K.W) (M : List Nd) (b : Bits) : Prop := ∀ j : Int, b.has j = true → K.fc (fm M j) w
def Valid (M : List Nd) (s : Sq) : Prop := ∀ (K : Kr) (w : K.W), Hd K w M s.left → K.fc (fm M s.goal) w
def Refd (M : List Nd) (s : Sq) : Prop := ∃ (K : Kr) (w : K.W), Hd K w M s.left ∧ ¬ K.fc (fm M s.goal) w
/-- M's rows lie ahead in N -/
structure TExt (M N : List Nd) : Prop where
  len : M.length ≤ N.length
  eq : ∀ j : Int, inb j M.length = true → nd N j = nd M j
theorem TExt.refl (M : List Nd) : TExt M M := ⟨Nat.le_refl _, fun _ _ => rfl⟩
theorem TExt.trans {A B C : List Nd} (h : TExt A B) (k : TExt B C) : TExt A C := ⟨Nat.le_trans h.len k.len, fun j hj => by rw [k.eq j (inb_mono hj h.len), h.eq j hj]⟩
theorem TExt.fm {M N : List Nd} (h : TExt M N) (hw : Wf M) {i : Int} (hi : inb i M.length = true) : fm N i = fm M i := fm_ext hw h.eq hi
theorem TExt.look {M N : List Nd} (h : TExt M N) {s : Sq} (hl : lookV M s = true) : lookV N s = true := by
  obtain ⟨k1, k2⟩ := lookV_iff.1 hl
  exact lookV_iff.2 ⟨fun j hj => inb_mono (k1 j hj) h.len, inb_mono k2 h.len⟩
theorem TExt.hd {M N : List Nd} (h : TExt M N) (hw : Wf M) {b : Bits} (hb : ∀ j : Int, b.has j = true → inb j M.length = true) (K : Kr) (w : K.W) : Hd K w N b ↔ Hd K w M b := by
  refine ⟨fun q j hj => ?_, fun q j hj => ?_⟩
  · have := q j hj; rwa [h.fm hw (hb j hj)] at this
  · rw [h.fm hw (hb j hj)]; exact q j hj
theorem TExt.valid {M N : List Nd} (h : TExt M N) (hw : Wf M) {s : Sq} (hl : lookV M s = true) : Valid N s ↔ Valid M s := by
  obtain ⟨k1, k2⟩ := lookV_iff.1 hl
  unfold Valid
  refine forall_congr' fun K => forall_congr' fun w => ?_
  rw [h.hd hw k1, h.fm hw k2]
theorem TExt.refd {M N : List Nd} (h : TExt M N) (hw : Wf M) {s : Sq} (hl : lookV M s = true) : Refd N s ↔ Refd M s := by
  obtain ⟨k1, k2⟩ := lookV_iff.1 hl
  unfold Refd
  refine exists_congr fun K => exists_congr fun w => ?_
  rw [h.hd hw k1, h.fm hw k2]
end Go.Proofs.YtjjkhjieegmphaaDoor
end
section
namespace Go.Proofs.YtjjkhjieegmphaaDoor
open Gw
set_option linter.unusedVariables false
set_option linter.unusedSimpArgs false
section
variable {ι : Type} (K : ι → Kr) (w0 : ∀ i, (K i).W)
inductive GLe : Option (Σ i, (K i).W) → Option (Σ i, (K i).W) → Prop
  | root : GLe none none
  | down {i : ι} {v : (K i).W} (h : (K i).le (w0 i) v) : GLe none (some ⟨i, v⟩)
  | inn {i : ι} {u v : (K i).W} (h : (K i).le u v) : GLe (some ⟨i, u⟩) (some ⟨i, v⟩)
theorem GLe.trans {a b c : Option (Σ i, (K i).W)} (h : GLe K w0 a b) (k : GLe K w0 b c) : GLe K w0 a c := by
  cases h with
  | root => exact k
  | down h =>
    cases k with
    | inn k => exact .down ((K _).trans h k)
  | inn h =>
    cases k with
    | inn k => exact .inn ((K _).trans h k)
end
end Go.Proofs.YtjjkhjieegmphaaDoor
end
section
namespace Go.Proofs.YtjjkhjieegmphaaDoor
open Gw
set_option linter.unusedVariables false
set_option linter.unusedSimpArgs false
set_option maxRecDepth 100000
/-- a weight -/
abbrev wt (W : List Int) (i : Int) : Int := at_ (0 : Int) W i
/-- the formulas of a sequent -/
def fms (s : Sq) : List Int := s.left.list.map (fun (n : Nat) => (n : Int)) ++ [s.goal]
/-- a falling row is ahead of another one -/
def lessV : List Int → List Int → Bool
  | [], b => !b.isEmpty
  | _ :: _, [] => false
  | x :: a, y :: b => if x = y then lessV a b else decide (x < y)
end Go.Proofs.YtjjkhjieegmphaaDoor
end
section
namespace Go.Proofs.YtjjkhjieegmphaaDoor
open Gw
set_option linter.unusedVariables false

def law09_RuleFalls.b1 (r27 : List Nd) (r20 : Tb × List Sq × Int × Bool) (k : Nat) (i43 : Int) (x43_0 : Sq) : Option (Stp Sq (Stp (Tb × Sq) Bool)) :=
  (ref09_Right.f (some r27) (at_ Sq.z r20.2.1 i43)).bind fun r46 => chk (!(!r46)) ((ref09_Weights.f k (some r27) (at_ Sq.z r20.2.1 i43)).bind fun r49 => chk (!(!r46)) ((ref09_Weights.f k (some r27) x43_0).bind fun r54 => (if (!(!r46)) then ref09_Less.f k r49 r54 else some false).bind fun r58 => if (!r46) || (!r58) then some (.ret (.ret false)) else some (.go x43_0)))
def law09_RuleFalls.b0 (a2 : List Int) (k : Nat) (i12 : Int) (x12_0 : Tb) (x12_1 : Sq) : Option (Stp (Tb × Sq) Bool) :=
  (law09_next.f x12_0 x12_1 (at_ (0 : Int) a2 i12)).bind fun r20 => if (!r20.2.2.2) || (decide ((r20.2.1.length : Int) = 0)) then some (.brk (r20.1, x12_1)) else (formula_Table_Rows.f r20.1).bind fun r27 => (ref09_Right.f (some r27) x12_1).bind fun r33 => if !r33 then some (.ret false) else (ref09_Weights.f k (some r27) x12_1).bind fun r37 => chk (inb 0 r37.length) (if decide (1152921504606846976 ≤ at_ (0 : Int) r37 0) then some (.brk (r20.1, x12_1)) else (forN (fun i s => law09_RuleFalls.b1 r27 r20 k i s) ((r20.2.1.length : Int) - 0).toNat 0 x12_1).bind (aft fun (s43 : Sq) => chk (decide (IntKind.u64.wrap (r20.2.1.length : Int) ≠ 0)) (chk (inb (IntKind.i64.wrap (Int.tmod (IntKind.u64.wrap (Int.tdiv (IntKind.u64.wrap (at_ (0 : Int) a2 i12)) 7)) (IntKind.u64.wrap (r20.2.1.length : Int)))) r20.2.1.length) (some (.go (r20.1, at_ Sq.z r20.2.1 (IntKind.i64.wrap (Int.tmod (IntKind.u64.wrap (Int.tdiv (IntKind.u64.wrap (at_ (0 : Int) a2 i12)) 7)) (IntKind.u64.wrap (r20.2.1.length : Int))))))))))
def law09_RuleFalls.f (k : Nat) (a0 : List Nd) (a1 : Sq) (a2 : List Int) : Option Bool :=
  (law03_Both.f a0).bind fun r3 => if !r3.2.2 then (law09_heads.f).bind fun r9 => some r9 else (forN (fun i s => law09_RuleFalls.b0 a2 k i s.1 s.2) ((a2.length : Int) - 0).toNat 0 (r3.1, a1)).bind (aft fun (s12 : Tb × Sq) => (law09_heads.f).bind fun r70 => some r70)
end Go.Proofs.YtjjkhjieegmphaaDoor
end
section
namespace Go.Proofs.YtjjkhjieegmphaaDoor
open Gw
set_option linter.unusedVariables false
set_option linter.unusedSimpArgs false
set_option maxRecDepth 100000
theorem del_has' {b : Bits} {x j : Int} (h : (b.del x).has j = true) : b.has j = true ∧ j ≠ x := by
  rw [Bits.del_has] at h
  simp only [Bool.and_eq_true, Bool.not_eq_true', decide_eq_false_iff_not] at h
  exact ⟨h.2, h.1⟩
theorem fms_inb {N : List Nd} {s : Sq} (hl : lookV N s = true) : ∀ x ∈ fms s, inb x N.length = true := by
  obtain ⟨l1, l2⟩ := lookV_iff.1 hl
  intro x hx
  rcases List.mem_append.1 hx with hx | hx
  · obtain ⟨j, hj, rfl⟩ := List.mem_map.1 hx
    exact l1 j (Bits.mem_list.1 hj).2
  · rw [List.mem_singleton.1 hx]; exact l2
end Go.Proofs.YtjjkhjieegmphaaDoor
end
section
namespace Go.Proofs.YtjjkhjieegmphaaDoor
open Gw
set_option linter.unusedVariables false
set_option linter.unusedSimpArgs false
/-- weights without a cap -/
def uwF (M : List Nd) : Nat → Int → Int
  | 0, _ => 1
  | n + 1, i => if (nd M i).kind = 1 ∨ (nd M i).kind = 2 then 1 else uwF M n (nd M i).l + uwF M n (nd M i).r + (if (nd M i).kind = 3 then 2 else 1)
def uw (M : List Nd) : List Int := (List.range M.length).map fun (j : Nat) => uwF M (j + 1) j
theorem uwF_two {M N : List Nd} (hw : Wf M) (hN : ∀ j : Int, inb j M.length = true → nd N j = nd M j) : ∀ (n m : Nat) (i : Int), inb i M.length = true → i.toNat < n → i.toNat < m → uwF N n i = uwF M m i := by
  intro n
  induction n with
  | zero => intro m i _ h; omega
  | succ n ih =>
    intro m i hi h1 h2
    obtain ⟨m, rfl⟩ : ∃ q, m = q + 1 := ⟨m - 1, by omega⟩
    rw [uwF, uwF, hN i hi]
    have hk := hw.kind i hi
    have h0 := inb_ex hi
    by_cases k12 : (nd M i).kind = 1 ∨ (nd M i).kind = 2
    · rw [if_pos k12, if_pos k12]
    · have k : (nd M i).kind = 3 ∨ (nd M i).kind = 4 ∨ (nd M i).kind = 5 := by omega
      have hks := hw.kids i hi k
      rw [if_neg k12, if_neg k12, ih m _ (hw.left hi k) (by omega) (by omega), ih m _ (hw.right hi k) (by omega) (by omega)]
theorem uw_at {M : List Nd} {i : Int} (hi : inb i M.length = true) : wt (uw M) i = uwF M (i.toNat + 1) i := by
  have h0 := inb_ex hi
  have h1 : i.toNat < M.length := by omega
  unfold wt at_ uw
  rw [List.getD_eq_getElem?_getD, List.getElem?_map, List.getElem?_range h1]
  have : ((i.toNat : Nat) : Int) = i := by omega
  simp [this]
theorem uw_ext {M N : List Nd} (hw : Wf M) (h : TExt M N) {i : Int} (hi : inb i M.length = true) : wt (uw N) i = wt (uw M) i := by
  rw [uw_at hi, uw_at (inb_mono hi h.len)]
  exact uwF_two hw h.eq _ _ i hi (by omega) (by omega)
/-- a row of numbers, falling -/
def srt (l : List Int) : List Int := l.mergeSort fun a b => decide (b ≤ a)
/-- the weights of a sequent, falling -/
def rank (M : List Nd) (q : Sq) : List Int := srt ((fms q).map (wt (uw M)))
def Below (M : List Nd) (p s : Sq) : Prop := lessV (rank M p) (rank M s) = true
theorem lessV_trans : ∀ {a b c : List Int}, lessV a b = true → lessV b c = true → lessV a c = true
  | [], b, [], _, h => by cases b <;> simp [lessV] at h
  | [], _, _ :: _, _, _ => rfl
  | _ :: _, [], _, h, _ => by simp [lessV] at h
  | _ :: _, _ :: _, [], _, h => by simp [lessV] at h
  | x :: a, y :: b, z :: c, h, k => by
    rw [lessV] at h k ⊢
    by_cases e1 : x = y
    · rw [if_pos e1] at h
      by_cases e2 : y = z
      · rw [if_pos e2] at k; rw [if_pos (e1.trans e2)]; exact lessV_trans h k
      · rw [if_neg e2] at k; rw [if_neg (by omega), e1]; exact k
    · rw [if_neg e1, decide_eq_true_eq] at h
      by_cases e2 : y = z
      · rw [if_neg (by omega), decide_eq_true_eq]; omega
      · rw [if_neg e2, decide_eq_true_eq] at k
        rw [if_neg (by omega), decide_eq_true_eq]; omega
theorem Below.trans {M : List Nd} {a b c : Sq} (h : Below M a b) (k : Below M b c) : Below M a c := lessV_trans h k
theorem rank_ext {M N : List Nd} (hw : Wf M) (h : TExt M N) {q : Sq} (hl : lookV M q = true) : rank N q = rank M q := by
  unfold rank
  rw [List.map_congr_left fun x hx => uw_ext hw h (fms_inb hl x hx)]
theorem Below.ext {M N : List Nd} (hw : Wf M) (h : TExt M N) {p s : Sq} (hp : lookV M p = true) (hs : lookV M s = true) (hb : Below M p s) : Below N p s := by
  unfold Below; rw [rank_ext hw h hp, rank_ext hw h hs]; exact hb
end Go.Proofs.YtjjkhjieegmphaaDoor
end
section
namespace Go.Proofs.YtjjkhjieegmphaaDoor
open Gw
set_option linter.unusedVariables false
set_option linter.unusedSimpArgs false
/-- what is known of a search on its way: M: its table's rows; B: visits that may be -/
structure SI (B : Int) (x : PFinder) (M : List Nd) : Prop where
  t : x.t = some M
  wf : Wf M
  bud : 0 ≤ x.left ∧ x.left + x.visits = B ∧ B ≤ 4096 ∧ (x.steps.length : Int) ≤ x.visits
  c1 : ∀ (i : Nat) (p : PStep), x.steps[i]? = some p → Gw.look p.seq x.at_ = some (i : Int)
  c2 : ∀ (q : Sq) (v : Int), Gw.look q x.at_ = some v → ∃ (i : Nat) (p : PStep), v = i ∧ x.steps[i]? = some p ∧ p.seq = q
  seq : ∀ p ∈ x.steps, p.seq.left.okB = true ∧ lookV M p.seq = true
  sem : ∀ p ∈ x.steps, (p.proved = true → Valid M p.seq) ∧ (p.proved = false → Refd M p.seq)
  kids : ∀ (i : Nat) (p : PStep), x.steps[i]? = some p → ∀ j ∈ p.kids, ∃ (n : Nat) (q : PStep), j = n ∧ n < i ∧ x.steps[n]? = some q ∧ q.proved = p.proved
  kl : ∀ p ∈ x.steps, p.kids.length ≤ 4096
/-- steps that were put behind: they are below s -/
structure Mid (B : Int) (x y : PFinder) (M M' : List Nd) (s : Sq) : Prop where
  si : SI B y M'
  ext : TExt M M'
  new : ∃ K, y.steps = x.steps ++ K ∧ ∀ p ∈ K, Below M' p.seq s
  left : y.left ≤ x.left - 1
  cnt : y.visits - y.steps.length = x.visits + 1 - x.steps.length
/-- behind a decision -/
structure Ps (B : Int) (x y : PFinder) (M M' : List Nd) (s : Sq) (av : Int) : Prop where
  si : SI B y M'
  ext : TExt M M'
  new : ∃ K, y.steps = x.steps ++ K ∧ ∀ p ∈ K, p.seq = s ∨ Below M' p.seq s
  left : y.left ≤ x.left
  cnt : y.visits - y.steps.length = x.visits - x.steps.length
  at_ : ∃ (i : Nat) (p : PStep), av = i ∧ y.steps[i]? = some p ∧ p.seq = s
  last : y.steps = x.steps ∨ av + 1 = (y.steps.length : Int)
/-- an error: the rows ahead are as they were -/
structure Er (M : List Nd) (y : PFinder) : Prop where
  ex : ∃ N, y.t = some N ∧ N.take M.length = M ∧ N.Nodup ∧ M.length ≤ N.length
theorem take_of {M N : List Nd} (h : TExt M N) : N.take M.length = M := by
  have hl := h.len
  refine List.ext_getElem (by simp; omega) fun i h1 h2 => ?_
  have hi : inb (i : Int) M.length = true := by rw [inb_nat]; simpa using h2
  have := h.eq i hi
  rw [← nd_at hi, ← nd_at (inb_mono hi hl), rows_take h2, rows_take (by omega)] at this
  rw [List.getElem_take]; exact this
theorem Er.mono {M M' : List Nd} {y : PFinder} (h : Er M' y) (e : TExt M M') : Er M y := by
  obtain ⟨N, h1, h2, h3, h4⟩ := h.ex
  refine ⟨N, h1, ?_, h3, Nat.le_trans e.len h4⟩
  have : M'.take M.length = M := take_of e
  rw [← this, ← h2, List.take_take, Nat.min_eq_left e.len]
  simp [Nat.min_eq_left e.len, List.take_take]
theorem SI.next {B : Int} {x y : PFinder} {M N : List Nd} (h : SI B x M) (e : TExt M N) (wN : Wf N) (ht : y.t = some N) (h1 : y.steps = x.steps) (h2 : y.at_ = x.at_) (hl : 0 ≤ y.left ∧ y.left + y.visits = B ∧ x.visits ≤ y.visits) : SI B y N where
  t := ht
  wf := wN
  bud := ⟨hl.1, hl.2.1, h.bud.2.2.1, by rw [h1]; have := h.bud.2.2.2; omega⟩
  c1 := by rw [h1, h2]; exact h.c1
  c2 := by rw [h1, h2]; exact h.c2
  seq := by rw [h1]; exact fun p hp => ⟨(h.seq p hp).1, e.look (h.seq p hp).2⟩
  sem := by
    rw [h1]
    intro p hp
    have hq := (h.seq p hp).2
    exact ⟨fun q => (e.valid h.wf hq).2 ((h.sem p hp).1 q), fun q => (e.refd h.wf hq).2 ((h.sem p hp).2 q)⟩
  kids := by rw [h1]; exact h.kids
  kl := by rw [h1]; exact h.kl
end Go.Proofs.YtjjkhjieegmphaaDoor
end
section
namespace Go.Proofs.YtjjkhjieegmphaaDoor
open Gw
set_option linter.unusedVariables false
set_option linter.unusedSimpArgs false
theorem Mid.next {B : Int} {x y z : PFinder} {M M' N : List Nd} {s : Sq} (h : Mid B x y M M' s) (hs : lookV M s = true) (e : TExt M' N) (wN : Wf N) (ht : z.t = some N) (h1 : z.steps = y.steps) (h2 : z.at_ = y.at_) (h3 : z.left = y.left) (h4 : z.visits = y.visits) : Mid B x z M N s where
  si := h.si.next e wN ht h1 h2 (by rw [h3, h4]; exact ⟨h.si.bud.1, h.si.bud.2.1, Int.le_refl _⟩)
  ext := h.ext.trans e
  new := by
    obtain ⟨K, hK, hb⟩ := h.new
    refine ⟨K, by rw [h1, hK], fun p hp => (hb p hp).ext h.si.wf e ((h.si.seq p (by rw [hK]; exact List.mem_append_right _ hp)).2) (h.ext.look hs)⟩
  left := by rw [h3]; exact h.left
  cnt := by rw [h4, h1]; exact h.cnt
/-- kids that are steps of a kind -/
def Kids (y : PFinder) (b : Bool) (l : List Int) : Prop := ∀ j ∈ l, ∃ (n : Nat) (q : PStep), j = n ∧ y.steps[n]? = some q ∧ q.proved = b
theorem Kids.nil {y : PFinder} {b : Bool} : Kids y b [] := fun _ h => by cases h
theorem Kids.ext {y z : PFinder} {b : Bool} {l : List Int} (h : Kids y b l) {K : List PStep} (hK : z.steps = y.steps ++ K) : Kids z b l := fun j hj => by
  obtain ⟨n, q, h1, h2, h3⟩ := h j hj
  exact ⟨n, q, h1, by rw [hK, List.getElem?_append_left (List.getElem?_eq_some_iff.1 h2).1]; exact h2, h3⟩
theorem Kids.push {y : PFinder} {b : Bool} {l : List Int} (h : Kids y b l) {n : Nat} {q : PStep} (h1 : y.steps[n]? = some q) (h2 : q.proved = b) : Kids y b (l ++ [(n : Int)]) := fun j hj => by
  rcases List.mem_append.1 hj with hj | hj
  · exact h j hj
  · exact ⟨n, q, List.mem_singleton.1 hj, h1, h2⟩
theorem Kids.one {y : PFinder} {b : Bool} {n : Nat} {q : PStep} (h1 : y.steps[n]? = some q) (h2 : q.proved = b) : Kids y b [(n : Int)] := Kids.push (l := []) Kids.nil h1 h2
theorem Kids.same {y z : PFinder} {b : Bool} {l : List Int} (h : Kids y b l) (hK : z.steps = y.steps) : Kids z b l := h.ext (K := []) (by rw [hK, List.append_nil])
/-- what is left to choose, one by one -/
def optsV (M : List Nd) (s : Sq) : List (Int × Int) := (if (nd M s.goal).kind = 4 then [(11, s.goal), (12, s.goal)] else []) ++ ((List.range M.length).filter fun (j : Nat) => s.left.has j && decide (onV M s.left j = 13)).map fun (j : Nat) => ((13 : Int), (j : Int))
theorem on13 {M : List Nd} {b : Bits} {i : Int} (h : onV M b i = 13) : (nd M i).kind = 5 ∧ (nd M (nd M i).l).kind = 5 := by
  rcases on_cases h (by decide) with q | q | q | ⟨q, q2⟩
  · omega
  · omega
  · omega
  · exact ⟨q, by omega⟩
theorem opts_facts {M : List Nd} {s : Sq} {o : Int × Int} (h : o ∈ optsV M s) : (o.1 = 11 ∧ (nd M s.goal).kind = 4) ∨ (o.1 = 12 ∧ (nd M s.goal).kind = 4) ∨ (o.1 = 13 ∧ s.left.has o.2 = true ∧ (nd M o.2).kind = 5 ∧ (nd M (nd M o.2).l).kind = 5) := by
  unfold optsV at h
  rcases List.mem_append.1 h with h | h
  · by_cases k : (nd M s.goal).kind = 4
    · simp only [k, if_true, List.mem_cons, List.not_mem_nil, or_false] at h
      rcases h with rfl | rfl
      · exact .inl ⟨rfl, k⟩
      · exact .inr (.inl ⟨rfl, k⟩)
    · simp [k] at h
  · obtain ⟨j, hj, rfl⟩ := List.mem_map.1 h
    have := (List.mem_filter.1 hj).2
    simp only [Bool.and_eq_true, decide_eq_true_eq] at this
    exact .inr (.inr ⟨rfl, this.1, on13 this.2⟩)
/-- a choice that was refuted -/
def DoneC (M M' : List Nd) (s : Sq) (o : Int × Int) : Prop :=
  (o.1 = 11 → Refd M' ⟨s.left, (nd M s.goal).l⟩) ∧ (o.1 = 12 → Refd M' ⟨s.left, (nd M s.goal).r⟩) ∧
    (o.1 = 13 → ∃ d : Int, inb d M'.length = true ∧ fm M' d = .imp (fm M' (nd M (nd M o.2).l).r) (fm M' (nd M o.2).r) ∧ Refd M' ⟨(s.left.del o.2).add d, (nd M o.2).l⟩)
theorem DoneC.ext {M M' N : List Nd} {s : Sq} {o : Int × Int} (h : DoneC M M' s o) (hw : Wf M) (hl : lookV M s = true) (hM : TExt M M') (wM' : Wf M') (e : TExt M' N) (ho : o ∈ optsV M s) : DoneC M N s o := by
  obtain ⟨k1, k2⟩ := lookV_iff.1 hl
  have lf := fun j hj => inb_mono (k1 j hj) hM.len
  refine ⟨fun q => ?_, fun q => ?_, fun q => ?_⟩
  · have k : (nd M s.goal).kind = 4 := by rcases opts_facts ho with h | h | h <;> omega
    exact (e.refd (s := ⟨s.left, (nd M s.goal).l⟩) wM' (lookV_iff.2 ⟨lf, inb_mono (hw.left k2 (.inr (.inl k))) hM.len⟩)).2 (h.1 q)
  · have k : (nd M s.goal).kind = 4 := by rcases opts_facts ho with h | h | h <;> omega
    exact (e.refd (s := ⟨s.left, (nd M s.goal).r⟩) wM' (lookV_iff.2 ⟨lf, inb_mono (hw.right k2 (.inr (.inl k))) hM.len⟩)).2 (h.2.1 q)
  · obtain ⟨hh, k, c⟩ : s.left.has o.2 = true ∧ (nd M o.2).kind = 5 ∧ (nd M (nd M o.2).l).kind = 5 := by
      rcases opts_facts ho with h | h | h
      · omega
      · omega
      · exact h.2
    obtain ⟨d, hd, fd, hr⟩ := h.2.2 q
    have hi := k1 o.2 hh
    have hli := hw.left hi (.inr (.inr k))
    refine ⟨d, inb_mono hd e.len, ?_, (e.refd (s := ⟨(s.left.del o.2).add d, (nd M o.2).l⟩) wM' (lookV_iff.2 ⟨(all_add (in1024 wM'.len hd)).2 ⟨hd, fun j hj => lf j (del_has' hj).1⟩, inb_mono hli hM.len⟩)).2 hr⟩
    rw [e.fm wM' hd, e.fm wM' (inb_mono (hw.right hli (.inr (.inr c))) hM.len), e.fm wM' (inb_mono (hw.right hi (.inr (.inr k))) hM.len)]
    exact fd
end Go.Proofs.YtjjkhjieegmphaaDoor
end
section
namespace Go.Proofs.YtjjkhjieegmphaaDoor
open Gw
set_option linter.unusedVariables false
set_option linter.unusedSimpArgs false
end Go.Proofs.YtjjkhjieegmphaaDoor
end
section
namespace Go.Proofs.YtjjkhjieegmphaaDoor
open Gw
set_option linter.unusedVariables false
set_option linter.unusedSimpArgs false
set_option maxRecDepth 100000
theorem heads11 : law11_heads.f 5000 = some true := by decide +kernel
end Go.Proofs.YtjjkhjieegmphaaDoor
end
section
namespace Go.Proofs.YtjjkhjieegmphaaDoor
open Gw
set_option linter.unusedVariables false

def law11_SearchWeaker.f (k : Nat) (a0 : List Nd) (a1 : Sq) (a2 : Int) : Option Bool :=
  (law03_Both.f a0).bind fun r3 => (law11_with.f a1 a2).bind fun r8 => (if (!((!r3.2.2) || (!r8.2))) then ref09_Right.f r3.2.1 r8.1 else some false).bind fun r14 => if ((!r3.2.2) || (!r8.2)) || (!r14) then (law11_heads.f k).bind fun r17 => some r17 else (law11_told.f k r3.1 a1).bind fun r20 => (law11_told.f k r20.1 r8.1).bind fun r23 => (if ((decide (r20.2 ≠ 1)) || (decide (r23.2 ≠ 0))) then law11_heads.f k else some false).bind fun r26 => some (((decide (r20.2 ≠ 1)) || (decide (r23.2 ≠ 0))) && r26)
def law11_SearchCut.f (k : Nat) (a0 : List Nd) (a1 : Sq) (a2 : Int) : Option Bool :=
  (law03_Both.f a0).bind fun r3 => (law11_with.f a1 a2).bind fun r8 => (if (!((!r3.2.2) || (!r8.2))) then ref09_Right.f r3.2.1 r8.1 else some false).bind fun r14 => if ((!r3.2.2) || (!r8.2)) || (!r14) then (law11_heads.f k).bind fun r17 => some r17 else (law11_told.f k r3.1 (⟨a1.left, a2⟩ : Sq)).bind fun r20 => (law11_told.f k r20.1 r8.1).bind fun r23 => (law11_told.f k r23.1 a1).bind fun r26 => (if (((decide (r20.2 ≠ 1)) || (decide (r23.2 ≠ 1))) || (decide (r26.2 ≠ 0))) then law11_heads.f k else some false).bind fun r29 => some ((((decide (r20.2 ≠ 1)) || (decide (r23.2 ≠ 1))) || (decide (r26.2 ≠ 0))) && r29)
def law11_SearchDeduces.f (k : Nat) (a0 : List Nd) (a1 : Sq) (a2 : Int) : Option Bool :=
  (law03_Both.f a0).bind fun r3 => (law11_with.f a1 a2).bind fun r8 => (if (!((!r3.2.2) || (!r8.2))) then ref09_Right.f r3.2.1 r8.1 else some false).bind fun r14 => if ((!r3.2.2) || (!r8.2)) || (!r14) then (law11_heads.f k).bind fun r17 => some r17 else (formula_Table_Imp.f r3.1 a2 a1.goal).bind fun r20 => if decide (r20.2.2 ≠ 0) then (if (decide (r20.2.2 = 30)) then law11_heads.f k else some false).bind fun r24 => some ((decide (r20.2.2 = 30)) && r24) else (law11_told.f k r20.1 r8.1).bind fun r26 => (law11_told.f k r26.1 (⟨a1.left, r20.2.1⟩ : Sq)).bind fun r29 => (if (((decide (r26.2 < 0)) || (decide (r29.2 < 0))) || (decide (r26.2 = r29.2))) then law11_heads.f k else some false).bind fun r32 => some ((((decide (r26.2 < 0)) || (decide (r29.2 < 0))) || (decide (r26.2 = r29.2))) && r32)
def law11_SearchTrue.b0 (a0 : List Nd) (a2 : Int) (i25 : Int) (x25_0 : Int) (x25_1 : List Bool) : Option (Int × List Bool) :=
  if decide ((at_ Nd.z a0 i25).kind = 1) then chk (decide (0 ≤ IntKind.u64.wrap (Int.tmod x25_0 64))) (chk (inb i25 x25_1.length) (some (IntKind.i64.wrap (x25_0 + 1), x25_1.set (i25).toNat (decide (bitsOp .and .u64 (Int.fdiv a2 (2 ^ (min (IntKind.u64.wrap (Int.tmod x25_0 64)).toNat IntKind.u64.bits))) 1 = 1))))) else if decide ((at_ Nd.z a0 i25).kind = 3) then chk (inb ((at_ Nd.z a0 i25).l) x25_1.length) (chk (!(at_ false x25_1 ((at_ Nd.z a0 i25).l)) || (inb ((at_ Nd.z a0 i25).r) x25_1.length)) (chk (inb i25 x25_1.length) (some (x25_0, x25_1.set (i25).toNat ((at_ false x25_1 ((at_ Nd.z a0 i25).l)) && (at_ false x25_1 ((at_ Nd.z a0 i25).r))))))) else if decide ((at_ Nd.z a0 i25).kind = 4) then chk (inb ((at_ Nd.z a0 i25).l) x25_1.length) (chk (!(!(at_ false x25_1 ((at_ Nd.z a0 i25).l))) || (inb ((at_ Nd.z a0 i25).r) x25_1.length)) (chk (inb i25 x25_1.length) (some (x25_0, x25_1.set (i25).toNat ((at_ false x25_1 ((at_ Nd.z a0 i25).l)) || (at_ false x25_1 ((at_ Nd.z a0 i25).r))))))) else if decide ((at_ Nd.z a0 i25).kind = 5) then chk (inb ((at_ Nd.z a0 i25).l) x25_1.length) (chk (!(!(!(at_ false x25_1 ((at_ Nd.z a0 i25).l)))) || (inb ((at_ Nd.z a0 i25).r) x25_1.length)) (chk (inb i25 x25_1.length) (some (x25_0, x25_1.set (i25).toNat ((!(at_ false x25_1 ((at_ Nd.z a0 i25).l))) || (at_ false x25_1 ((at_ Nd.z a0 i25).r))))))) else some (x25_0, x25_1)
def law11_SearchTrue.b1 (r53 : List Int) (o25 : Int × List Bool) (k : Nat) (i57 : Int) : Option (Stp Unit Bool) :=
  chk (inb (at_ (0 : Int) r53 i57) o25.2.length) (if !(at_ false o25.2 (at_ (0 : Int) r53 i57)) then (law11_heads.f k).bind fun r62 => some (.ret r62) else some (.go ()))
def law11_SearchTrue.f (k : Nat) (a0 : List Nd) (a1 : Sq) (a2 : Int) : Option Bool :=
  (law03_Both.f a0).bind fun r3 => (if (!(!r3.2.2)) then ref09_Right.f r3.2.1 a1 else some false).bind fun r8 => if (!r3.2.2) || (!r8) then (law11_heads.f k).bind fun r11 => some r11 else (law11_told.f k r3.1 a1).bind fun r14 => if decide (r14.2 ≠ 1) then (law11_heads.f k).bind fun r18 => some r18 else chk (decide (0 ≤ (a0.length : Int) ∧ ((a0.length : Int)).toNat ≤ 16777216)) ((forS (fun i s => law11_SearchTrue.b0 a0 a2 i s.1 s.2) ((a0.length : Int) - 0).toNat 0 (0, List.replicate ((a0.length : Int)).toNat false)).bind fun (o25 : Int × List Bool) => (ref05_List.f a1.left).bind fun r53 => (forN (fun i s => law11_SearchTrue.b1 r53 o25 k i) ((r53.length : Int) - 0).toNat 0 ()).bind (aft fun (s57 : Unit) => chk (inb a1.goal o25.2.length) ((if (at_ false o25.2 a1.goal) then law11_heads.f k else some false).bind fun r68 => some ((at_ false o25.2 a1.goal) && r68))))
end Go.Proofs.YtjjkhjieegmphaaDoor
end
section
namespace Go.Proofs.YtjjkhjieegmphaaDoor
open Gw
set_option linter.unusedVariables false

def law11_SearchLists.b1 (r12 : Tb × PFound × Int) (i26 : Int) (x28_0 : Int) : Option (Stp Int (Stp Unit Bool)) :=
  if decide (x28_0 < (((at_ PStep.z r12.2.1.steps i26).kids).length : Int)) then chk (inb x28_0 ((at_ PStep.z r12.2.1.steps i26).kids).length) (chk (!(!((decide (at_ (0 : Int) ((at_ PStep.z r12.2.1.steps i26).kids) x28_0 < 0)) || (decide (i26 ≤ at_ (0 : Int) ((at_ PStep.z r12.2.1.steps i26).kids) x28_0)))) || (inb (at_ (0 : Int) ((at_ PStep.z r12.2.1.steps i26).kids) x28_0) r12.2.1.steps.length)) (if ((decide (at_ (0 : Int) ((at_ PStep.z r12.2.1.steps i26).kids) x28_0 < 0)) || (decide (i26 ≤ at_ (0 : Int) ((at_ PStep.z r12.2.1.steps i26).kids) x28_0))) || (!(((at_ PStep.z r12.2.1.steps (at_ (0 : Int) ((at_ PStep.z r12.2.1.steps i26).kids) x28_0)).proved) == ((at_ PStep.z r12.2.1.steps i26).proved))) then some (.ret (.ret false)) else some (.go (IntKind.i64.wrap (x28_0 + 1))))) else some (.brk x28_0)
def law11_SearchLists.b2 (r12 : Tb × PFound × Int) (i26 : Int) (i43 : Int) : Option (Stp Unit (Stp Unit Bool)) :=
  chk (inb i43 r12.2.1.steps.length) (if decide ((at_ PStep.z r12.2.1.steps i43).seq = (at_ PStep.z r12.2.1.steps i26).seq) then some (.ret (.ret false)) else some (.go ()))
def law11_SearchLists.b0 (r12 : Tb × PFound × Int) (k : Nat) (i26 : Int) : Option (Stp Unit Bool) :=
  (iter (fun s => law11_SearchLists.b1 r12 i26 s) k 0).bind (aft fun (s28 : Int) => (forN (fun i s => law11_SearchLists.b2 r12 i26 i) (i26 - 0).toNat 0 ()).bind (aft fun (s43 : Unit) => some (.go ())))
def law11_SearchLists.f (k : Nat) (a0 : List Nd) (a1 : Sq) (a2 : Int) : Option Bool :=
  (law03_Both.f a0).bind fun r3 => if !r3.2.2 then (law11_heads.f k).bind fun r9 => some r9 else (search_Run.f k r3.1 a1 a2).bind fun r12 => if decide (r12.2.2 ≠ 0) then (if (((decide ((r12.2.1.steps.length : Int) = 0)) && (decide (r12.2.1.visits = 0))) && (!r12.2.1.proved)) then law11_heads.f k else some false).bind fun r20 => some ((((decide ((r12.2.1.steps.length : Int) = 0)) && (decide (r12.2.1.visits = 0))) && (!r12.2.1.proved)) && r20) else chk (!(!(((decide ((r12.2.1.steps.length : Int) = 0)) || (decide ((r12.2.1.steps.length : Int) ≠ r12.2.1.visits))) || (decide (a2 < (r12.2.1.steps.length : Int))))) || (inb (IntKind.i64.wrap ((r12.2.1.steps.length : Int) - 1)) r12.2.1.steps.length)) (chk (!(!((((decide ((r12.2.1.steps.length : Int) = 0)) || (decide ((r12.2.1.steps.length : Int) ≠ r12.2.1.visits))) || (decide (a2 < (r12.2.1.steps.length : Int)))) || (!decide ((at_ PStep.z r12.2.1.steps (IntKind.i64.wrap ((r12.2.1.steps.length : Int) - 1))).seq = a1)))) || (inb (IntKind.i64.wrap ((r12.2.1.steps.length : Int) - 1)) r12.2.1.steps.length)) (if ((((decide ((r12.2.1.steps.length : Int) = 0)) || (decide ((r12.2.1.steps.length : Int) ≠ r12.2.1.visits))) || (decide (a2 < (r12.2.1.steps.length : Int)))) || (!decide ((at_ PStep.z r12.2.1.steps (IntKind.i64.wrap ((r12.2.1.steps.length : Int) - 1))).seq = a1))) || (!(((at_ PStep.z r12.2.1.steps (IntKind.i64.wrap ((r12.2.1.steps.length : Int) - 1))).proved) == r12.2.1.proved)) then some false else (forN (fun i s => law11_SearchLists.b0 r12 k i) ((r12.2.1.steps.length : Int) - 0).toNat 0 ()).bind (aft fun (s26 : Unit) => (law11_heads.f k).bind fun r53 => some r53)))
end Go.Proofs.YtjjkhjieegmphaaDoor
end
section
namespace Go.Proofs.YtjjkhjieegmphaaDoor
open Gw
set_option linter.unusedVariables false
set_option linter.unusedSimpArgs false
set_option maxRecDepth 100000
theorem SearchNobody_true {k : Nat} (hh : law11_heads.f k = some true) (s : Sq) (bg : Int) : law11_SearchNobody.f k s bg = some true := by
  have h : search_Run.f k none s bg = some (none, ⟨false, [], 0⟩, 1) := by
    unfold search_Run.f
    simp [formula_Table_Not_neg.f]
  unfold law11_SearchNobody.f
  rw [hh]
  rw [h]
  have h2 : ref11_Same.f (⟨false, [], 0⟩ : PFound) ⟨false, [], 0⟩ = some true := by decide +kernel
  simp [h2]
end Go.Proofs.YtjjkhjieegmphaaDoor
end
section
namespace Go.Proofs.YtjjkhjieegmphaaDoor
open Gw Go.ChangeShapes Go.WideShapes Go.ChangeAt Go.RowKit
set_option linter.unusedVariables false
set_option maxRecDepth 100000
theorem ownKnob_none : ownKnob PP.godebug = none := by kernel_rfl
theorem laidOut_PP : laidOutB PP = true := by kernel_rfl
theorem gTab : PP.globalNamed "math/bits.deBruijn64tab" = some 0 := by kernel_rfl
/-- arguments read as they did -/
theorem trodAll_stays {H : Type} {enc : TypeId × Value → H} {W W' : World} {sp : Nat → Bool} : ∀ {ts : List TypeId} {vs : List Value} {ds : List (DataW H)} {ps : List MemPlace}, (∀ t ∈ ts, PP.readableRec t = true ∧ t < PP.types.size) →
    DataW.TrodAll enc PP W 0 (fun _ => true) true ts vs ds ps → (∀ p ∈ ps, W.sameAt W' p) → (∀ p ∈ ps, sp p.block = true) → DataW.TrodAll enc PP W' 0 sp true ts vs ds ps
  | [], vs, ds, ps, _, h, _, _ => by
    obtain ⟨rfl, rfl, rfl⟩ := trodAll_nil h
    exact trodAll_mk0
  | t :: ts, vs, ds, ps, hr, h, h1, h2 => by
    obtain ⟨v, vs, d, ds, p, q, rfl, rfl, rfl, h0, h3⟩ := trodAll_cons h
    have ht := hr t (by simp)
    exact trodAll_cons_mk (WideElems.Trod_stays laidOut_PP ht.1 ht.2 h0 (fun x hx => h1 x (by simp [hx])) (fun x hx => h2 x (by simp [hx])))
      (trodAll_stays (fun t ht => hr t (by simp [ht])) h3 (fun x hx => h1 x (by simp [hx])) (fun x hx => h2 x (by simp [hx])))
/-- no blocks of others -/
def oth0 : Oth := ⟨fun _ => False, [], fun _ h => by cases h⟩
/-- the table of trailing zeros, as the rows lay it -/
def tzs : List Int := Lib.deBruijn64tab.map fun (z : Nat) => (z : Int)
theorem tz_of {W : World} (h : laidMetH PP Rows.ruleNobodyRow.laid W) : Tz W := by
  have ht : Lib.TabIs PP W "math/bits.deBruijn64tab" .u8 tzs := Lib.tabIs_of_head (rest := []) gTab (t := T_64_uint8) (e := T_uint8) (n := 64) (by kernel_rfl) ar_64_uint8.1 (by kernel_rfl) (by kernel_rfl) (by kernel_rfl) h
  intro i v hv
  have hi : i < Lib.deBruijn64tab.length := by
    have := (List.getElem?_eq_some_iff.1 hv).1
    simpa using this
  have h1 := ht.cell gTab i (by simpa [tzs] using hi)
  rw [List.getElem?_map, List.getElem?_eq_getElem hi] at hv
  cases hv
  rw [Nat.zero_add, h1]
  simp [tzs, List.getD, hi]
section
variable {P : Program} {W : World} {b t : Nat} {k : IntKind} {v : Value}
theorem cell_int (ht : P.underlying t = some (.int k)) (h : Cell.okWide P W .any b t v) : ∃ n, v = .int k n ∧ k.has n := by
  simp only [Cell.okWide, ht] at h
  cases v <;> simp_all [Cell.ok]
theorem agg_of {n : Nat} {ts : List TypeId} (ht : AggT P t n) (h : Value.okWide P W .any b t v) (hts : P.cellTypes P.depth t = some ts) (hc : P.cellsOf t = n) (hn : ts.length = n) :
    ∃ cs : List Value, v = .agg cs.toArray ∧ cs.length = n ∧ ∀ (i : Nat) (v : Value) (u : TypeId), cs[i]? = some v → ts[i]? = some u → Cell.okWide P W .any b u v := by
  obtain ⟨⟨d, ht, hk⟩, -⟩ := ht
  have h : ∃ cs, v = .agg cs ∧ cs.size = P.cellsOf t ∧ Row.okWide P W .any b t cs := by
    unfold Value.okWide at h
    rw [ht] at h
    cases d <;> first | exact h | cases hk
  obtain ⟨cs, rfl, hsz, ts', hts', -, hcell⟩ := h
  obtain rfl := Option.some.inj (hts'.symm.trans hts)
  refine ⟨cs.toList, rfl, by simpa using hsz.trans hc, fun i v u hv hu => ?_⟩
  obtain ⟨u', hu', h1⟩ := hcell i v (by simpa using hv)
  rw [Nat.mod_eq_of_lt (List.getElem?_eq_some_iff.1 hu).1] at hu'
  rw [hu'] at hu; cases hu
  exact h1
theorem int_of (ht : P.underlying t = some (.int k)) (h : Value.okWide P W .any b t v) : ∃ n, v = .int k n ∧ k.has n := by
  unfold Value.okWide at h
  rw [ht] at h
  exact cell_int ht h
end
def intOf : Value → Int | .int _ n => n | _ => 0
def ts_Sq : List TypeId := List.replicate 16 T_uint64 ++ [T_int]
theorem ct_Sq : PP.cellTypes PP.depth T_Sq = some ts_Sq := by kernel_rfl
theorem co_Sq : PP.cellsOf T_Sq = 17 := by kernel_rfl
/-- the bits of 16 cells -/
def bitsOf (l : List Value) : Bits := Vector.ofFn fun i : Fin 16 => intOf (l.getD i .nilFunc)
theorem sq_of {W : World} {b : Nat} {v : Value} (h : Value.okWide PP W .any b T_Sq v) : ∃ a : Sq, v = .agg (Sq.C a).toArray ∧ a.left.okB = true ∧ IntKind.i64.has a.goal := by
  obtain ⟨cs, rfl, hl, hc⟩ := agg_of (P := PP) (t := T_Sq) (ts := ts_Sq) ag_Sq h ct_Sq co_Sq rfl
  have hl : cs.length = 17 := hl
  have h16 : ∀ i, i < 16 → ∃ n, cs[i]? = some (.int .u64 n) ∧ IntKind.u64.has n := fun i hi => by
    obtain ⟨n, e, hn⟩ := cell_int un_uint64 (hc i cs[i] T_uint64 (List.getElem?_eq_getElem (by omega)) (by rw [ts_Sq, List.getElem?_append_left (by simpa using hi), List.getElem?_replicate, if_pos hi]))
    exact ⟨n, by rw [List.getElem?_eq_getElem (by omega), e], hn⟩
  obtain ⟨g, e, hg⟩ := cell_int un_int (hc 16 cs[16] T_int (List.getElem?_eq_getElem (by omega)) rfl)
  refine ⟨⟨bitsOf cs, g⟩, ?_, ?_, hg⟩
  · congr 2
    refine List.ext_getElem? fun i => ?_
    by_cases hi : i < 16
    · obtain ⟨n, hn, _⟩ := h16 i hi
      rw [hn, Sq.C, List.getElem?_append_left (by rw [Bits.len]; exact hi), Bits.get _ _ hi]
      simp [bitsOf, hn, intOf, List.getD]
    · by_cases h2 : i = 16
      · subst h2; rw [Sq.get_goal, List.getElem?_eq_getElem (by omega), e]
      · rw [List.getElem?_eq_none (by omega), List.getElem?_eq_none (by rw [Sq.len]; omega)]
  · unfold Bits.okB
    rw [List.all_eq_true]
    intro x hx
    obtain ⟨i, hi⟩ := List.getElem?_of_mem hx
    have hi16 : i < 16 := by have := (List.getElem?_eq_some_iff.1 hi).1; simpa using this
    obtain ⟨n, hn, hh⟩ := h16 i hi16
    have hxn : x = n := by
      have := (List.getElem?_eq_some_iff.1 hi).2
      rw [← this]; simp [bitsOf, hn, intOf, List.getD]
    subst hxn
    have h2 : 0 ≤ x ∧ x ≤ 18446744073709551615 := hh
    simp only [Bool.and_eq_true, decide_eq_true_eq]
    omega
end Go.Proofs.YtjjkhjieegmphaaDoor
end
section
namespace Go.Proofs.YtjjkhjieegmphaaDoor
open Gw Go.ChangeShapes Go.WideShapes Go.ChangeAt Go.RowKit
set_option linter.unusedVariables false
set_option maxRecDepth 100000
section
variable {H : Type} {enc : TypeId × Value → H} {P : Program} {W : World} {t : TypeId} {fuel : Nat} {cs : List Value} {x : DataW H × List MemPlace} {sp : Nat → Bool} {hd : Bool} {b0 : Nat}
end
instance : Inhabited Nd := ⟨Nd.z⟩
end Go.Proofs.YtjjkhjieegmphaaDoor
end
section
namespace Go.Proofs.YtjjkhjieegmphaaDoor
open Gw Go.ChangeShapes Go.WideShapes Go.ChangeAt Go.RowKit
set_option linter.unusedVariables false
set_option maxRecDepth 100000
/-- pieces that all hold -/
def Held (W : World) (Z : List OA) : Prop := ∀ z ∈ Z, ∃ F, z.holds W F
theorem Held.nil {W : World} : Held W [] := fun _ h => by cases h
theorem Held.cons {W : World} {z : OA} {Z : List OA} (h : ∃ F, z.holds W F) (hz : Held W Z) : Held W (z :: Z) := fun x hx => by
  rcases List.mem_cons.1 hx with rfl | hx
  · exact h
  · exact hz x hx
theorem Held.s {W : World} {Z : List OA} {k : Nat} {α : Type} {C : α → List Value} {s : SlV} {l : List α} (hr : Rd W k s (l.map C)) (hl : l.length ≤ 140737488355328) (hz : Held W Z) : Held W (fS k C s l :: Z) :=
  .cons ⟨s.fp, ⟨hr, hl⟩, fun _ => Iff.rfl⟩ hz
theorem Held.tz {W : World} {Z : List OA} (h : Tz W) (hz : Held W Z) : Held W (oTz :: Z) := .cons ⟨fun i => i = 0, ⟨h, fun _ => Iff.rfl⟩⟩ hz
/-- what stays while a law runs -/
theorem stheld {W : World} {Z : List OA} (h : Held W Z) : St (fun _ => False) oth0 W W [] Z :=
  ⟨fun _ => False, fun _ h => h.elim, fun _ h => h.elim, Chg.refl _ _, trivial, fun z hz => by
    obtain ⟨F, hF⟩ := h z hz
    exact ⟨F, hF, fun i _ q => q.elim (fun x => x) (fun x => x)⟩, fun d hd => absurd hd (by simp [oth0])⟩
end Go.Proofs.YtjjkhjieegmphaaDoor
end
section
namespace Go.Proofs.YtjjkhjieegmphaaDoor
open Gw Go.ChangeShapes Go.WideShapes Go.ChangeAt Go.RowKit
set_option linter.unusedVariables false
set_option maxRecDepth 100000
namespace LawSearchNobody
theorem contract (H : Type) (enc : TypeId × Value → H) (W : World) (base : Nat) (args : Array Value) (ds gs : List (DataW H)) (before : List MemPlace)
    (hval : ∀ (j : Nat) t v, D_law11_SearchNobody.params[j]? = some t → args[j]? = some v → Value.okWide PP W .any base t v)
    (hW : DataW.Whole enc PP D_law11_SearchNobody.params.toList Rows.searchNobodySpec.vars false W args.toList ds gs before) (hL : laidMetH PP Rows.searchNobodyRow.laid W) :
    Calls PP F_law11_SearchNobody args W fun e W' => ∃ v, e = .returned v ∧ Rows.searchNobodySpec.post enc PP D_law11_SearchNobody false true false false W args v W' := by
  have hW' := hW
  have hlt := hW.lt
  obtain ⟨p, q, hA0, hV, rfl, hfz, hnd⟩ := hW
  have hA : DataW.TrodAll enc PP W 0 (fun _ => true) true D_law11_SearchNobody.params.toList args.toList ds p := hA0
  have hpar : D_law11_SearchNobody.params = #[T_Sq, T_int] := by kernel_rfl
  rw [hpar] at hA hval
  obtain ⟨v0, v1, d0, d1, p0, p1, rfl, rfl, rfl, h0, h1⟩ := trodAll_two hA
  obtain ⟨rfl, rfl⟩ := trodVars_none hV
  obtain ⟨a0, rfl, hb0, hg0⟩ := sq_of (hval 0 _ _ rfl rfl)
  obtain ⟨a1, rfl, hr1⟩ := int_of (k := .i64) un_int (hval 1 _ _ rfl rfl)
  have S := stheld (W := W) (.tz (tz_of hL) .nil)
  refine (law11_SearchNobody_st S (SearchNobody_true heads11 a0 a1)).mono fun e W' ⟨v, he, hv, hS⟩ => ?_
  subst hv
  have hx := hS.frame
  refine ⟨_, he, post_of_same (pa := p0 ++ p1) (pv := []) hW' (fun _ _ _ => trodAll_cons_mk (shut_bool un_bool _) trodAll_mk0) (fun sp hsp => ?_) (fun _ _ => rfl) (by simp) ((Ext.below hx).frame _) hx.froz (ok_one (by kernel_rfl) rfl (okWide_bool_mk un_bool _))⟩
  rw [hpar]
  refine trodAll_stays (ts := [T_Sq, T_int]) (fun t ht => ?_) hA (fun p hp => (Ext.below hx).same (hlt p (by simpa using hp))) (fun p hp => hsp p (by simpa using hp))
  simp only [List.mem_cons, List.not_mem_nil, or_false] at ht
  rcases ht with rfl | rfl <;> exact ⟨by kernel_rfl, of_decide_eq_true (by kernel_rfl)⟩
/-- a world for the witness: the settled one, the table laid -/
noncomputable def laidWorld (os : Os) : World :=
  { World.holding PP os ⟨#[], #[], []⟩ with heap := (World.holding PP os ⟨#[], #[], []⟩).heap.modify 0 fun
      | .cells _ t frozen => .cells (tzs.map (Value.int .u8)).toArray t frozen
      | o => o }
def argsN : Array Value := #[.agg (Sq.C Sq.z).toArray, .int .i64 0]
theorem laid_met (os : Os) : laidMet PP Rows.searchNobodyRow.laid ((laidWorld os).forCall (fun _ _ => 0) ⟨#[], argsN, []⟩).memory :=
  laidMet_of_run' 8 (by kernel_rfl) (by kernel_rfl)
def ddN (H : Type) : List (DataW H) := [.agg [.agg (List.replicate 16 (.lit (.int .u64 0))), .lit (.int .i64 0)], .lit (.int .i64 0)]
theorem reads (os : Os) {H : Type} (enc : TypeId × Value → H) : ∃ places, DataW.whole enc PP ((laidWorld os).forCall (fun _ _ => 0) ⟨#[], argsN, []⟩).memory D_law11_SearchNobody.params.toList Rows.searchNobodySpec.vars false argsN.toList 8 = some (ddN H, [], places) :=
  ⟨[], by kernel_rfl⟩
theorem lifted (os : Os) (started : os.Started) (H : Type) (enc : TypeId × Value → H) (F : Stop.Interp) :
    ReturnsInHanded {} Tryd.checked os F_law11_SearchNobody .any ((OpenSpec.ofChange Rows.searchNobodySpec).preRow enc PP D_law11_SearchNobody Rows.searchNobodyRow.domain false Rows.searchNobodyRow.laid) (((OpenSpec.ofChange Rows.searchNobodySpec).at F).post enc PP D_law11_SearchNobody false true false false) := by
  obtain ⟨places, hx⟩ := reads os enc
  refine returnsInHanded_of_row (C := Tryd.checked) (s := OpenSpec.ofChange Rows.searchNobodySpec) ownKnob_none started (by kernel_rfl) fn_law11_SearchNobody
    (witness_row_at (enc := enc) (C := Tryd.checked) false (laidWorld os) argsN rfl (by kernel_rfl) (by kernel_rfl) (by kernel_rfl)
      (OpenSpec.preRow_of_cond 8 hx (by kernel_rfl) (fun k hk => by cases hk) (by kernel_rfl) (laid_met os))) ?_
  intro W base args ds gs before hval hW _ _ _ hL _ _
  exact contract H enc W base args ds gs before hval hW hL
theorem said : Rows.SearchNobodySaid :=
  OpenClaim.holds_of_cond F_law11_SearchNobody D_law11_SearchNobody rfl rfl rfl rfl rfl rfl rfl ⟨rfl, rfl, rfl, rfl, rfl⟩ rfl rfl rfl rfl rfl (by kernel_rfl) fn_law11_SearchNobody (by kernel_rfl)
    (of_decide_eq_true (by kernel_rfl)) (by unfold Func.isWrapper; first | (rw [if_pos (by decide +kernel)]; kernel_rfl) | (rw [if_neg (by decide +kernel)]; exact ⟨rfl, rfl⟩))
    (fun os started H enc _ F => by rw [OpenClaim.pre_eq_preRow]; exact lifted os started H enc F)
theorem plain (f : FuncId) (fn : Func) (hf : Tryd.pinned.checked.prog.funcNamed "dictum/dictumlaw11.SearchNobody" = some f) (hfn : Tryd.pinned.checked.prog.funcs[f]? = some fn) :
    false = Tryd.pinned.checked.prog.looks [] ∧ ∀ (j : Nat) t, fn.params[j]? = some t → Tryd.pinned.checked.prog.wantsStandIn t = false := by
  obtain rfl : f = F_law11_SearchNobody := Option.some.inj ((show PP.funcNamed "dictum/dictumlaw11.SearchNobody" = some F_law11_SearchNobody by kernel_rfl).symm.trans hf) |>.symm
  obtain rfl : fn = D_law11_SearchNobody := (Option.some.inj (fn_law11_SearchNobody.symm.trans hfn)).symm
  refine ⟨by kernel_rfl, fun j t ht => ?_⟩
  rw [show D_law11_SearchNobody.params = #[T_Sq, T_int] by kernel_rfl] at ht
  have hm : t ∈ [T_Sq, T_int] := by simpa using Array.mem_of_getElem? ht
  simp only [List.mem_cons, List.not_mem_nil, or_false] at hm
  rcases hm with rfl | rfl
  · exact (show PP.wantsStandIn T_Sq = false by kernel_rfl)
  · exact (show PP.wantsStandIn T_int = false by kernel_rfl)
theorem card : Rows.SearchNobodyCardSaid :=
  Claim7.holds_tied_plain_at .later [] _ _ _ _ said (fun _ h => by cases h) (by kernel_rfl) (fun _ h => by cases h) searchNobody_row_tie rfl ⟨rfl, rfl⟩ (by kernel_rfl) rfl plain (by kernel_rfl)
end LawSearchNobody
end Go.Proofs.YtjjkhjieegmphaaDoor
end
