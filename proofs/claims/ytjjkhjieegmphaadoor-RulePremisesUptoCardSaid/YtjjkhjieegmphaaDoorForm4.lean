/- A table that no call made: what it answers. -/
import Derived.Test.YtjjkhjieegmphaaDoorForm3
namespace Go.Proofs.YtjjkhjieegmphaaDoor
open Gw Go.RowKit
set_option linter.unusedVariables false
set_option linter.unusedSimpArgs false

theorem formula_Table_alive_nil (w : World) : Calls PP F_formula_Table_alive #[.pointer none] w fun e w' => ∃ v, e = .returned v ∧ (v = .bool false ∧ Ext w w') := by
  refine calls_of_wc (n := 12) fn_formula_Table_alive rfl rfl (by simp) ?_
  have E := Ext.refl w
  refine wc_seq ?_
  refine wc_region ?_
  refine wl_does (does_as_b rfl) (by decide) ?_
  refine wl_nil ?_
  refine wc_seq ?_
  refine wc_region ?_
  refine wl_does (does_mv_p rfl) (by decide) ?_
  refine wl_does (does_nep0 un_dictum_formula_has rfl rfl) (by decide) ?_
  refine wl_does (does_mv_b rfl) (by decide) ?_
  refine wl_guard (j := 2) (pol := true) rfl rfl rfl (by decide) (fun hg => does_mv_p rfl) (by decide) ?_
  refine wl_guard (j := 2) (pol := true) rfl rfl rfl (by decide) (fun hg => absurd hg (by decide)) (by decide) ?_ (v := .bool false)
  refine wl_guard (j := 2) (pol := true) rfl rfl rfl (by decide) (fun hg => absurd hg (by decide)) (by decide) ?_ (v := .bool false)
  refine wl_guard (j := 2) (pol := true) rfl rfl rfl (by decide) (fun hg => absurd hg (by decide)) (by decide) ?_ (v := .bool false)
  refine wl_guard (j := 2) (pol := true) rfl rfl rfl (by decide) (fun hg => absurd hg (by decide)) (by decide) ?_ (v := .bool false)
  refine wl_does (does_and (x := false) rfl (fun hp => absurd hp (by decide))) (by decide) ?_
  refine wl_does (does_as_b rfl) (by decide) ?_
  refine wl_nil ?_
  refine wc_ret ?_
  exact ⟨_, (rets1 (retOne_tmp rfl)), rfl, E⟩

theorem formula_Table_alive_zero (w : World) {p : Nat} (Bp : Blk w p T_Tab (Tab.C Tab.z)) : Calls PP F_formula_Table_alive #[.pointer (some ⟨p, 0, none⟩)] w fun e w' => ∃ v, e = .returned v ∧ (v = .bool false ∧ Ext w w') := by
  refine calls_of_wc (n := 12) fn_formula_Table_alive rfl rfl (by simp) ?_
  have E := Ext.refl w
  refine wc_seq ?_
  refine wc_region ?_
  refine wl_does (does_as_b rfl) (by decide) ?_
  refine wl_nil ?_
  refine wc_seq ?_
  refine wc_region ?_
  refine wl_does (does_mv_p rfl) (by decide) ?_
  refine wl_does (does_nep0 un_dictum_formula_has rfl rfl) (by decide) ?_
  refine wl_does (does_mv_b rfl) (by decide) ?_
  refine wl_guard (j := 2) (pol := true) rfl rfl rfl (by decide) (fun hg => does_mv_p rfl) (by decide) ?_
  refine wl_guard (j := 2) (pol := true) rfl rfl rfl (by decide) (fun hg => does_nilCheck (gv_yes hg)) (by decide) ?_
  refine wl_guard (j := 2) (pol := true) rfl rfl rfl (by decide) (fun hg => does_fieldAddr fl_Tab_at_ (gv_yes hg) (o' := 1) rfl) (by decide) ?_
  refine wl_guard (j := 2) (pol := true) rfl rfl rfl (by decide) (fun hg => does_load on_M_api_Node_int (gv_yes hg) (Bp.cell (Tab.get_at_ _))) (by decide) ?_
  refine wl_guard (j := 2) (pol := true) rfl rfl rfl (by decide) (fun hg => does_nem0 un_M_api_Node_int (gv_yes hg) rfl) (by decide) ?_
  refine wl_does (does_and rfl (fun hp => (gv_yes (and_1 hp)))) (by decide) ?_
  refine wl_does (does_as_b rfl) (by decide) ?_
  refine wl_nil ?_
  refine wc_ret ?_
  exact ⟨_, (rets1 (retOne_tmp rfl)), rfl, E⟩

/-- a table that no call made: nil, or a struct that nobody filled -/
def Dead (w : World) (a : Option Addr) : Prop := a = none ∨ ∃ p, a = some ⟨p, 0, none⟩ ∧ Blk w p T_Tab (Tab.C Tab.z)
theorem formula_Table_alive_dead (w : World) {a : Option Addr} (D : Dead w a) : Calls PP F_formula_Table_alive #[.pointer a] w fun e w' => ∃ v, e = .returned v ∧ (v = .bool false ∧ Ext w w') := by
  rcases D with rfl | ⟨p, rfl, B⟩
  · exact formula_Table_alive_nil w
  · exact formula_Table_alive_zero w B

theorem formula_Table_Not_dead (w : World) {a : Option Addr} (i : Int) (D : Dead w a) : Calls PP F_formula_Table_Not #[.pointer a, .int .i64 i] w fun e w' => ∃ v, e = .returned v ∧ (v = .tuple #[.int .i64 0, .int .i64 1] ∧ Ext w w') := by
  refine calls_of_wc (n := 31) fn_formula_Table_Not rfl rfl (by simp) ?_
  have E := Ext.refl w
  refine wc_seq ?_
  refine wc_region ?_
  refine wl_does (does_as_i rfl) (by decide) ?_
  refine wl_does (does_as_i rfl) (by decide) ?_
  refine wl_nil ?_
  refine wc_seq ?_
  refine wc_block ?_
  refine wc_seq ?_
  refine wc_region ?_
  refine wl_does (does_mv_p rfl) (by decide) ?_
  refine wl_call (does_call ca_formula_Table_alive) (by decide) (formula_Table_alive_dead _ D) ?_
  rintro _ w1 ⟨rfl, h1⟩
  replace E := E.thenExt h1
  refine wl_does (does_not rfl) (by decide) ?_
  refine wl_does (does_as_b rfl) (by decide) ?_
  refine wl_nil ?_
  refine wc_true rfl ?_
  refine wc_seq ?_
  refine wc_region ?_
  refine wl_does (does_as_i rfl) (by decide) ?_
  refine wl_does (does_as_i rfl) (by decide) ?_
  refine wl_nil ?_
  refine wc_ret ?_
  exact ⟨_, (rets2 (retOne_tmp rfl) (retOne_tmp rfl)), rfl, E⟩

theorem formula_Table_Not_neg_ok (w : World) {p : Nat} {N : List Nd} {A : Nat → Prop} (T : TabAt w p N A) : Calls PP F_formula_Table_Not #[.pointer (some ⟨p, 0, none⟩), .int .i64 (-1)] w fun e w' => ∃ v, e = .returned v ∧ (v = .tuple #[.int .i64 0, .int .i64 31] ∧ Ext w w') := by
  refine calls_of_wc (n := 31) fn_formula_Table_Not rfl rfl (by simp) ?_
  have E := Ext.refl w
  refine wc_seq ?_
  refine wc_region ?_
  refine wl_does (does_as_i rfl) (by decide) ?_
  refine wl_does (does_as_i rfl) (by decide) ?_
  refine wl_nil ?_
  refine wc_seq ?_
  refine wc_block ?_
  refine wc_seq ?_
  refine wc_region ?_
  refine wl_does (does_mv_p rfl) (by decide) ?_
  refine wl_call (does_call ca_formula_Table_alive) (by decide) (formula_Table_alive_ok _ T) ?_
  rintro _ w1 ⟨rfl, h1⟩
  replace T := T.ext h1
  replace E := E.thenExt h1
  refine wl_does (does_not rfl) (by decide) ?_
  refine wl_does (does_as_b rfl) (by decide) ?_
  refine wl_nil ?_
  refine wc_false rfl ?_
  refine wc_seq ?_
  refine wc_region ?_
  refine wl_does (does_mv_p rfl) (by decide) ?_
  refine wl_does (does_mv_i rfl) (by decide) ?_
  refine wl_call (does_call ca_formula_Table_has) (by decide) (formula_Table_has_ok _ _ T) ?_
  rintro _ w2 ⟨rfl, h2⟩
  replace T := T.ext h2
  replace E := E.thenExt h2
  refine wl_does (does_not rfl) (by decide) ?_
  refine wl_does (does_as_b rfl) (by decide) ?_
  refine wl_nil ?_
  refine wc_true (c := _) (congrArg Value.bool (show (!hasRow N (-1)) = true by simp [hasRow])) ?_
  refine wc_seq ?_
  refine wc_region ?_
  refine wl_does (does_as_i rfl) (by decide) ?_
  refine wl_does (does_as_i rfl) (by decide) ?_
  refine wl_nil ?_
  refine wc_ret ?_
  exact ⟨_, (rets2 (retOne_tmp rfl) (retOne_tmp rfl)), rfl, E⟩

end Go.Proofs.YtjjkhjieegmphaaDoor
