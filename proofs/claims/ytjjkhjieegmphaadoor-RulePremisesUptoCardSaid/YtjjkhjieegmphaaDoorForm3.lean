/- Tables of formulas (program): what puts rows. -/
import Derived.Test.YtjjkhjieegmphaaDoorForm2
namespace Go.Proofs.YtjjkhjieegmphaaDoor
open Gw Go.RowKit
set_option linter.unusedVariables false
set_option linter.unusedSimpArgs false

def botN : Nd := { Nd.z with kind := 2 }
def impN (a b : Int) : Nd := ⟨5, ⟨#[]⟩, a, b⟩
theorem empty_small : (⟨#[]⟩ : ByteArray).size < 9223372036854775808 := by decide
theorem put_len {N : List Nd} {n : Nd} (h : N.length ≤ 1024) : (putS N n).1.length ≤ 1024 := by
  unfold putS
  split
  · split
    · exact h
    · split
      · exact h
      · simp; omega
  · exact h
/-- the negation of a row -/
def notS (N : List Nd) (a : Int) : List Nd × Int × Int :=
  if hasRow N a = false then (N, 0, 31) else if ¬ (putS N botN).2.2 = 0 then ((putS N botN).1, 0, (putS N botN).2.2) else putS (putS N botN).1 (impN a (putS N botN).2.1)
theorem not_no {N : List Nd} {a : Int} (h : hasRow N a = false) : notS N a = (N, 0, 31) := if_pos h
theorem not_bad {N : List Nd} {a : Int} (h : hasRow N a = true) (h2 : ¬ (putS N botN).2.2 = 0) : notS N a = ((putS N botN).1, 0, (putS N botN).2.2) := by rw [notS, if_neg (by rw [h]; decide), if_pos h2]
theorem not_go {N : List Nd} {a : Int} (h : hasRow N a = true) (h2 : (putS N botN).2.2 = 0) : notS N a = putS (putS N botN).1 (impN a (putS N botN).2.1) := by rw [notS, if_neg (by rw [h]; decide), if_neg (by rw [h2]; simp)]

theorem formula_Table_Bot_ok (w : World) {p : Nat} {N : List Nd} {A : Nat → Prop} (T : TabAt w p N A) (hN : N.length ≤ 1024) : Calls PP F_formula_Table_Bot #[.pointer (some ⟨p, 0, none⟩)] w fun e w' => ∃ v, e = .returned v ∧ (∃ A', v = .tuple #[.int .i64 (putS N botN).2.1, .int .i64 (putS N botN).2.2] ∧ TabAt w' p (putS N botN).1 A' ∧ Chg A w w' ∧ (∀ i, A' i → A i ∨ w.heap.size ≤ i)) := by
  have n_T : ∀ i, A i → A i ∨ w.heap.size ≤ i := fun i e => .inl e
  refine calls_of_wc (n := 9) fn_formula_Table_Bot rfl rfl (by simp) ?_
  have E := Ext.refl w
  refine wc_seq ?_
  refine wc_region ?_
  refine wl_does (does_as_i rfl) (by decide) ?_
  refine wl_does (does_as_i rfl) (by decide) ?_
  refine wl_nil ?_
  refine wc_seq ?_
  refine wc_region ?_
  refine wl_does (does_mv_p rfl) (by decide) ?_
  refine wl_does (does_build bu_Nd (Bld.one rfl rfl (by rw [Nd.len]; decide) (Nd.set_kind _ _) Bld.nil)) (by decide) ?_
  refine wl_call (does_call ca_formula_Table_Put) (by decide) (formula_Table_Put_ok _ botN T (by decide) hN) ?_
  rintro _ w1 ⟨A1, rfl, T2, h1, g1⟩
  have n2 : ∀ i, A1 i → A i ∨ w.heap.size ≤ i := fun i e => (g1 _ e).elim (n_T i) (fun e => .inr (by have := E.size; omega))
  replace E : Chg A w w := E.mono (fun _ _ x => x.elim)
  replace E := E.thenChg h1 (fun i hi e => (n_T i e).elim id (fun q => absurd hi (by omega)))
  replace T := T2; replace n_T := n2; clear T2 n2
  refine wl_does (does_extract rfl rfl) (by decide) ?_
  refine wl_does (does_extract rfl rfl) (by decide) ?_
  refine wl_does (does_as_i rfl) (by decide) ?_
  refine wl_does (does_as_i rfl) (by decide) ?_
  refine wl_nil ?_
  refine wc_ret ?_
  exact ⟨_, (rets2 (retOne_tmp rfl) (retOne_tmp rfl)), A1, rfl, T, E, n_T⟩

theorem formula_Table_Imp_ok (w : World) (a b : Int) {p : Nat} {N : List Nd} {A : Nat → Prop} (T : TabAt w p N A) (hN : N.length ≤ 1024) : Calls PP F_formula_Table_Imp #[.pointer (some ⟨p, 0, none⟩), .int .i64 a, .int .i64 b] w fun e w' => ∃ v, e = .returned v ∧ (∃ A', v = .tuple #[.int .i64 (putS N (impN a b)).2.1, .int .i64 (putS N (impN a b)).2.2] ∧ TabAt w' p (putS N (impN a b)).1 A' ∧ Chg A w w' ∧ (∀ i, A' i → A i ∨ w.heap.size ≤ i)) := by
  have n_T : ∀ i, A i → A i ∨ w.heap.size ≤ i := fun i e => .inl e
  refine calls_of_wc (n := 15) fn_formula_Table_Imp rfl rfl (by simp) ?_
  have E := Ext.refl w
  refine wc_seq ?_
  refine wc_region ?_
  refine wl_does (does_as_i rfl) (by decide) ?_
  refine wl_does (does_as_i rfl) (by decide) ?_
  refine wl_nil ?_
  refine wc_seq ?_
  refine wc_region ?_
  refine wl_does (does_mv_p rfl) (by decide) ?_
  refine wl_does (does_mv_i rfl) (by decide) ?_
  refine wl_does (does_mv_i rfl) (by decide) ?_
  refine wl_does (does_build bu_Nd (Bld.one rfl rfl (by rw [Nd.len]; decide) (Nd.set_kind _ _) (Bld.one rfl rfl (by rw [Nd.len]; decide) (Nd.set_l _ _) (Bld.one rfl rfl (by rw [Nd.len]; decide) (Nd.set_r _ _) Bld.nil)))) (by decide) ?_
  refine wl_call (does_call ca_formula_Table_Put) (by decide) (formula_Table_Put_ok _ (impN a b) T empty_small hN) ?_
  rintro _ w1 ⟨A1, rfl, T2, h1, g1⟩
  have n2 : ∀ i, A1 i → A i ∨ w.heap.size ≤ i := fun i e => (g1 _ e).elim (n_T i) (fun e => .inr (by have := E.size; omega))
  replace E : Chg A w w := E.mono (fun _ _ x => x.elim)
  replace E := E.thenChg h1 (fun i hi e => (n_T i e).elim id (fun q => absurd hi (by omega)))
  replace T := T2; replace n_T := n2; clear T2 n2
  refine wl_does (does_extract rfl rfl) (by decide) ?_
  refine wl_does (does_extract rfl rfl) (by decide) ?_
  refine wl_does (does_as_i rfl) (by decide) ?_
  refine wl_does (does_as_i rfl) (by decide) ?_
  refine wl_nil ?_
  refine wc_ret ?_
  exact ⟨_, (rets2 (retOne_tmp rfl) (retOne_tmp rfl)), A1, rfl, T, E, n_T⟩

theorem formula_Table_Not_ok (w : World) (a : Int) {p : Nat} {N : List Nd} {A : Nat → Prop} (T : TabAt w p N A) (hN : N.length ≤ 1024) : Calls PP F_formula_Table_Not #[.pointer (some ⟨p, 0, none⟩), .int .i64 a] w fun e w' => ∃ v, e = .returned v ∧ (∃ A', v = .tuple #[.int .i64 (notS N a).2.1, .int .i64 (notS N a).2.2] ∧ TabAt w' p (notS N a).1 A' ∧ Chg A w w' ∧ (∀ i, A' i → A i ∨ w.heap.size ≤ i)) := by
  have n_T : ∀ i, A i → A i ∨ w.heap.size ≤ i := fun i e => .inl e
  refine calls_of_wc (n := 31) fn_formula_Table_Not rfl rfl (by simp) ?_
  have E := Ext.refl w
  refine wc_seq ?_
  refine wc_region ?_
  refine wl_does (does_as_i rfl) (by decide) ?_
  refine wl_does (does_as_i rfl) (by decide) ?_
  refine wl_nil ?_
  refine wc_seq ?_
  refine wc_block ?_
  refine wc_seq ?_
  refine wc_region ?_
  refine wl_does (does_mv_p rfl) (by decide) ?_
  refine wl_call (does_call ca_formula_Table_alive) (by decide) (formula_Table_alive_ok _ T) ?_
  rintro _ w1 ⟨rfl, h1⟩
  replace T := T.ext h1
  replace E := E.thenExt h1
  refine wl_does (does_not rfl) (by decide) ?_
  refine wl_does (does_as_b rfl) (by decide) ?_
  refine wl_nil ?_
  refine wc_false rfl ?_
  refine wc_seq ?_
  refine wc_region ?_
  refine wl_does (does_mv_p rfl) (by decide) ?_
  refine wl_does (does_mv_i rfl) (by decide) ?_
  refine wl_call (does_call ca_formula_Table_has) (by decide) (formula_Table_has_ok _ _ T) ?_
  rintro _ w2 ⟨rfl, h2⟩
  replace T := T.ext h2
  replace E := E.thenExt h2
  refine wl_does (does_not rfl) (by decide) ?_
  refine wl_does (does_as_b rfl) (by decide) ?_
  refine wl_nil ?_
  refine wc_if rfl (fun hc2 => ?_) (fun hc2 => ?_)
  all_goals try simp only [decide_eq_true_eq, decide_eq_false_iff_not, Bool.and_eq_true, Bool.or_eq_true, Bool.and_eq_false_iff, Bool.or_eq_false_iff, Bool.not_eq_true', Bool.not_eq_false', Int.not_lt, Int.not_le, ne_eq, Decidable.not_not] at hc2
  · refine wc_seq ?_
    refine wc_region ?_
    refine wl_does (does_as_i rfl) (by decide) ?_
    refine wl_does (does_as_i rfl) (by decide) ?_
    refine wl_nil ?_
    refine wc_ret ?_
    exact ⟨.tuple #[.int .i64 0, .int .i64 31], (rets2 (retOne_tmp rfl) (retOne_tmp rfl)), A, by rw [not_no hc2], by rw [not_no hc2]; exact T, E.mono (fun _ _ x => x.elim), n_T⟩
  refine wc_skip ?_
  refine wc_seq ?_
  refine wc_region ?_
  refine wl_does (does_mv_p rfl) (by decide) ?_
  refine wl_call (does_call ca_formula_Table_Bot) (by decide) (formula_Table_Bot_ok _ T hN) ?_
  rintro _ w3 ⟨A3, rfl, T2, h3, g3⟩
  have n2 : ∀ i, A3 i → A i ∨ w.heap.size ≤ i := fun i e => (g3 _ e).elim (n_T i) (fun e => .inr (by have := E.size; omega))
  replace E : Chg A w w2 := E.mono (fun _ _ x => x.elim)
  replace E := E.thenChg h3 (fun i hi e => (n_T i e).elim id (fun q => absurd hi (by omega)))
  replace T := T2; replace n_T := n2; clear T2 n2
  refine wl_does (does_mv_t rfl) (by decide) ?_
  refine wl_does (does_extract rfl rfl) (by decide) ?_
  refine wl_does (does_extract rfl rfl) (by decide) ?_
  refine wl_does (does_as_i rfl) (by decide) ?_
  refine wl_does (does_as_i rfl) (by decide) ?_
  refine wl_nil ?_
  refine wc_seq ?_
  refine wc_seq ?_
  refine wc_region ?_
  refine wl_does (does_mv_i rfl) (by decide) ?_
  refine wl_does (does_ne rfl rfl) (by decide) ?_
  refine wl_nil ?_
  refine wc_if rfl (fun hc3 => ?_) (fun hc3 => ?_)
  all_goals try simp only [decide_eq_true_eq, decide_eq_false_iff_not, Bool.and_eq_true, Bool.or_eq_true, Bool.and_eq_false_iff, Bool.or_eq_false_iff, Bool.not_eq_true', Bool.not_eq_false', Int.not_lt, Int.not_le, ne_eq, Decidable.not_not] at hc3
  · refine wc_seq ?_
    refine wc_region ?_
    refine wl_does (does_mv_i rfl) (by decide) ?_
    refine wl_does (does_as_i rfl) (by decide) ?_
    refine wl_does (does_as_i rfl) (by decide) ?_
    refine wl_nil ?_
    refine wc_ret ?_
    exact ⟨.tuple #[.int .i64 0, .int .i64 (putS N botN).2.2], (rets2 (retOne_tmp rfl) (retOne_tmp rfl)), A3, by rw [not_bad hc2 hc3], by rw [not_bad hc2 hc3]; exact T, E, n_T⟩
  refine wc_skip ?_
  refine wc_seq ?_
  refine wc_region ?_
  refine wl_does (does_mv_p rfl) (by decide) ?_
  refine wl_does (does_mv_i rfl) (by decide) ?_
  refine wl_does (does_mv_i rfl) (by decide) ?_
  refine wl_call (does_call ca_formula_Table_Imp) (by decide) (formula_Table_Imp_ok _ _ _ T (put_len hN)) ?_
  rintro _ w4 ⟨A4, rfl, T2, h4, g4⟩
  have n2 : ∀ i, A4 i → A i ∨ w.heap.size ≤ i := fun i e => (g4 _ e).elim (n_T i) (fun e => .inr (by have := E.size; omega))
  replace E := E.thenChg h4 (fun i hi e => (n_T i e).elim id (fun q => absurd hi (by omega)))
  replace T := T2; replace n_T := n2; clear T2 n2
  refine wl_does (does_extract rfl rfl) (by decide) ?_
  refine wl_does (does_extract rfl rfl) (by decide) ?_
  refine wl_does (does_as_i rfl) (by decide) ?_
  refine wl_does (does_as_i rfl) (by decide) ?_
  refine wl_nil ?_
  refine wc_ret ?_
  exact ⟨.tuple #[.int .i64 (putS (putS N botN).1 (impN a (putS N botN).2.1)).2.1, .int .i64 (putS (putS N botN).1 (impN a (putS N botN).2.1)).2.2], (rets2 (retOne_tmp rfl) (retOne_tmp rfl)), A4, by rw [not_go hc2 hc3], by rw [not_go hc2 hc3]; exact T, E, n_T⟩

end Go.Proofs.YtjjkhjieegmphaaDoor
