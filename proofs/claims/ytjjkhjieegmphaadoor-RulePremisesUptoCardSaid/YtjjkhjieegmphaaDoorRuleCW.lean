/- Chapter 09, the document's functions: the walks. Printed by pp.py, a program of mine. -/
import Derived.Test.YtjjkhjieegmphaaDoorRuleCP
import Derived.Test.YtjjkhjieegmphaaDoorRuleHW
namespace Go.Proofs.YtjjkhjieegmphaaDoor
open Gw Go.RowKit
set_option linter.unusedVariables false
set_option linter.unusedSimpArgs false

theorem law09_rules_st {A : Nat → Prop} {N : Oth} {w : World} {a0 : List Int} {s_0 : SlV} {a1 : List Int} {s_1 : SlV} (S : St A N w w [] [fS 1 IC s_0 a0, fS 1 IC s_1 a1]) {r : Bool} (H : law09_rules.f a0 a1 = some r) :
    Calls PP F_law09_rules #[s_0.v, s_1.v] w fun e w' => ∃ v, e = .returned v ∧ (v = .bool r ∧ St A N w w' [] []) := by
  unfold law09_rules.f at H
  refine calls_of_wc (n := 26) fn_law09_rules rfl rfl (by simp) ?_
  refine wc_seq (wc_region ?_)
  refine wd (does_as_b rfl) ?_
  refine wl_nil ?_
  refine wc_seq (wc_seq (wc_region ?_))
  refine wd (does_mv_l rfl) ?_
  refine wd (does_lenR sl_L_api_Rule rfl (S.rd 0)) ?_
  refine wd (does_mv_l rfl) ?_
  refine wd (does_lenR sl_L_api_Rule rfl (S.rd 1)) ?_
  refine wd (does_ne rfl rfl) ?_
  refine wl_nil ?_
  refine wc_if rfl (fun hc1 => ?_) (fun hc1 => ?_)
  · replace H := if_t hc1 H
    refine wc_seq (wc_region ?_)
    refine wd (does_as_b rfl) ?_
    refine wl_nil ?_
    refine wc_ret ?_
    refine ⟨_, (rets1 (retOne_tmp rfl)), ?_⟩
    replace S : St A N w w [] [] := S.arr [] []
    obtain rfl := Option.some.inj H
    exact ⟨rfl, S⟩
  replace H := if_f hc1 H
  refine wc_skip ?_
  refine wc_seq (wc_seq (wc_region ?_))
  refine wd (does_as_i rfl) ?_
  refine wl_nil ?_
  obtain ⟨o2, e2, Ho2⟩ := bind_ex H
  clear H
  refine wc_cutq [4, 5, 11, 12, 13, 14, 15, 16, 17, 18, 19, 20, 21, 22, 23, 24, 25] (fun fr W => ∃ s2 : Unit, o2 = .inl s2 ∧ St A N w W [] [fS 1 IC s_0 a0, fS 1 IC s_1 a1]) ?_ ?_
  · refine wc_block ?_
    refine wc_loopm (α := Nat × Int × Unit) [4, 5, 11, 12, 13, 14, 15, 16, 17, 18, 19, 20, 21, 22, 23, 24, 25] (fun x fr W => (x.1 : Int) = (a0.length : Int) - x.2.1 ∧ 0 ≤ x.2.1 ∧ forN (fun i s => law09_rules.b0 a1 a0 i) x.1 x.2.1 x.2.2 = some o2 ∧ fr 5 = .int .i64 x.2.1 ∧ St A N w W [] [fS 1 IC s_0 a0, fS 1 IC s_1 a1]) (fun x => x.1) (((a0.length : Int) - 0).toNat, 0, ()) ⟨(by dsimp only; have hle := Int.natCast_nonneg (a0.length); omega), (Int.le_refl _), (by dsimp only; exact e2), rfl, S⟩ ?_
    rintro ⟨m2, i2, _⟩ g2 u2 ⟨hm2, hl2, e2, q2_i, S⟩
    try dsimp only at hm2
    try dsimp only at hl2
    try dsimp only at e2
    try dsimp only at S
    try dsimp only at q2_i
    refine wc_seq (wc_seq (wc_region ?_))
    refine wd (does_mv_i q2_i) ?_
    refine wd (does_mv_l rfl) ?_
    refine wd (does_lenR sl_L_api_Rule rfl (S.rd 0)) ?_
    refine wd (does_lt rfl rfl) ?_
    refine wl_nil ?_
    refine wc_if rfl (fun hc3 => ?_) (fun hc3 => ?_)
    rotate_left
    · refine wc_exit ?_
      have hge : (a0.length : Int) ≤ i2 := Int.not_lt.1 (of_decide_eq_false hc3)
      obtain rfl : m2 = 0 := by omega
      replace e2 := forN_0 e2
      exact ⟨rfl, (((((Dif.self _ _ _).upd rfl _).upd rfl _).upd rfl _).upd rfl _), (), e2, S⟩
    refine wc_skip ?_
    have hlt2 : i2 < (a0.length : Int) := of_decide_eq_true hc3
    obtain ⟨m2, rfl⟩ : ∃ m, m2 = m + 1 := ⟨m2 - 1, by omega⟩
    obtain ⟨q2, H, e2⟩ := forN_s e2
    unfold law09_rules.b0 at H
    try dsimp only at H
    have hb2 := (S.len 0)
    refine wc_seq ?_
    refine wc_block ?_
    refine wc_seq ?_
    refine wc_quiet 8 (Ext u2) hmix (by kernel_rfl) (by kernel_rfl) (Ext.drawn _) ?_
    refine wq_does (fun v K => does_mv_l rfl) ?_
    refine wq_does (fun v K => does_mv_i q2_i) ?_
    refine wq_does (fun v K => does_indexR sl_L_api_Rule rfl rfl ((S.ext K).rd 0) (And.intro (show 0 ≤ i2 by omega) (show i2 < (a0.length : Int) from hlt2)).1 (And.intro (show 0 ≤ i2 by omega) (show i2 < (a0.length : Int) from hlt2)).2) ?_
    refine wq_does (fun v K => does_load on_api_Rule rfl (((S.ext K).rd 0).one (at_some (0 : Int) (And.intro (show 0 ≤ i2 by omega) (show i2 < (a0.length : Int) from hlt2))) rfl)) ?_
    refine wq_does (fun v K => does_mv_l rfl) ?_
    refine wq_does (fun v K => does_mv_i q2_i) ?_
    obtain ⟨hi5, H⟩ := chk_ex H
    refine wq_does (fun v K => does_indexR sl_L_api_Rule rfl rfl ((S.ext K).rd 1) (inb_ex hi5).1 (inb_ex hi5).2) ?_
    refine wq_does (fun v K => does_load on_api_Rule rfl (((S.ext K).rd 1).one (at_some (0 : Int) (inb_ex hi5)) rfl)) ?_
    refine wq_nil fun w6 K => ?_
    replace S := S.ext K
    clear K
    refine wd (does_ne rfl rfl) ?_
    refine wl_nil ?_
    refine wc_if rfl (fun hc7 => ?_) (fun hc7 => ?_)
    · replace H := if_t hc7 H
      refine wc_seq (wc_region ?_)
      refine wd (does_as_b rfl) ?_
      refine wl_nil ?_
      refine wc_ret ?_
      refine ⟨_, (rets1 (retOne_tmp rfl)), ?_⟩
      replace S : St A N w w6 [] [] := S.arr [] []
      obtain rfl := Option.some.inj H
      obtain rfl := e2
      obtain rfl := aft_r Ho2
      exact ⟨rfl, S⟩
    replace H := if_f hc7 H
    refine wc_skip ?_
    refine wc_region ?_
    refine wd (does_mv_i q2_i) ?_
    refine wd (does_addc rfl rfl (c := i2 + 1) rfl (by omega) (by omega)) ?_
    refine wd (does_as_i rfl) ?_
    refine wl_nil ?_
    obtain rfl := Option.some.inj H
    exact ⟨rfl, (((((((((((((((((Dif.self _ _ _).upd rfl _).upd rfl _).upd rfl _).upd rfl _).upd rfl _).upd rfl _).upd rfl _).upd rfl _).upd rfl _).upd rfl _).upd rfl _).upd rfl _).upd rfl _).upd rfl _).upd rfl _).upd rfl _), (m2, i2 + 1, ()), ⟨(by dsimp only; omega), (by dsimp only; omega), e2, rfl, S⟩, by dsimp only; omega⟩
  rintro g8 u9 ⟨s2, rfl, S⟩
  have H := Ho2
  dsimp only [aft] at H
  refine wc_seq (wc_region ?_)
  refine wd (does_as_b rfl) ?_
  refine wl_nil ?_
  refine wc_ret ?_
  refine ⟨_, (rets1 (retOne_tmp rfl)), ?_⟩
  replace S : St A N w u9 [] [] := S.arr [] []
  obtain rfl := Option.some.inj H
  exact ⟨rfl, S⟩
theorem ref03_Ints_st {A : Nat → Prop} {N : Oth} {w : World} {a0 : List Int} {s_0 : SlV} {a1 : List Int} {s_1 : SlV} (S : St A N w w [] [fS 1 IC s_0 a0, fS 1 IC s_1 a1]) {r : Bool} (H : ref03_Ints.f a0 a1 = some r) :
    Calls PP F_ref03_Ints #[s_0.v, s_1.v] w fun e w' => ∃ v, e = .returned v ∧ (v = .bool r ∧ St A N w w' [] []) := by
  unfold ref03_Ints.f at H
  refine calls_of_wc (n := 26) fn_ref03_Ints rfl rfl (by simp) ?_
  refine wc_seq (wc_region ?_)
  refine wd (does_as_b rfl) ?_
  refine wl_nil ?_
  refine wc_seq (wc_seq (wc_region ?_))
  refine wd (does_mv_l rfl) ?_
  refine wd (does_lenR sl_L_int rfl (S.rd 0)) ?_
  refine wd (does_mv_l rfl) ?_
  refine wd (does_lenR sl_L_int rfl (S.rd 1)) ?_
  refine wd (does_ne rfl rfl) ?_
  refine wl_nil ?_
  refine wc_if rfl (fun hc1 => ?_) (fun hc1 => ?_)
  · replace H := if_t hc1 H
    refine wc_seq (wc_region ?_)
    refine wd (does_as_b rfl) ?_
    refine wl_nil ?_
    refine wc_ret ?_
    refine ⟨_, (rets1 (retOne_tmp rfl)), ?_⟩
    replace S : St A N w w [] [] := S.arr [] []
    obtain rfl := Option.some.inj H
    exact ⟨rfl, S⟩
  replace H := if_f hc1 H
  refine wc_skip ?_
  refine wc_seq (wc_seq (wc_region ?_))
  refine wd (does_as_i rfl) ?_
  refine wl_nil ?_
  obtain ⟨o2, e2, Ho2⟩ := bind_ex H
  clear H
  refine wc_cutq [4, 5, 11, 12, 13, 14, 15, 16, 17, 18, 19, 20, 21, 22, 23, 24, 25] (fun fr W => ∃ s2 : Unit, o2 = .inl s2 ∧ St A N w W [] [fS 1 IC s_0 a0, fS 1 IC s_1 a1]) ?_ ?_
  · refine wc_block ?_
    refine wc_loopm (α := Nat × Int × Unit) [4, 5, 11, 12, 13, 14, 15, 16, 17, 18, 19, 20, 21, 22, 23, 24, 25] (fun x fr W => (x.1 : Int) = (a0.length : Int) - x.2.1 ∧ 0 ≤ x.2.1 ∧ forN (fun i s => ref03_Ints.b0 a1 a0 i) x.1 x.2.1 x.2.2 = some o2 ∧ fr 5 = .int .i64 x.2.1 ∧ St A N w W [] [fS 1 IC s_0 a0, fS 1 IC s_1 a1]) (fun x => x.1) (((a0.length : Int) - 0).toNat, 0, ()) ⟨(by dsimp only; have hle := Int.natCast_nonneg (a0.length); omega), (Int.le_refl _), (by dsimp only; exact e2), rfl, S⟩ ?_
    rintro ⟨m2, i2, _⟩ g2 u2 ⟨hm2, hl2, e2, q2_i, S⟩
    try dsimp only at hm2
    try dsimp only at hl2
    try dsimp only at e2
    try dsimp only at S
    try dsimp only at q2_i
    refine wc_seq (wc_seq (wc_region ?_))
    refine wd (does_mv_i q2_i) ?_
    refine wd (does_mv_l rfl) ?_
    refine wd (does_lenR sl_L_int rfl (S.rd 0)) ?_
    refine wd (does_lt rfl rfl) ?_
    refine wl_nil ?_
    refine wc_if rfl (fun hc3 => ?_) (fun hc3 => ?_)
    rotate_left
    · refine wc_exit ?_
      have hge : (a0.length : Int) ≤ i2 := Int.not_lt.1 (of_decide_eq_false hc3)
      obtain rfl : m2 = 0 := by omega
      replace e2 := forN_0 e2
      exact ⟨rfl, (((((Dif.self _ _ _).upd rfl _).upd rfl _).upd rfl _).upd rfl _), (), e2, S⟩
    refine wc_skip ?_
    have hlt2 : i2 < (a0.length : Int) := of_decide_eq_true hc3
    obtain ⟨m2, rfl⟩ : ∃ m, m2 = m + 1 := ⟨m2 - 1, by omega⟩
    obtain ⟨q2, H, e2⟩ := forN_s e2
    unfold ref03_Ints.b0 at H
    try dsimp only at H
    have hb2 := (S.len 0)
    refine wc_seq ?_
    refine wc_block ?_
    refine wc_seq ?_
    refine wc_quiet 8 (Ext u2) hmix (by kernel_rfl) (by kernel_rfl) (Ext.drawn _) ?_
    refine wq_does (fun v K => does_mv_l rfl) ?_
    refine wq_does (fun v K => does_mv_i q2_i) ?_
    refine wq_does (fun v K => does_indexR sl_L_int rfl rfl ((S.ext K).rd 0) (And.intro (show 0 ≤ i2 by omega) (show i2 < (a0.length : Int) from hlt2)).1 (And.intro (show 0 ≤ i2 by omega) (show i2 < (a0.length : Int) from hlt2)).2) ?_
    refine wq_does (fun v K => does_load on_int rfl (((S.ext K).rd 0).one (at_some (0 : Int) (And.intro (show 0 ≤ i2 by omega) (show i2 < (a0.length : Int) from hlt2))) rfl)) ?_
    refine wq_does (fun v K => does_mv_l rfl) ?_
    refine wq_does (fun v K => does_mv_i q2_i) ?_
    obtain ⟨hi5, H⟩ := chk_ex H
    refine wq_does (fun v K => does_indexR sl_L_int rfl rfl ((S.ext K).rd 1) (inb_ex hi5).1 (inb_ex hi5).2) ?_
    refine wq_does (fun v K => does_load on_int rfl (((S.ext K).rd 1).one (at_some (0 : Int) (inb_ex hi5)) rfl)) ?_
    refine wq_nil fun w6 K => ?_
    replace S := S.ext K
    clear K
    refine wd (does_ne rfl rfl) ?_
    refine wl_nil ?_
    refine wc_if rfl (fun hc7 => ?_) (fun hc7 => ?_)
    · replace H := if_t hc7 H
      refine wc_seq (wc_region ?_)
      refine wd (does_as_b rfl) ?_
      refine wl_nil ?_
      refine wc_ret ?_
      refine ⟨_, (rets1 (retOne_tmp rfl)), ?_⟩
      replace S : St A N w w6 [] [] := S.arr [] []
      obtain rfl := Option.some.inj H
      obtain rfl := e2
      obtain rfl := aft_r Ho2
      exact ⟨rfl, S⟩
    replace H := if_f hc7 H
    refine wc_skip ?_
    refine wc_region ?_
    refine wd (does_mv_i q2_i) ?_
    refine wd (does_addc rfl rfl (c := i2 + 1) rfl (by omega) (by omega)) ?_
    refine wd (does_as_i rfl) ?_
    refine wl_nil ?_
    obtain rfl := Option.some.inj H
    exact ⟨rfl, (((((((((((((((((Dif.self _ _ _).upd rfl _).upd rfl _).upd rfl _).upd rfl _).upd rfl _).upd rfl _).upd rfl _).upd rfl _).upd rfl _).upd rfl _).upd rfl _).upd rfl _).upd rfl _).upd rfl _).upd rfl _).upd rfl _), (m2, i2 + 1, ()), ⟨(by dsimp only; omega), (by dsimp only; omega), e2, rfl, S⟩, by dsimp only; omega⟩
  rintro g8 u9 ⟨s2, rfl, S⟩
  have H := Ho2
  dsimp only [aft] at H
  refine wc_seq (wc_region ?_)
  refine wd (does_as_b rfl) ?_
  refine wl_nil ?_
  refine wc_ret ?_
  refine ⟨_, (rets1 (retOne_tmp rfl)), ?_⟩
  replace S : St A N w u9 [] [] := S.arr [] []
  obtain rfl := Option.some.inj H
  exact ⟨rfl, S⟩
theorem ref03_Same_st {A : Nat → Prop} {N : Oth} {w : World} {a0 : List Nd} {s_0 : SlV} {a1 : List Nd} {s_1 : SlV} (S : St A N w w [] [fS 4 Nd.C s_0 a0, fS 4 Nd.C s_1 a1]) {r : Bool} (H : ref03_Same.f a0 a1 = some r) :
    Calls PP F_ref03_Same #[s_0.v, s_1.v] w fun e w' => ∃ v, e = .returned v ∧ (v = .bool r ∧ St A N w w' [] []) := by
  unfold ref03_Same.f at H
  refine calls_of_wc (n := 26) fn_ref03_Same rfl rfl (by simp) ?_
  refine wc_seq (wc_region ?_)
  refine wd (does_as_b rfl) ?_
  refine wl_nil ?_
  refine wc_seq (wc_seq (wc_region ?_))
  refine wd (does_mv_l rfl) ?_
  refine wd (does_lenR sl_L_api_Node rfl (S.rd 0)) ?_
  refine wd (does_mv_l rfl) ?_
  refine wd (does_lenR sl_L_api_Node rfl (S.rd 1)) ?_
  refine wd (does_ne rfl rfl) ?_
  refine wl_nil ?_
  refine wc_if rfl (fun hc1 => ?_) (fun hc1 => ?_)
  · replace H := if_t hc1 H
    refine wc_seq (wc_region ?_)
    refine wd (does_as_b rfl) ?_
    refine wl_nil ?_
    refine wc_ret ?_
    refine ⟨_, (rets1 (retOne_tmp rfl)), ?_⟩
    replace S : St A N w w [] [] := S.arr [] []
    obtain rfl := Option.some.inj H
    exact ⟨rfl, S⟩
  replace H := if_f hc1 H
  refine wc_skip ?_
  refine wc_seq (wc_seq (wc_region ?_))
  refine wd (does_as_i rfl) ?_
  refine wl_nil ?_
  obtain ⟨o2, e2, Ho2⟩ := bind_ex H
  clear H
  refine wc_cutq [4, 5, 11, 12, 13, 14, 15, 16, 17, 18, 19, 20, 21, 22, 23, 24, 25] (fun fr W => ∃ s2 : Unit, o2 = .inl s2 ∧ St A N w W [] [fS 4 Nd.C s_0 a0, fS 4 Nd.C s_1 a1]) ?_ ?_
  · refine wc_block ?_
    refine wc_loopm (α := Nat × Int × Unit) [4, 5, 11, 12, 13, 14, 15, 16, 17, 18, 19, 20, 21, 22, 23, 24, 25] (fun x fr W => (x.1 : Int) = (a0.length : Int) - x.2.1 ∧ 0 ≤ x.2.1 ∧ forN (fun i s => ref03_Same.b0 a1 a0 i) x.1 x.2.1 x.2.2 = some o2 ∧ fr 5 = .int .i64 x.2.1 ∧ St A N w W [] [fS 4 Nd.C s_0 a0, fS 4 Nd.C s_1 a1]) (fun x => x.1) (((a0.length : Int) - 0).toNat, 0, ()) ⟨(by dsimp only; have hle := Int.natCast_nonneg (a0.length); omega), (Int.le_refl _), (by dsimp only; exact e2), rfl, S⟩ ?_
    rintro ⟨m2, i2, _⟩ g2 u2 ⟨hm2, hl2, e2, q2_i, S⟩
    try dsimp only at hm2
    try dsimp only at hl2
    try dsimp only at e2
    try dsimp only at S
    try dsimp only at q2_i
    refine wc_seq (wc_seq (wc_region ?_))
    refine wd (does_mv_i q2_i) ?_
    refine wd (does_mv_l rfl) ?_
    refine wd (does_lenR sl_L_api_Node rfl (S.rd 0)) ?_
    refine wd (does_lt rfl rfl) ?_
    refine wl_nil ?_
    refine wc_if rfl (fun hc3 => ?_) (fun hc3 => ?_)
    rotate_left
    · refine wc_exit ?_
      have hge : (a0.length : Int) ≤ i2 := Int.not_lt.1 (of_decide_eq_false hc3)
      obtain rfl : m2 = 0 := by omega
      replace e2 := forN_0 e2
      exact ⟨rfl, (((((Dif.self _ _ _).upd rfl _).upd rfl _).upd rfl _).upd rfl _), (), e2, S⟩
    refine wc_skip ?_
    have hlt2 : i2 < (a0.length : Int) := of_decide_eq_true hc3
    obtain ⟨m2, rfl⟩ : ∃ m, m2 = m + 1 := ⟨m2 - 1, by omega⟩
    obtain ⟨q2, H, e2⟩ := forN_s e2
    unfold ref03_Same.b0 at H
    try dsimp only at H
    have hb2 := (S.len 0)
    refine wc_seq ?_
    refine wc_block ?_
    refine wc_seq ?_
    refine wc_quiet 8 (Ext u2) hmix (by kernel_rfl) (by kernel_rfl) (Ext.drawn _) ?_
    refine wq_does (fun v K => does_mv_l rfl) ?_
    refine wq_does (fun v K => does_mv_i q2_i) ?_
    refine wq_does (fun v K => does_indexR sl_L_api_Node rfl rfl ((S.ext K).rd 0) (And.intro (show 0 ≤ i2 by omega) (show i2 < (a0.length : Int) from hlt2)).1 (And.intro (show 0 ≤ i2 by omega) (show i2 < (a0.length : Int) from hlt2)).2) ?_
    refine wq_does (fun v K => does_load_agg ag_Nd rfl (((S.ext K).rd 0).at (at_some Nd.z (And.intro (show 0 ≤ i2 by omega) (show i2 < (a0.length : Int) from hlt2)))) (Nd.len _)) ?_
    refine wq_does (fun v K => does_mv_l rfl) ?_
    refine wq_does (fun v K => does_mv_i q2_i) ?_
    obtain ⟨hi5, H⟩ := chk_ex H
    refine wq_does (fun v K => does_indexR sl_L_api_Node rfl rfl ((S.ext K).rd 1) (inb_ex hi5).1 (inb_ex hi5).2) ?_
    refine wq_does (fun v K => does_load_agg ag_Nd rfl (((S.ext K).rd 1).at (at_some Nd.z (inb_ex hi5))) (Nd.len _)) ?_
    refine wq_nil fun w6 K => ?_
    replace S := S.ext K
    clear K
    refine wd (does_nev eg_Nd (eq_Nd _ _) (by decide) rfl rfl) ?_
    refine wl_nil ?_
    refine wc_if rfl (fun hc7 => ?_) (fun hc7 => ?_)
    · replace H := if_t hc7 H
      refine wc_seq (wc_region ?_)
      refine wd (does_as_b rfl) ?_
      refine wl_nil ?_
      refine wc_ret ?_
      refine ⟨_, (rets1 (retOne_tmp rfl)), ?_⟩
      replace S : St A N w w6 [] [] := S.arr [] []
      obtain rfl := Option.some.inj H
      obtain rfl := e2
      obtain rfl := aft_r Ho2
      exact ⟨rfl, S⟩
    replace H := if_f hc7 H
    refine wc_skip ?_
    refine wc_region ?_
    refine wd (does_mv_i q2_i) ?_
    refine wd (does_addc rfl rfl (c := i2 + 1) rfl (by omega) (by omega)) ?_
    refine wd (does_as_i rfl) ?_
    refine wl_nil ?_
    obtain rfl := Option.some.inj H
    exact ⟨rfl, (((((((((((((((((Dif.self _ _ _).upd rfl _).upd rfl _).upd rfl _).upd rfl _).upd rfl _).upd rfl _).upd rfl _).upd rfl _).upd rfl _).upd rfl _).upd rfl _).upd rfl _).upd rfl _).upd rfl _).upd rfl _).upd rfl _), (m2, i2 + 1, ()), ⟨(by dsimp only; omega), (by dsimp only; omega), e2, rfl, S⟩, by dsimp only; omega⟩
  rintro g8 u9 ⟨s2, rfl, S⟩
  have H := Ho2
  dsimp only [aft] at H
  refine wc_seq (wc_region ?_)
  refine wd (does_as_b rfl) ?_
  refine wl_nil ?_
  refine wc_ret ?_
  refine ⟨_, (rets1 (retOne_tmp rfl)), ?_⟩
  replace S : St A N w u9 [] [] := S.arr [] []
  obtain rfl := Option.some.inj H
  exact ⟨rfl, S⟩
theorem ref03_T_Has_st {A : Nat → Prop} {N : Oth} {w : World} {a0 : Tb} {a_0 : Option Addr} {a1 : Int} (S : St A N w w [] [oR a_0 a0]) {r : Bool} (H : ref03_T_Has.f a0 a1 = some r) :
    Calls PP F_ref03_T_Has #[.pointer a_0, .int .i64 a1] w fun e w' => ∃ v, e = .returned v ∧ (v = .bool r ∧ St A N w w' [] []) := by
  unfold ref03_T_Has.f at H
  refine calls_of_wc (n := 16) fn_ref03_T_Has rfl rfl (by simp) ?_
  refine wc_seq (wc_region ?_)
  refine wd (does_as_b rfl) ?_
  refine wl_nil ?_
  refine wc_seq (wc_region ?_)
  refine wd (does_mv_i rfl) ?_
  refine wd (does_ge rfl rfl) ?_
  refine wd (does_mv_b rfl) ?_
  refine wl_guard (j := 2) (pol := true) rfl rfl rfl (by decide) (fun hg => does_mv_i rfl) (by decide) ?_
  refine wl_guard (j := 2) (pol := true) rfl rfl rfl (by decide) (fun hg => does_mv_p rfl) (by decide) ?_
  obtain ⟨ht1, H⟩ := chk_ex H
  obtain ⟨p2, s3, hp4, S⟩ := S.seeR 0 ht1
  replace S : St A N w w [] [oB p2 T_RTab (RTab.C ⟨s3⟩), fS 4 Nd.C s3 (a0.getD []), oR a_0 a0] := S
  refine wl_guard (j := 2) (pol := true) rfl rfl rfl (by decide) (fun hg => does_nilCheck (((gv_yes hg) : _ = Value.pointer a_0).trans (congrArg Value.pointer hp4))) (by decide) ?_
  refine wl_guard (j := 2) (pol := true) rfl rfl rfl (by decide) (fun hg => does_fieldAddr fl_RTab_n (gv_yes hg) (o' := 0) rfl) (by decide) ?_
  refine wl_guard (j := 2) (pol := true) rfl rfl rfl (by decide) (fun hg => does_load on_L_api_Node (gv_yes hg) ((S.blkZ 0).cell (RTab.get_n _))) (by decide) ?_
  refine wl_guard (j := 2) (pol := true) rfl rfl rfl (by decide) (fun hg => does_lenR sl_L_api_Node (gv_yes hg) (S.rd 1)) (by decide) ?_
  refine wl_guard (j := 2) (pol := true) rfl rfl rfl (by decide) (fun hg => does_lt (gv_yes hg) (gv_yes hg)) (by decide) ?_
  refine wd (does_and rfl (fun hp => (gv_yes (and_1 hp)))) ?_
  refine wd (does_as_b rfl) ?_
  replace S : St A N w w [] [oR a_0 a0] := S.zs [2]
  refine wl_nil ?_
  refine wc_ret ?_
  refine ⟨_, (rets1 (retOne_tmp rfl)), ?_⟩
  replace S : St A N w w [] [] := S.arr [] []
  obtain rfl := Option.some.inj H
  exact ⟨rfl, S⟩
theorem ref03_T_Find_st {A : Nat → Prop} {N : Oth} {w : World} {a0 : Tb} {a_0 : Option Addr} {a1 : Nd} (S : St A N w w [] [oR a_0 a0]) {r : Int × Bool} (H : ref03_T_Find.f a0 a1 = some r) :
    Calls PP F_ref03_T_Find #[.pointer a_0, .agg (Nd.C a1).toArray] w fun e w' => ∃ v, e = .returned v ∧ (v = .tuple #[.int .i64 r.1, .bool r.2] ∧ St A N w w' [] []) := by
  unfold ref03_T_Find.f at H
  refine calls_of_wc (n := 26) fn_ref03_T_Find rfl rfl (by simp) ?_
  refine wc_seq (wc_region ?_)
  refine wl_box_agg rfl (by decide) fun b2 w1 hw1 => ?_
  replace S : St A N w w1 [oB b2 T_Nd (Nd.C a1)] [oR a_0 a0] := S.new hw1
  refine wd (does_as_i rfl) ?_
  refine wd (does_as_b rfl) ?_
  refine wl_nil ?_
  refine wc_seq (wc_seq (wc_region ?_))
  refine wd (does_as_i rfl) ?_
  refine wl_nil ?_
  obtain ⟨ht3, H⟩ := chk_ex H
  obtain ⟨o4, e4, Ho4⟩ := bind_ex H
  clear H
  refine wc_cutq [4, 5, 6, 7, 8, 9, 10, 11, 12, 13, 14, 15, 16, 17, 18, 19, 20, 21, 22, 23, 24, 25] (fun fr W => ∃ s4 : Unit, o4 = .inl s4 ∧ St A N w W [oB b2 T_Nd (Nd.C a1)] [oR a_0 a0]) ?_ ?_
  · refine wc_block ?_
    refine wc_loopm (α := Nat × Int × Unit) [4, 5, 6, 7, 8, 9, 10, 11, 12, 13, 14, 15, 16, 17, 18, 19, 20, 21, 22, 23, 24, 25] (fun x fr W => (x.1 : Int) = ((a0.getD []).length : Int) - x.2.1 ∧ 0 ≤ x.2.1 ∧ forN (fun i s => ref03_T_Find.b0 a0 a1 i) x.1 x.2.1 x.2.2 = some o4 ∧ fr 6 = .int .i64 x.2.1 ∧ St A N w W [oB b2 T_Nd (Nd.C a1)] [oR a_0 a0]) (fun x => x.1) ((((a0.getD []).length : Int) - 0).toNat, 0, ()) ⟨(by dsimp only; have hle := Int.natCast_nonneg ((a0.getD []).length); omega), (Int.le_refl _), (by dsimp only; exact e4), rfl, S⟩ ?_
    rintro ⟨m4, i4, _⟩ g4 u4 ⟨hm4, hl4, e4, q4_i, S⟩
    try dsimp only at hm4
    try dsimp only at hl4
    try dsimp only at e4
    try dsimp only at S
    try dsimp only at q4_i
    refine wc_seq (wc_seq (wc_region ?_))
    refine wd (does_mv_i q4_i) ?_
    refine wd (does_mv_p rfl) ?_
    obtain ⟨p5, s6, hp7, S⟩ := S.seeR 0 ht3
    replace S : St A N w u4 [oB b2 T_Nd (Nd.C a1)] [oB p5 T_RTab (RTab.C ⟨s6⟩), fS 4 Nd.C s6 (a0.getD []), oR a_0 a0] := S
    refine wd (does_nilCheck (congrArg Value.pointer hp7)) ?_
    refine wd (does_fieldAddr fl_RTab_n rfl (o' := 0) rfl) ?_
    refine wd (does_load on_L_api_Node rfl ((S.blkZ 0).cell (RTab.get_n _))) ?_
    refine wd (does_lenR sl_L_api_Node rfl (S.rd 1)) ?_
    refine wd (does_lt rfl rfl) ?_
    replace S : St A N w u4 [oB b2 T_Nd (Nd.C a1)] [oR a_0 a0] := S.zs [2]
    refine wl_nil ?_
    refine wc_if rfl (fun hc8 => ?_) (fun hc8 => ?_)
    rotate_left
    · refine wc_exit ?_
      have hge : ((a0.getD []).length : Int) ≤ i4 := Int.not_lt.1 (of_decide_eq_false hc8)
      obtain rfl : m4 = 0 := by omega
      replace e4 := forN_0 e4
      exact ⟨rfl, ((((((((Dif.self _ _ _).upd rfl _).upd rfl _).upd rfl _).upd rfl _).upd rfl _).upd rfl _).upd rfl _), (), e4, S⟩
    refine wc_skip ?_
    have hlt4 : i4 < ((a0.getD []).length : Int) := of_decide_eq_true hc8
    obtain ⟨m4, rfl⟩ : ∃ m, m4 = m + 1 := ⟨m4 - 1, by omega⟩
    obtain ⟨q4, H, e4⟩ := forN_s e4
    unfold ref03_T_Find.b0 at H
    try dsimp only at H
    have hb4 := (S.lenRZ 0)
    refine wc_seq ?_
    refine wc_block ?_
    refine wc_seq ?_
    refine wc_quiet 8 (Ext u4) hmix (by kernel_rfl) (by kernel_rfl) (Ext.drawn _) ?_
    refine wq_does (fun v K => does_mv_p rfl) ?_
    obtain ⟨p9, s10, hp11, S⟩ := S.seeR 0 ht3
    replace S : St A N w u4 [oB b2 T_Nd (Nd.C a1)] [oB p9 T_RTab (RTab.C ⟨s10⟩), fS 4 Nd.C s10 (a0.getD []), oR a_0 a0] := S
    refine wq_does (fun v K => does_nilCheck (congrArg Value.pointer hp11)) ?_
    refine wq_does (fun v K => does_fieldAddr fl_RTab_n rfl (o' := 0) rfl) ?_
    refine wq_does (fun v K => does_load on_L_api_Node rfl (((S.ext K).blkZ 0).cell (RTab.get_n _))) ?_
    refine wq_does (fun v K => does_mv_i q4_i) ?_
    refine wq_does (fun v K => does_indexR sl_L_api_Node rfl rfl ((S.ext K).rd 1) (And.intro (show 0 ≤ i4 by omega) (show i4 < ((a0.getD []).length : Int) from hlt4)).1 (And.intro (show 0 ≤ i4 by omega) (show i4 < ((a0.getD []).length : Int) from hlt4)).2) ?_
    refine wq_does (fun v K => does_load_agg ag_Nd rfl (((S.ext K).rd 1).at (at_some Nd.z (And.intro (show 0 ≤ i4 by omega) (show i4 < ((a0.getD []).length : Int) from hlt4)))) (Nd.len _)) ?_
    refine wq_does (fun v K => does_load_agg ag_Nd rfl (((S.ext K).blk 0).all _ (Nd.len _)) (Nd.len _)) ?_
    refine wq_nil fun w13 K => ?_
    replace S := S.ext K
    clear K
    refine wd (does_eqv eg_Nd (eq_Nd _ _) (by decide) rfl rfl) ?_
    replace S : St A N w w13 [oB b2 T_Nd (Nd.C a1)] [oR a_0 a0] := S.zs [2]
    refine wl_nil ?_
    refine wc_if rfl (fun hc14 => ?_) (fun hc14 => ?_)
    · replace H := if_t hc14 H
      refine wc_seq (wc_region ?_)
      refine wd (does_mv_i q4_i) ?_
      refine wd (does_as_i rfl) ?_
      refine wd (does_as_b rfl) ?_
      refine wl_nil ?_
      refine wc_ret ?_
      refine ⟨_, (rets2 (retOne_tmp rfl) (retOne_tmp rfl)), ?_⟩
      replace S : St A N w w13 [] [] := S.arr [] []
      obtain rfl := Option.some.inj H
      obtain rfl := e4
      obtain rfl := aft_r Ho4
      exact ⟨rfl, S⟩
    replace H := if_f hc14 H
    refine wc_skip ?_
    refine wc_region ?_
    refine wd (does_mv_i q4_i) ?_
    refine wd (does_addc rfl rfl (c := i4 + 1) rfl (by omega) (by omega)) ?_
    refine wd (does_as_i rfl) ?_
    refine wl_nil ?_
    obtain rfl := Option.some.inj H
    exact ⟨rfl, ((((((((((((((((((((Dif.self _ _ _).upd rfl _).upd rfl _).upd rfl _).upd rfl _).upd rfl _).upd rfl _).upd rfl _).upd rfl _).upd rfl _).upd rfl _).upd rfl _).upd rfl _).upd rfl _).upd rfl _).upd rfl _).upd rfl _).upd rfl _).upd rfl _).upd rfl _), (m4, i4 + 1, ()), ⟨(by dsimp only; omega), (by dsimp only; omega), e4, rfl, S⟩, by dsimp only; omega⟩
  rintro g15 u16 ⟨s4, rfl, S⟩
  have H := Ho4
  dsimp only [aft] at H
  refine wc_seq (wc_region ?_)
  refine wd (does_as_i rfl) ?_
  refine wd (does_as_b rfl) ?_
  refine wl_nil ?_
  refine wc_ret ?_
  refine ⟨_, (rets2 (retOne_tmp rfl) (retOne_tmp rfl)), ?_⟩
  replace S : St A N w u16 [] [] := S.arr [] []
  obtain rfl := Option.some.inj H
  exact ⟨rfl, S⟩
theorem ref03_T_Put_st {A : Nat → Prop} {N : Oth} {w : World} {a0 : Tb} {a_0 : Option Addr} {a1 : Nd} (S : St A N w w [oR a_0 a0] []) {r : Tb × Int × Int} (H : ref03_T_Put.f a0 a1 = some r) :
    Calls PP F_ref03_T_Put #[.pointer a_0, .agg (Nd.C a1).toArray] w fun e w' => ∃ v, e = .returned v ∧ (v = .tuple #[.int .i64 r.2.1, .int .i64 r.2.2] ∧ St A N w w' [oR a_0 r.1] []) := by
  unfold ref03_T_Put.f at H
  refine calls_of_wc (n := 90) fn_ref03_T_Put rfl rfl (by simp) ?_
  refine wc_seq (wc_region ?_)
  refine wl_box_agg rfl (by decide) fun b2 w1 hw1 => ?_
  replace S : St A N w w1 [oB b2 T_Nd (Nd.C a1), oR a_0 a0] [] := S.new hw1
  refine wd (does_as_i rfl) ?_
  refine wd (does_as_i rfl) ?_
  refine wl_nil ?_
  refine wc_seq (wc_seq (wc_region ?_))
  refine wd (does_fieldAddr fl_Nd_kind rfl (o' := 0) rfl) ?_
  refine wd (does_load on_api_Kind rfl ((S.blk 0).cell (Nd.get_kind _))) ?_
  refine wl_nil ?_
  obtain ⟨o3, e3, Ho3⟩ := bind_ex H
  replace H := e3; clear e3
  refine wc_cutq [4, 5, 10, 11, 12, 13, 14, 15, 16, 17, 18, 19, 20, 21, 22, 23, 24, 25, 26, 27, 28, 29, 30, 31, 32, 33, 34, 35, 36, 37, 38, 39, 40, 41, 42, 43, 44, 45, 46, 47, 48, 49, 50, 51, 52, 53, 54, 55, 56, 57, 58, 59] (fun fr W => ∃ s3 : Tb, o3 = .inl s3 ∧ St A N w W [oB b2 T_Nd (Nd.C a1), oR a_0 s3] []) ?_ ?_
  · refine wc_block ?_
    refine wc_seq (wc_region ?_)
    refine wd (does_eq rfl rfl) ?_
    refine wd (does_as_b rfl) ?_
    refine wl_nil ?_
    refine wc_if rfl (fun hc4 => ?_) (fun hc4 => ?_)
    · replace H := if_t hc4 H
      refine wc_seq (wc_seq (wc_region ?_))
      refine wd (does_fieldAddr fl_Nd_l rfl (o' := 2) rfl) ?_
      refine wd (does_load on_int rfl ((S.blk 0).cell (Nd.get_l _))) ?_
      refine wd (does_ne rfl rfl) ?_
      refine wd (does_mv_b rfl) ?_
      refine wl_guard (j := 3) (pol := false) rfl rfl rfl (by decide) (fun hg => does_fieldAddr fl_Nd_r rfl (o' := 3) rfl) (by decide) ?_
      refine wl_guard (j := 3) (pol := false) rfl rfl rfl (by decide) (fun hg => does_load on_int (gv_yes hg) ((S.blk 0).cell (Nd.get_r _))) (by decide) ?_
      refine wl_guard (j := 3) (pol := false) rfl rfl rfl (by decide) (fun hg => does_ne (gv_yes hg) rfl) (by decide) ?_
      refine wd (does_or rfl (fun hp => (gv_yes (and_1 hp)))) ?_
      refine wl_nil ?_
      refine wc_if rfl (fun hc5 => ?_) (fun hc5 => ?_)
      · replace H := if_t hc5 H
        refine wc_seq (wc_region ?_)
        refine wd (does_as_i rfl) ?_
        refine wd (does_as_i rfl) ?_
        refine wl_nil ?_
        refine wc_ret ?_
        refine ⟨_, (rets2 (retOne_tmp rfl) (retOne_tmp rfl)), ?_⟩
        replace S : St A N w w1 [oR a_0 a0] [] := S.arr [1] []
        obtain rfl := Option.some.inj H
        obtain rfl := aft_r Ho3
        exact ⟨rfl, S⟩
      replace H := if_f hc5 H
      refine wc_skip ?_
      refine wc_seq (wc_region ?_)
      refine wd (does_fieldAddr fl_Nd_name rfl (o' := 1) rfl) ?_
      refine wd (does_load on_string rfl ((S.blk 0).cell (Nd.get_name _))) ?_
      obtain ⟨r6, er6, H⟩ := bind_ex H
      obtain ⟨B8, MB8, SB8, back⟩ := S.calln 0 ((.nil))
      refine wl_call (does_call ca_ref03_Word) (by decide) (ref03_Word_st SB8 er6) ?_
      rintro _ w7 ⟨rfl, S2⟩
      replace S : St A N w w7 [oB b2 T_Nd (Nd.C a1), oR a_0 a0] [] := back _ _ _ _ S2 rfl
      clear back S2 SB8
      refine wd (does_not rfl) ?_
      refine wl_nil ?_
      refine wc_if rfl (fun hc9 => ?_) (fun hc9 => ?_)
      · replace H := if_t hc9 H
        refine wc_seq (wc_region ?_)
        refine wd (does_as_i rfl) ?_
        refine wd (does_as_i rfl) ?_
        refine wl_nil ?_
        refine wc_ret ?_
        refine ⟨_, (rets2 (retOne_tmp rfl) (retOne_tmp rfl)), ?_⟩
        replace S : St A N w w7 [oR a_0 a0] [] := S.arr [1] []
        obtain rfl := Option.some.inj H
        obtain rfl := aft_r Ho3
        exact ⟨rfl, S⟩
      replace H := if_f hc9 H
      refine wc_skip ?_
      obtain rfl := Option.some.inj H
      exact ⟨rfl, (((((((((((((((Dif.refl _ _).upd rfl _).upd rfl _).upd rfl _).upd rfl _).upd rfl _).upd rfl _).upd rfl _).upd rfl _).upd rfl _).upd rfl _).upd rfl _).upd rfl _).upd rfl _).upd rfl _), a0, rfl, S⟩
    · replace H := if_f hc4 H
      refine wc_seq (wc_region ?_)
      refine wd (does_eq rfl rfl) ?_
      refine wd (does_as_b rfl) ?_
      refine wl_nil ?_
      refine wc_if rfl (fun hc10 => ?_) (fun hc10 => ?_)
      · replace H := if_t hc10 H
        refine wc_seq (wc_region ?_)
        refine wd (does_fieldAddr fl_Nd_name rfl (o' := 1) rfl) ?_
        refine wd (does_load on_string rfl ((S.blk 0).cell (Nd.get_name _))) ?_
        refine wd (does_nes rfl rfl) ?_
        refine wd (does_mv_b rfl) ?_
        refine wl_guard (j := 3) (pol := false) rfl rfl rfl (by decide) (fun hg => does_fieldAddr fl_Nd_l rfl (o' := 2) rfl) (by decide) ?_
        refine wl_guard (j := 3) (pol := false) rfl rfl rfl (by decide) (fun hg => does_load on_int (gv_yes hg) ((S.blk 0).cell (Nd.get_l _))) (by decide) ?_
        refine wl_guard (j := 3) (pol := false) rfl rfl rfl (by decide) (fun hg => does_ne (gv_yes hg) rfl) (by decide) ?_
        refine wd (does_or rfl (fun hp => (gv_yes (and_1 hp)))) ?_
        refine wd (does_mv_b rfl) ?_
        refine wl_guard (j := 8) (pol := false) rfl rfl rfl (by decide) (fun hg => does_fieldAddr fl_Nd_r rfl (o' := 3) rfl) (by decide) ?_
        refine wl_guard (j := 8) (pol := false) rfl rfl rfl (by decide) (fun hg => does_load on_int (gv_yes hg) ((S.blk 0).cell (Nd.get_r _))) (by decide) ?_
        refine wl_guard (j := 8) (pol := false) rfl rfl rfl (by decide) (fun hg => does_ne (gv_yes hg) rfl) (by decide) ?_
        refine wd (does_or rfl (fun hp => (gv_yes (and_1 hp)))) ?_
        refine wl_nil ?_
        refine wc_if rfl (fun hc11 => ?_) (fun hc11 => ?_)
        · replace H := if_t hc11 H
          refine wc_seq (wc_region ?_)
          refine wd (does_as_i rfl) ?_
          refine wd (does_as_i rfl) ?_
          refine wl_nil ?_
          refine wc_ret ?_
          refine ⟨_, (rets2 (retOne_tmp rfl) (retOne_tmp rfl)), ?_⟩
          replace S : St A N w w1 [oR a_0 a0] [] := S.arr [1] []
          obtain rfl := Option.some.inj H
          obtain rfl := aft_r Ho3
          exact ⟨rfl, S⟩
        replace H := if_f hc11 H
        refine wc_skip ?_
        obtain rfl := Option.some.inj H
        exact ⟨rfl, ((((((((((((((((((Dif.refl _ _).upd rfl _).upd rfl _).upd rfl _).upd rfl _).upd rfl _).upd rfl _).upd rfl _).upd rfl _).upd rfl _).upd rfl _).upd rfl _).upd rfl _).upd rfl _).upd rfl _).upd rfl _).upd rfl _).upd rfl _), a0, rfl, S⟩
      · replace H := if_f hc10 H
        refine wc_seq (wc_seq (wc_region ?_))
        refine wd (does_eq rfl rfl) ?_
        refine wd (does_as_b rfl) ?_
        refine wl_nil ?_
        obtain ⟨o12, e12, Ho12⟩ := bind_ex H
        replace H := e12; clear e12
        refine wc_cutq [39, 41, 42] (fun fr W => fr 39 = .bool o12 ∧ St A N w W [oB b2 T_Nd (Nd.C a1), oR a_0 a0] []) ?_ ?_
        · refine wc_if rfl (fun hc13 => ?_) (fun hc13 => ?_)
          · replace H := if_t hc13 H
            refine wc_skip ?_
            obtain rfl := Option.some.inj H
            exact ⟨rfl, (Dif.refl _ _), rfl, S⟩
          · replace H := if_f hc13 H
            refine wc_seq (wc_region ?_)
            refine wd (does_eq rfl rfl) ?_
            refine wd (does_as_b rfl) ?_
            refine wl_nil ?_
            refine wc_if rfl (fun hc14 => ?_) (fun hc14 => ?_)
            · replace H := if_t hc14 H
              refine wc_skip ?_
              obtain rfl := Option.some.inj H
              exact ⟨rfl, (((Dif.refl _ _).upd rfl _).upd rfl _), rfl, S⟩
            · replace H := if_f hc14 H
              refine wc_region ?_
              refine wd (does_eq rfl rfl) ?_
              refine wd (does_as_b rfl) ?_
              refine wl_nil ?_
              obtain rfl := Option.some.inj H
              exact ⟨rfl, (((((Dif.refl _ _).upd rfl _).upd rfl _).upd rfl _).upd rfl _), rfl, S⟩
        rintro g15 u16 ⟨p12_39, S⟩
        have H := Ho12
        refine wc_if p12_39 (fun hc17 => ?_) (fun hc17 => ?_)
        rotate_left
        · replace H := if_f hc17 H
          refine wc_seq (wc_region ?_)
          refine wd (does_as_i rfl) ?_
          refine wd (does_as_i rfl) ?_
          refine wl_nil ?_
          refine wc_ret ?_
          refine ⟨_, (rets2 (retOne_tmp rfl) (retOne_tmp rfl)), ?_⟩
          replace S : St A N w u16 [oR a_0 a0] [] := S.arr [1] []
          obtain rfl := Option.some.inj H
          obtain rfl := aft_r Ho3
          exact ⟨rfl, S⟩
        replace H := if_t hc17 H
        refine wc_seq (wc_region ?_)
        refine wd (does_fieldAddr fl_Nd_name rfl (o' := 1) rfl) ?_
        refine wd (does_load on_string rfl ((S.blk 0).cell (Nd.get_name _))) ?_
        refine wd (does_nes rfl rfl) ?_
        refine wd (does_mv_b rfl) ?_
        refine wl_guard (j := 3) (pol := false) rfl rfl rfl (by decide) (fun hg => does_mv_p rfl) (by decide) ?_
        refine wl_guard (j := 3) (pol := false) rfl rfl rfl (by decide) (fun hg => does_fieldAddr fl_Nd_l rfl (o' := 2) rfl) (by decide) ?_
        refine wl_guard (j := 3) (pol := false) rfl rfl rfl (by decide) (fun hg => does_load on_int (gv_yes hg) ((S.blk 0).cell (Nd.get_l _))) (by decide) ?_
        obtain ⟨r18, er18, H⟩ := bind_ex H
        refine wl_gcall (j := 3) (pol := false) rfl rfl rfl (by decide) (fun hg => does_callg ca_ref03_T_Has (cons2 (gv_yes hg) (cons2 (gv_yes hg) rfl))) (by decide) (fun hg => (have ⟨M, SS⟩ := S.lend ((.o 1 rfl .nil)); quiet (ref03_T_Has_st SS (if_t (by simpa using hg) er18)) (fun v w' h => ⟨h.1, _, _, h.2⟩))) fun w19 hw19 => ?_
        replace S := S.ext hw19
        refine wl_guard (j := 3) (pol := false) rfl rfl rfl (by decide) (fun hg => does_not (gv_yes hg)) (by decide) ?_
        refine wd (does_or rfl (fun hp => (gv_yes (and_1 hp)))) ?_
        refine wd (does_mv_b rfl) ?_
        refine wl_guard (j := 10) (pol := false) rfl rfl rfl (by decide) (fun hg => does_mv_p rfl) (by decide) ?_
        refine wl_guard (j := 10) (pol := false) rfl rfl rfl (by decide) (fun hg => does_fieldAddr fl_Nd_r rfl (o' := 3) rfl) (by decide) ?_
        refine wl_guard (j := 10) (pol := false) rfl rfl rfl (by decide) (fun hg => does_load on_int (gv_yes hg) ((S.blk 0).cell (Nd.get_r _))) (by decide) ?_
        obtain ⟨r20, er20, H⟩ := bind_ex H
        refine wl_gcall (j := 10) (pol := false) rfl rfl rfl (by decide) (fun hg => does_callg ca_ref03_T_Has (cons2 (gv_yes hg) (cons2 (gv_yes hg) rfl))) (by decide) (fun hg => (have ⟨M, SS⟩ := S.lend ((.o 1 rfl .nil)); quiet (ref03_T_Has_st SS (if_t (by simpa using hg) er20)) (fun v w' h => ⟨h.1, _, _, h.2⟩))) fun w21 hw21 => ?_
        replace S := S.ext hw21
        refine wl_guard (j := 10) (pol := false) rfl rfl rfl (by decide) (fun hg => does_not (gv_yes hg)) (by decide) ?_
        refine wd (does_or rfl (fun hp => (gv_yes (and_1 hp)))) ?_
        refine wl_nil ?_
        refine wc_if rfl (fun hc22 => ?_) (fun hc22 => ?_)
        · replace H := if_t hc22 H
          refine wc_seq (wc_region ?_)
          refine wd (does_as_i rfl) ?_
          refine wd (does_as_i rfl) ?_
          refine wl_nil ?_
          refine wc_ret ?_
          refine ⟨_, (rets2 (retOne_tmp rfl) (retOne_tmp rfl)), ?_⟩
          replace S : St A N w w21 [oR a_0 a0] [] := S.arr [1] []
          obtain rfl := Option.some.inj H
          obtain rfl := aft_r Ho3
          exact ⟨rfl, S⟩
        replace H := if_f hc22 H
        refine wc_skip ?_
        obtain rfl := Option.some.inj H
        exact ⟨rfl, (((((((((((((((((((((((((Dif.refl _ _).upd rfl _).upd rfl _).upd rfl _).upd rfl _).upd rfl _).upd rfl _).mask rfl _).upd rfl _).upd rfl _).upd rfl _).upd rfl _).upd rfl _).upd rfl _).upd rfl _).upd rfl _).upd rfl _).upd rfl _).upd rfl _).upd rfl _).upd rfl _).upd rfl _).upd rfl _).upd rfl _).upd rfl _), a0, rfl, S⟩
  rintro g23 u24 ⟨s3, rfl, S⟩
  have H := Ho3
  dsimp only [aft] at H
  refine wc_seq (wc_region ?_)
  refine wd (does_mv_p rfl) ?_
  refine wd (does_load_agg ag_Nd rfl ((S.blk 0).all _ (Nd.len _)) (Nd.len _)) ?_
  obtain ⟨r25, er25, H⟩ := bind_ex H
  obtain ⟨B27, MB27, SB27, back⟩ := S.calln 0 ((.o 1 rfl .nil))
  refine wl_call (does_call ca_ref03_T_Find) (by decide) (ref03_T_Find_st SB27 er25) ?_
  rintro _ w26 ⟨rfl, S2⟩
  replace S : St A N w w26 [oB b2 T_Nd (Nd.C a1), oR a_0 s3] [] := back _ _ _ _ S2 rfl
  clear back S2 SB27
  refine wd (does_mv_t rfl) ?_
  refine wd (does_extract rfl rfl) ?_
  refine wd (does_extract rfl rfl) ?_
  refine wd (does_as_i rfl) ?_
  refine wd (does_as_b rfl) ?_
  refine wl_nil ?_
  refine wc_seq (wc_seq (wc_region ?_))
  refine wd (does_mv_b rfl) ?_
  refine wl_nil ?_
  refine wc_if rfl (fun hc28 => ?_) (fun hc28 => ?_)
  · replace H := if_t hc28 H
    refine wc_seq (wc_region ?_)
    refine wd (does_mv_i rfl) ?_
    refine wd (does_as_i rfl) ?_
    refine wd (does_as_i rfl) ?_
    refine wl_nil ?_
    refine wc_ret ?_
    refine ⟨_, (rets2 (retOne_tmp rfl) (retOne_tmp rfl)), ?_⟩
    replace S : St A N w w26 [oR a_0 s3] [] := S.arr [1] []
    obtain rfl := Option.some.inj H
    exact ⟨rfl, S⟩
  replace H := if_f hc28 H
  refine wc_skip ?_
  refine wc_seq (wc_seq (wc_region ?_))
  refine wd (does_mv_p rfl) ?_
  obtain ⟨ht29, H⟩ := chk_ex H
  obtain ⟨p30, s31, hp32, S⟩ := S.openR 1 ht29
  replace S : St A N w w26 [oB p30 T_RTab (RTab.C ⟨s31⟩), oS T_Nd 4 Nd.C s31 (s3.getD []), oB b2 T_Nd (Nd.C a1)] [] := S
  refine wd (does_nilCheck (congrArg Value.pointer hp32)) ?_
  refine wd (does_fieldAddr fl_RTab_n rfl (o' := 0) rfl) ?_
  refine wd (does_load on_L_api_Node rfl ((S.blk 0).cell (RTab.get_n _))) ?_
  refine wd (does_lenR sl_L_api_Node rfl (S.rdO 1)) ?_
  refine wd (does_ge rfl rfl) ?_
  replace S : St A N w w26 [oS T_Nd 4 Nd.C s31 (s3.getD []), oB p30 T_RTab (RTab.C ⟨s31⟩), oB b2 T_Nd (Nd.C a1)] [] := S.front 1
  replace S : St A N w w26 [oB p30 T_RTab (RTab.C ⟨s31⟩), oS T_Nd 4 Nd.C s31 (s3.getD []), oB b2 T_Nd (Nd.C a1)] [] := S.front 1
  replace S : St A N w w26 [oR a_0 (some (s3.getD [])), oB b2 T_Nd (Nd.C a1)] [] := S.shutR hp32
  refine wl_nil ?_
  refine wc_if rfl (fun hc33 => ?_) (fun hc33 => ?_)
  · replace H := if_t hc33 H
    refine wc_seq (wc_region ?_)
    refine wd (does_as_i rfl) ?_
    refine wd (does_as_i rfl) ?_
    refine wl_nil ?_
    refine wc_ret ?_
    refine ⟨_, (rets2 (retOne_tmp rfl) (retOne_tmp rfl)), ?_⟩
    replace S : St A N w w26 [oR a_0 (some (s3.getD []))] [] := S.arr [0] []
    obtain rfl := Option.some.inj H
    exact ⟨rfl, S⟩
  replace H := if_f hc33 H
  refine wc_skip ?_
  refine wc_seq ?_
  obtain ⟨p34, s35, hp36, S⟩ := S.openR 0 rfl
  replace S : St A N w w26 [oB p34 T_RTab (RTab.C ⟨s35⟩), oS T_Nd 4 Nd.C s35 (s3.getD []), oB b2 T_Nd (Nd.C a1)] [] := S
  obtain ⟨ha37, H⟩ := chk_ex H
  have ha37 := of_decide_eq_true ha37
  have hSO := S.sl 1
  have hSlt := hSO.lt
  have SH : ∀ v, Chg s35.fp w26 v → St A (N.or s35.fp) w v [oB p34 T_RTab (RTab.C ⟨s35⟩), oB b2 T_Nd (Nd.C a1)] [] := fun v hc => S.away 1 (hc := hc)
  refine wc_draw 8 ⟨fun L v => Chg s35.fp w26 v ∧ (L 7 = false → Ext w26 v), fun L a b => Chg s35.fp a b ∧ (L 7 = true → Ext a b), fun i v u => match i with
    | 0 => v = Value.pointer a_0
    | 1 => v = Value.pointer a_0
    | 2 => v = Value.pointer (some ⟨p34, 0, none⟩)
    | 3 => v = Value.pointer (some ⟨p34, 0, none⟩)
    | 4 => v = s35.v
    | 5 => v = Value.agg (Nd.C a1).toArray
    | 6 => ∃ b sl, v = SlV.v sl ∧ sl = ⟨some ⟨b, 0, none⟩, 1, 1⟩ ∧ Blk u b T_Nd (Nd.C a1) ∧ ¬ s35.fp b
    | 7 => ∃ s', v = SlV.v s' ∧ Own u 0 T_Nd 4 s' (((s3.getD []) ++ [a1]).map Nd.C) ∧ ∀ i, s'.fp i → s35.fp i ∨ w26.heap.size ≤ i
    | _ => True⟩ hmix (by kernel_rfl) ?_ ⟨(Ext.drawn _).mono (fun _ _ x => x.elim), fun _ => Ext.drawn _⟩ ⟨?_, ?_, ?_, ?_, ?_, ?_, ?_, ?_, trivial⟩ ?_
  · intro L i v a b hLi hle hv
    match i, hLi, hv with
    | 0, _, hv => exact hv
    | 1, _, hv => exact hv
    | 2, _, hv => exact hv
    | 3, _, hv => exact hv
    | 4, _, hv => exact hv
    | 5, _, hv => exact hv
    | 6, _, ⟨b, sl, e1, e2, hb, hn⟩ => exact ⟨b, sl, e1, e2, hb.chg hle.1 hn, hn⟩
    | 7, hLi, ⟨s', e1, ho, hg⟩ => exact ⟨s', e1, ho.ext (hle.2 hLi), hg⟩
    | _ + 8, _, _ => exact trivial
  · rintro L g v hL hT 
    refine wl_does (does_mv_p rfl) (by decide) (wl_nil (ob ⟨hT.1, fun h => hT.2 h⟩ ⟨Chg.refl _ _, fun _ => Ext.refl _⟩ rfl))
  · rintro L g v hL hT 
    refine wl_does (does_mv_p rfl) (by decide) (wl_nil (ob ⟨hT.1, fun h => hT.2 h⟩ ⟨Chg.refl _ _, fun _ => Ext.refl _⟩ rfl))
  · rintro L g v hL hT hv1
    refine wl_does (does_nilCheck ((hv1 : _ = Value.pointer a_0).trans (congrArg Value.pointer hp36))) (by decide) (wl_nil (ob ⟨hT.1, fun h => hT.2 h⟩ ⟨Chg.refl _ _, fun _ => Ext.refl _⟩ rfl))
  · rintro L g v hL hT hv2
    refine wl_does (does_fieldAddr fl_RTab_n hv2 (o' := 0) rfl) (by decide) (wl_nil (ob ⟨hT.1, fun h => hT.2 h⟩ ⟨Chg.refl _ _, fun _ => Ext.refl _⟩ rfl))
  · rintro L g v hL hT hv3
    refine wl_does (does_load on_L_api_Node hv3 (((SH v hT.1).blk 0).cell (RTab.get_n _))) (by decide) (wl_nil (ob ⟨hT.1, fun h => hT.2 h⟩ ⟨Chg.refl _ _, fun _ => Ext.refl _⟩ rfl))
  · rintro L g v hL hT 
    refine wl_does (does_load_agg ag_Nd rfl (((SH v hT.1).blk 1).all _ (Nd.len _)) (Nd.len _)) (by decide) (wl_nil (ob ⟨hT.1, fun h => hT.2 h⟩ ⟨Chg.refl _ _, fun _ => Ext.refl _⟩ rfl))
  · rintro L g v hL hT hv5
    refine wl_lit1 sl_L_api_Node el_Nd.zero hv5 rfl (Nd.len _) (by decide) (by decide) fun b v' sl hn hq => wl_nil (ob ⟨hT.1.thenExt hn.ext, fun h => (hT.2 h).trans hn.ext⟩ ⟨hn.ext.mono (fun _ _ x => x.elim), fun _ => hn.ext⟩ ⟨b, sl, rfl, hq, hn.blk, fun e => by have := hSlt _ e; have := hn.at_; have := hT.1.size; omega⟩)
  · rintro L g v hL hT hv4 ⟨b, sl, hv6, hq, hb, hnb⟩
    refine wl_push (C := Nd.C) sl_L_api_Node el_Nd hv4 hv6 (hSO.ext (hT.2 hL)) hb hq (Nd.len _) (Nd.one _) ha37 (by omega) (by decide) fun s' v' ho hc hg => wl_nil (ob ⟨hT.1.trans hc, fun h => (by cases h)⟩ ⟨hc, fun h => (by rw [hL] at h; cases h)⟩ ⟨s', rfl, ho, fun i e => (hg i e).imp id (fun h => Nat.le_trans hT.1.size h)⟩)
  rintro L g w38 hLm hT hv40_0 hv40_1 hv40_2 hv40_3 hv40_4 hv40_5 ⟨b, sl, hv40_6, hq, hb, hnb⟩ ⟨s39, hv40_7, O, gO⟩
  replace S : St A N w w38 [oS T_Nd 4 Nd.C s39 ((s3.getD []) ++ [a1]), oB p34 T_RTab (RTab.C ⟨s35⟩), oB b2 T_Nd (Nd.C a1)] [] := S.push 1 O (by rw [List.length_append, List.length_singleton]; omega) hT.1 gO
  clear O gO SH hSO hSlt
  refine wd (does_nilCheck ((hv40_0 : _ = Value.pointer a_0).trans (congrArg Value.pointer hp36))) ?_
  refine wd (does_fieldAddr fl_RTab_n rfl (o' := 0) rfl) ?_
  refine wl_store on_L_api_Node rfl hv40_7 (S.blk 1) (by rw [RTab.len]; decide) (SlV.one _ _ rfl) (RTab.set_n _ _) fun w41 B hw41 zw41 => ?_
  replace S : St A N w w41 [oB p34 T_RTab (RTab.C ⟨s39⟩), oS T_Nd 4 Nd.C s39 ((s3.getD []) ++ [a1]), oB b2 T_Nd (Nd.C a1)] [] := S.store 1 B hw41
  clear B
  replace S : St A N w w41 [oS T_Nd 4 Nd.C s39 ((s3.getD []) ++ [a1]), oB p34 T_RTab (RTab.C ⟨s39⟩), oB b2 T_Nd (Nd.C a1)] [] := S.front 1
  replace S : St A N w w41 [oB p34 T_RTab (RTab.C ⟨s39⟩), oS T_Nd 4 Nd.C s39 ((s3.getD []) ++ [a1]), oB b2 T_Nd (Nd.C a1)] [] := S.front 1
  replace S : St A N w w41 [oR a_0 (some ((s3.getD []) ++ [a1])), oB b2 T_Nd (Nd.C a1)] [] := S.shutR hp36
  refine wl_nil ?_
  refine wc_seq (wc_region ?_)
  refine wd (does_mv_p rfl) ?_
  obtain ⟨p42, s43, hp44, S⟩ := S.openR 0 rfl
  replace S : St A N w w41 [oB p42 T_RTab (RTab.C ⟨s43⟩), oS T_Nd 4 Nd.C s43 ((s3.getD []) ++ [a1]), oB b2 T_Nd (Nd.C a1)] [] := S
  refine wd (does_nilCheck (congrArg Value.pointer hp44)) ?_
  refine wd (does_fieldAddr fl_RTab_n rfl (o' := 0) rfl) ?_
  refine wd (does_load on_L_api_Node rfl ((S.blk 0).cell (RTab.get_n _))) ?_
  refine wd (does_lenR sl_L_api_Node rfl (S.rdO 1)) ?_
  refine wd (does_sub rfl rfl) ?_
  refine wd (does_as_i rfl) ?_
  refine wd (does_as_i rfl) ?_
  replace S : St A N w w41 [oS T_Nd 4 Nd.C s43 ((s3.getD []) ++ [a1]), oB p42 T_RTab (RTab.C ⟨s43⟩), oB b2 T_Nd (Nd.C a1)] [] := S.front 1
  replace S : St A N w w41 [oB p42 T_RTab (RTab.C ⟨s43⟩), oS T_Nd 4 Nd.C s43 ((s3.getD []) ++ [a1]), oB b2 T_Nd (Nd.C a1)] [] := S.front 1
  replace S : St A N w w41 [oR a_0 (some ((s3.getD []) ++ [a1])), oB b2 T_Nd (Nd.C a1)] [] := S.shutR hp44
  refine wl_nil ?_
  refine wc_ret ?_
  refine ⟨_, (rets2 (retOne_tmp rfl) (retOne_tmp rfl)), ?_⟩
  replace S : St A N w w41 [oR a_0 (some ((s3.getD []) ++ [a1]))] [] := S.arr [0] []
  obtain rfl := Option.some.inj H
  exact ⟨rfl, S⟩
theorem ref09_kind_st {A : Nat → Prop} {N : Oth} {w : World} {a0 : Tb} {a_0 : Option Addr} {a1 : Int} (S : St A N w w [] [oR a_0 a0]) {r : Int} (H : ref09_kind.f a0 a1 = some r) :
    Calls PP F_ref09_kind #[.pointer a_0, .int .i64 a1] w fun e w' => ∃ v, e = .returned v ∧ (v = .int .i64 r ∧ St A N w w' [] []) := by
  unfold ref09_kind.f at H
  refine calls_of_wc (n := 13) fn_ref09_kind rfl rfl (by simp) ?_
  refine wc_seq (wc_region ?_)
  refine wd (does_as_i rfl) ?_
  refine wl_nil ?_
  refine wc_seq (wc_region ?_)
  refine wd (does_mv_p rfl) ?_
  obtain ⟨ht1, H⟩ := chk_ex H
  obtain ⟨p2, s3, hp4, S⟩ := S.seeR 0 ht1
  replace S : St A N w w [] [oB p2 T_RTab (RTab.C ⟨s3⟩), fS 4 Nd.C s3 (a0.getD []), oR a_0 a0] := S
  refine wd (does_nilCheck (congrArg Value.pointer hp4)) ?_
  refine wd (does_fieldAddr fl_RTab_n rfl (o' := 0) rfl) ?_
  refine wd (does_load on_L_api_Node rfl ((S.blkZ 0).cell (RTab.get_n _))) ?_
  refine wd (does_mv_i rfl) ?_
  obtain ⟨hi5, H⟩ := chk_ex H
  refine wd (does_indexR sl_L_api_Node rfl rfl (S.rd 1) (inb_ex hi5).1 (inb_ex hi5).2) ?_
  refine wd (does_fieldAddr fl_Nd_kind rfl (o' := _) rfl) ?_
  refine wd (does_load on_api_Kind rfl (((S.rd 1).at (at_some Nd.z (inb_ex hi5))).get (Nd.get_kind _))) ?_
  refine wd (does_as_i rfl) ?_
  replace S : St A N w w [] [oR a_0 a0] := S.zs [2]
  refine wl_nil ?_
  refine wc_ret ?_
  refine ⟨_, (rets1 (retOne_tmp rfl)), ?_⟩
  replace S : St A N w w [] [] := S.arr [] []
  obtain rfl := Option.some.inj H
  exact ⟨rfl, S⟩
theorem ref09_Fits_st {A : Nat → Prop} {N : Oth} {w : World} {a0 : Tb} {a_0 : Option Addr} {a1 : Sq} {a2 : Int} {a3 : Int} (S : St A N w w [] [oR a_0 a0]) {r : Bool} (H : ref09_Fits.f a0 a1 a2 a3 = some r) :
    Calls PP F_ref09_Fits #[.pointer a_0, .agg (Sq.C a1).toArray, .int .i64 a2, .int .i64 a3] w fun e w' => ∃ v, e = .returned v ∧ (v = .bool r ∧ St A N w w' [] []) := by
  unfold ref09_Fits.f at H
  refine calls_of_wc (n := 151) fn_ref09_Fits rfl rfl (by simp) ?_
  refine wc_seq (wc_region ?_)
  refine wl_box_agg rfl (by decide) fun b2 w1 hw1 => ?_
  replace S : St A N w w1 [oB b2 T_Sq (Sq.C a1)] [oR a_0 a0] := S.new hw1
  refine wd (does_as_b rfl) ?_
  refine wl_nil ?_
  refine wc_seq (wc_seq (wc_region ?_))
  refine wd (does_mv_p rfl) ?_
  refine wd (does_mv_i rfl) ?_
  obtain ⟨r3, er3, H⟩ := bind_ex H
  obtain ⟨B5, MB5, SB5, back⟩ := S.calln 0 ((.z 0 rfl .nil))
  refine wl_call (does_call ca_ref03_T_Has) (by decide) (ref03_T_Has_st SB5 er3) ?_
  rintro _ w4 ⟨rfl, S2⟩
  replace S : St A N w w4 [oB b2 T_Sq (Sq.C a1)] [oR a_0 a0] := back _ _ _ _ S2 rfl
  clear back S2 SB5
  refine wd (does_not rfl) ?_
  refine wl_nil ?_
  refine wc_if rfl (fun hc6 => ?_) (fun hc6 => ?_)
  · replace H := if_t hc6 H
    refine wc_seq (wc_region ?_)
    refine wd (does_as_b rfl) ?_
    refine wl_nil ?_
    refine wc_ret ?_
    refine ⟨_, (rets1 (retOne_tmp rfl)), ?_⟩
    replace S : St A N w w4 [] [] := S.arr [] []
    obtain rfl := Option.some.inj H
    exact ⟨rfl, S⟩
  replace H := if_f hc6 H
  refine wc_skip ?_
  refine wc_seq (wc_region ?_)
  refine wd (does_mv_p rfl) ?_
  obtain ⟨ht7, H⟩ := chk_ex H
  obtain ⟨p8, s9, hp10, S⟩ := S.seeR 0 ht7
  replace S : St A N w w4 [oB b2 T_Sq (Sq.C a1)] [oB p8 T_RTab (RTab.C ⟨s9⟩), fS 4 Nd.C s9 (a0.getD []), oR a_0 a0] := S
  refine wd (does_nilCheck (congrArg Value.pointer hp10)) ?_
  refine wd (does_fieldAddr fl_RTab_n rfl (o' := 0) rfl) ?_
  refine wd (does_load on_L_api_Node rfl ((S.blkZ 0).cell (RTab.get_n _))) ?_
  refine wd (does_mv_i rfl) ?_
  obtain ⟨hi11, H⟩ := chk_ex H
  refine wd (does_indexR sl_L_api_Node rfl rfl (S.rd 1) (inb_ex hi11).1 (inb_ex hi11).2) ?_
  refine wd (does_load_agg ag_Nd rfl ((S.rd 1).at (at_some Nd.z (inb_ex hi11))) (Nd.len _)) ?_
  refine wl_alloc ze_Nd (by decide) fun b13 w12 hw12 => ?_
  replace S : St A N w w12 [oB b13 T_Nd (Nd.C Nd.z), oB b2 T_Sq (Sq.C a1)] [oB p8 T_RTab (RTab.C ⟨s9⟩), fS 4 Nd.C s9 (a0.getD []), oR a_0 a0] := S.new hw12
  refine wl_store_agg ag_Nd rfl rfl (S.blk 0) (Nd.len _) (by rw [Nd.len]; decide) (Nd.one _) (store_all (Nd.len _)) fun w14 B hw14 zw14 => ?_
  replace S : St A N w w14 [oB b13 T_Nd (Nd.C (at_ Nd.z (a0.getD []) a3)), oB b2 T_Sq (Sq.C a1)] [oB p8 T_RTab (RTab.C ⟨s9⟩), fS 4 Nd.C s9 (a0.getD []), oR a_0 a0] := S.store 0 B hw14
  clear B
  replace S : St A N w w14 [oB b13 T_Nd (Nd.C (at_ Nd.z (a0.getD []) a3)), oB b2 T_Sq (Sq.C a1)] [oR a_0 a0] := S.zs [2]
  refine wl_nil ?_
  refine wc_seq (wc_region ?_)
  refine wd (does_fieldAddr fl_Sq_left rfl (o' := 0) rfl) ?_
  refine wd (does_load_agg ag_Bits rfl ((S.blk 1).cells (Sq.sub_left _)) (Bits.len _)) ?_
  refine wd (does_mv_i rfl) ?_
  obtain ⟨r15, er15, H⟩ := bind_ex H
  obtain ⟨B17, MB17, SB17, back⟩ := S.calln 0 ((.nil))
  refine wl_call (does_call ca_ref05_Has) (by decide) (ref05_Has_st SB17 er15) ?_
  rintro _ w16 ⟨rfl, S2⟩
  replace S : St A N w w16 [oB b13 T_Nd (Nd.C (at_ Nd.z (a0.getD []) a3)), oB b2 T_Sq (Sq.C a1)] [oR a_0 a0] := back _ _ _ _ S2 rfl
  clear back S2 SB17
  refine wd (does_as_b rfl) ?_
  refine wl_nil ?_
  refine wc_seq (wc_region ?_)
  refine wd (does_mv_i rfl) ?_
  refine wd (does_fieldAddr fl_Sq_goal rfl (o' := 16) rfl) ?_
  refine wd (does_load on_int rfl ((S.blk 1).cell (Sq.get_goal _))) ?_
  refine wd (does_eq rfl rfl) ?_
  refine wd (does_as_b rfl) ?_
  refine wl_nil ?_
  refine wc_seq (wc_region ?_)
  refine wd (does_mv_b rfl) ?_
  refine wd (does_mv_b rfl) ?_
  refine wl_guard (j := 1) (pol := true) rfl rfl rfl (by decide) (fun hg => does_fieldAddr fl_Nd_kind rfl (o' := 0) rfl) (by decide) ?_
  refine wl_guard (j := 1) (pol := true) rfl rfl rfl (by decide) (fun hg => does_load on_api_Kind (gv_yes hg) ((S.blk 0).cell (Nd.get_kind _))) (by decide) ?_
  refine wl_guard (j := 1) (pol := true) rfl rfl rfl (by decide) (fun hg => does_eq (gv_yes hg) rfl) (by decide) ?_
  refine wd (does_and rfl (fun hp => (gv_yes (and_1 hp)))) ?_
  refine wd (does_as_b rfl) ?_
  refine wl_nil ?_
  refine wc_seq (wc_seq (wc_region ?_))
  refine wd (does_mv_i rfl) ?_
  refine wl_nil ?_
  refine wc_block ?_
  refine wc_seq (wc_region ?_)
  refine wd (does_eq rfl rfl) ?_
  refine wd (does_as_b rfl) ?_
  refine wl_nil ?_
  refine wc_if rfl (fun hc18 => ?_) (fun hc18 => ?_)
  · replace H := if_t hc18 H
    refine wc_seq (wc_region ?_)
    refine wd (does_mv_b rfl) ?_
    refine wd (does_mv_b rfl) ?_
    refine wl_guard (j := 1) (pol := true) rfl rfl rfl (by decide) (fun hg => does_fieldAddr fl_Nd_kind rfl (o' := 0) rfl) (by decide) ?_
    refine wl_guard (j := 1) (pol := true) rfl rfl rfl (by decide) (fun hg => does_load on_api_Kind (gv_yes hg) ((S.blk 0).cell (Nd.get_kind _))) (by decide) ?_
    refine wl_guard (j := 1) (pol := true) rfl rfl rfl (by decide) (fun hg => does_eq (gv_yes hg) rfl) (by decide) ?_
    refine wd (does_and rfl (fun hp => (gv_yes (and_1 hp)))) ?_
    refine wd (does_as_b rfl) ?_
    refine wl_nil ?_
    refine wc_ret ?_
    refine ⟨_, (rets1 (retOne_tmp rfl)), ?_⟩
    replace S : St A N w w16 [] [] := S.arr [] []
    obtain rfl := Option.some.inj H
    exact ⟨rfl, S⟩
  replace H := if_f hc18 H
  refine wc_seq (wc_region ?_)
  refine wd (does_eq rfl rfl) ?_
  refine wd (does_as_b rfl) ?_
  refine wl_nil ?_
  refine wc_if rfl (fun hc19 => ?_) (fun hc19 => ?_)
  · replace H := if_t hc19 H
    refine wc_seq (wc_region ?_)
    refine wd (does_mv_b rfl) ?_
    refine wd (does_mv_b rfl) ?_
    refine wl_guard (j := 1) (pol := true) rfl rfl rfl (by decide) (fun hg => does_mv_b rfl) (by decide) ?_
    refine wd (does_and rfl (fun hp => (gv_yes (and_1 hp)))) ?_
    refine wd (does_as_b rfl) ?_
    refine wl_nil ?_
    refine wc_ret ?_
    refine ⟨_, (rets1 (retOne_tmp rfl)), ?_⟩
    replace S : St A N w w16 [] [] := S.arr [] []
    obtain rfl := Option.some.inj H
    exact ⟨rfl, S⟩
  replace H := if_f hc19 H
  refine wc_seq (wc_region ?_)
  refine wd (does_eq rfl rfl) ?_
  refine wd (does_as_b rfl) ?_
  refine wl_nil ?_
  refine wc_if rfl (fun hc20 => ?_) (fun hc20 => ?_)
  · replace H := if_t hc20 H
    refine wc_seq (wc_region ?_)
    refine wd (does_mv_b rfl) ?_
    refine wd (does_mv_b rfl) ?_
    refine wl_guard (j := 1) (pol := true) rfl rfl rfl (by decide) (fun hg => does_fieldAddr fl_Nd_kind rfl (o' := 0) rfl) (by decide) ?_
    refine wl_guard (j := 1) (pol := true) rfl rfl rfl (by decide) (fun hg => does_load on_api_Kind (gv_yes hg) ((S.blk 0).cell (Nd.get_kind _))) (by decide) ?_
    refine wl_guard (j := 1) (pol := true) rfl rfl rfl (by decide) (fun hg => does_eq (gv_yes hg) rfl) (by decide) ?_
    refine wd (does_and rfl (fun hp => (gv_yes (and_1 hp)))) ?_
    refine wd (does_as_b rfl) ?_
    refine wl_nil ?_
    refine wc_ret ?_
    refine ⟨_, (rets1 (retOne_tmp rfl)), ?_⟩
    replace S : St A N w w16 [] [] := S.arr [] []
    obtain rfl := Option.some.inj H
    exact ⟨rfl, S⟩
  replace H := if_f hc20 H
  refine wc_seq (wc_region ?_)
  refine wd (does_eq rfl rfl) ?_
  refine wd (does_as_b rfl) ?_
  refine wl_nil ?_
  refine wc_if rfl (fun hc21 => ?_) (fun hc21 => ?_)
  · replace H := if_t hc21 H
    refine wc_seq (wc_region ?_)
    refine wd (does_mv_b rfl) ?_
    refine wd (does_mv_b rfl) ?_
    refine wl_guard (j := 1) (pol := true) rfl rfl rfl (by decide) (fun hg => does_mv_p rfl) (by decide) ?_
    refine wl_guard (j := 1) (pol := true) rfl rfl rfl (by decide) (fun hg => does_fieldAddr fl_Nd_l rfl (o' := 2) rfl) (by decide) ?_
    refine wl_guard (j := 1) (pol := true) rfl rfl rfl (by decide) (fun hg => does_load on_int (gv_yes hg) ((S.blk 0).cell (Nd.get_l _))) (by decide) ?_
    obtain ⟨r22, er22, H⟩ := bind_ex H
    refine wl_gcall (j := 1) (pol := true) rfl rfl rfl (by decide) (fun hg => does_callg ca_ref09_kind (cons2 (gv_yes hg) (cons2 (gv_yes hg) rfl))) (by decide) (fun hg => (have ⟨M, SS⟩ := S.lend ((.z 0 rfl .nil)); quiet (ref09_kind_st SS (if_t (by simpa using hg) er22)) (fun v w' h => ⟨h.1, _, _, h.2⟩))) fun w23 hw23 => ?_
    replace S := S.ext hw23
    refine wl_guard (j := 1) (pol := true) rfl rfl rfl (by decide) (fun hg => does_eq (gv_yes hg) rfl) (by decide) ?_
    refine wd (does_and rfl (fun hp => (gv_yes (and_1 hp)))) ?_
    refine wd (does_mv_b rfl) ?_
    refine wl_guard (j := 8) (pol := true) rfl rfl rfl (by decide) (fun hg => does_fieldAddr fl_Sq_left rfl (o' := 0) rfl) (by decide) ?_
    refine wl_guard (j := 8) (pol := true) rfl rfl rfl (by decide) (fun hg => does_load_agg ag_Bits (gv_yes hg) ((S.blk 1).cells (Sq.sub_left _)) (Bits.len _)) (by decide) ?_
    refine wl_guard (j := 8) (pol := true) rfl rfl rfl (by decide) (fun hg => does_fieldAddr fl_Nd_l rfl (o' := 2) rfl) (by decide) ?_
    refine wl_guard (j := 8) (pol := true) rfl rfl rfl (by decide) (fun hg => does_load on_int (gv_yes hg) ((S.blk 0).cell (Nd.get_l _))) (by decide) ?_
    obtain ⟨r24, er24, H⟩ := bind_ex H
    refine wl_gcall (j := 8) (pol := true) rfl rfl rfl (by decide) (fun hg => does_callg ca_ref05_Has (cons2 (gv_yes hg) (cons2 (gv_yes hg) rfl))) (by decide) (fun hg => (have ⟨M, SS⟩ := S.lend ((.nil)); quiet (ref05_Has_st SS (if_t (by simpa using hg) er24)) (fun v w' h => ⟨h.1, _, _, h.2⟩))) fun w25 hw25 => ?_
    replace S := S.ext hw25
    refine wd (does_and rfl (fun hp => (gv_yes (and_1 hp)))) ?_
    refine wd (does_as_b rfl) ?_
    refine wl_nil ?_
    refine wc_ret ?_
    refine ⟨_, (rets1 (retOne_tmp rfl)), ?_⟩
    replace S : St A N w w25 [] [] := S.arr [] []
    obtain rfl := Option.some.inj H
    exact ⟨rfl, S⟩
  replace H := if_f hc21 H
  refine wc_seq (wc_region ?_)
  refine wd (does_eq rfl rfl) ?_
  refine wd (does_as_b rfl) ?_
  refine wl_nil ?_
  refine wc_if rfl (fun hc26 => ?_) (fun hc26 => ?_)
  · replace H := if_t hc26 H
    refine wc_seq (wc_region ?_)
    refine wd (does_mv_b rfl) ?_
    refine wd (does_mv_b rfl) ?_
    refine wl_guard (j := 1) (pol := true) rfl rfl rfl (by decide) (fun hg => does_mv_p rfl) (by decide) ?_
    refine wl_guard (j := 1) (pol := true) rfl rfl rfl (by decide) (fun hg => does_fieldAddr fl_Nd_l rfl (o' := 2) rfl) (by decide) ?_
    refine wl_guard (j := 1) (pol := true) rfl rfl rfl (by decide) (fun hg => does_load on_int (gv_yes hg) ((S.blk 0).cell (Nd.get_l _))) (by decide) ?_
    obtain ⟨r27, er27, H⟩ := bind_ex H
    refine wl_gcall (j := 1) (pol := true) rfl rfl rfl (by decide) (fun hg => does_callg ca_ref09_kind (cons2 (gv_yes hg) (cons2 (gv_yes hg) rfl))) (by decide) (fun hg => (have ⟨M, SS⟩ := S.lend ((.z 0 rfl .nil)); quiet (ref09_kind_st SS (if_t (by simpa using hg) er27)) (fun v w' h => ⟨h.1, _, _, h.2⟩))) fun w28 hw28 => ?_
    replace S := S.ext hw28
    refine wl_guard (j := 1) (pol := true) rfl rfl rfl (by decide) (fun hg => does_eq (gv_yes hg) rfl) (by decide) ?_
    refine wd (does_and rfl (fun hp => (gv_yes (and_1 hp)))) ?_
    refine wd (does_as_b rfl) ?_
    refine wl_nil ?_
    refine wc_ret ?_
    refine ⟨_, (rets1 (retOne_tmp rfl)), ?_⟩
    replace S : St A N w w28 [] [] := S.arr [] []
    obtain rfl := Option.some.inj H
    exact ⟨rfl, S⟩
  replace H := if_f hc26 H
  refine wc_seq (wc_region ?_)
  refine wd (does_eq rfl rfl) ?_
  refine wd (does_as_b rfl) ?_
  refine wl_nil ?_
  refine wc_if rfl (fun hc29 => ?_) (fun hc29 => ?_)
  · replace H := if_t hc29 H
    refine wc_seq (wc_region ?_)
    refine wd (does_mv_b rfl) ?_
    refine wd (does_mv_b rfl) ?_
    refine wl_guard (j := 1) (pol := true) rfl rfl rfl (by decide) (fun hg => does_mv_p rfl) (by decide) ?_
    refine wl_guard (j := 1) (pol := true) rfl rfl rfl (by decide) (fun hg => does_fieldAddr fl_Nd_l rfl (o' := 2) rfl) (by decide) ?_
    refine wl_guard (j := 1) (pol := true) rfl rfl rfl (by decide) (fun hg => does_load on_int (gv_yes hg) ((S.blk 0).cell (Nd.get_l _))) (by decide) ?_
    obtain ⟨r30, er30, H⟩ := bind_ex H
    refine wl_gcall (j := 1) (pol := true) rfl rfl rfl (by decide) (fun hg => does_callg ca_ref09_kind (cons2 (gv_yes hg) (cons2 (gv_yes hg) rfl))) (by decide) (fun hg => (have ⟨M, SS⟩ := S.lend ((.z 0 rfl .nil)); quiet (ref09_kind_st SS (if_t (by simpa using hg) er30)) (fun v w' h => ⟨h.1, _, _, h.2⟩))) fun w31 hw31 => ?_
    replace S := S.ext hw31
    refine wl_guard (j := 1) (pol := true) rfl rfl rfl (by decide) (fun hg => does_eq (gv_yes hg) rfl) (by decide) ?_
    refine wd (does_and rfl (fun hp => (gv_yes (and_1 hp)))) ?_
    refine wd (does_as_b rfl) ?_
    refine wl_nil ?_
    refine wc_ret ?_
    refine ⟨_, (rets1 (retOne_tmp rfl)), ?_⟩
    replace S : St A N w w31 [] [] := S.arr [] []
    obtain rfl := Option.some.inj H
    exact ⟨rfl, S⟩
  replace H := if_f hc29 H
  refine wc_seq (wc_region ?_)
  refine wd (does_eq rfl rfl) ?_
  refine wd (does_as_b rfl) ?_
  refine wl_nil ?_
  refine wc_if rfl (fun hc32 => ?_) (fun hc32 => ?_)
  · replace H := if_t hc32 H
    refine wc_seq (wc_region ?_)
    refine wd (does_mv_b rfl) ?_
    refine wd (does_mv_b rfl) ?_
    refine wl_guard (j := 1) (pol := true) rfl rfl rfl (by decide) (fun hg => does_mv_p rfl) (by decide) ?_
    refine wl_guard (j := 1) (pol := true) rfl rfl rfl (by decide) (fun hg => does_fieldAddr fl_Nd_l rfl (o' := 2) rfl) (by decide) ?_
    refine wl_guard (j := 1) (pol := true) rfl rfl rfl (by decide) (fun hg => does_load on_int (gv_yes hg) ((S.blk 0).cell (Nd.get_l _))) (by decide) ?_
    obtain ⟨r33, er33, H⟩ := bind_ex H
    refine wl_gcall (j := 1) (pol := true) rfl rfl rfl (by decide) (fun hg => does_callg ca_ref09_kind (cons2 (gv_yes hg) (cons2 (gv_yes hg) rfl))) (by decide) (fun hg => (have ⟨M, SS⟩ := S.lend ((.z 0 rfl .nil)); quiet (ref09_kind_st SS (if_t (by simpa using hg) er33)) (fun v w' h => ⟨h.1, _, _, h.2⟩))) fun w34 hw34 => ?_
    replace S := S.ext hw34
    refine wl_guard (j := 1) (pol := true) rfl rfl rfl (by decide) (fun hg => does_eq (gv_yes hg) rfl) (by decide) ?_
    refine wd (does_and rfl (fun hp => (gv_yes (and_1 hp)))) ?_
    refine wd (does_as_b rfl) ?_
    refine wl_nil ?_
    refine wc_ret ?_
    refine ⟨_, (rets1 (retOne_tmp rfl)), ?_⟩
    replace S : St A N w w34 [] [] := S.arr [] []
    obtain rfl := Option.some.inj H
    exact ⟨rfl, S⟩
  replace H := if_f hc32 H
  refine wc_seq (wc_region ?_)
  refine wd (does_eq rfl rfl) ?_
  refine wd (does_as_b rfl) ?_
  refine wl_nil ?_
  refine wc_if rfl (fun hc35 => ?_) (fun hc35 => ?_)
  · replace H := if_t hc35 H
    refine wc_seq (wc_region ?_)
    refine wd (does_mv_b rfl) ?_
    refine wd (does_mv_b rfl) ?_
    refine wl_guard (j := 1) (pol := true) rfl rfl rfl (by decide) (fun hg => does_fieldAddr fl_Nd_kind rfl (o' := 0) rfl) (by decide) ?_
    refine wl_guard (j := 1) (pol := true) rfl rfl rfl (by decide) (fun hg => does_load on_api_Kind (gv_yes hg) ((S.blk 0).cell (Nd.get_kind _))) (by decide) ?_
    refine wl_guard (j := 1) (pol := true) rfl rfl rfl (by decide) (fun hg => does_eq (gv_yes hg) rfl) (by decide) ?_
    refine wd (does_and rfl (fun hp => (gv_yes (and_1 hp)))) ?_
    refine wd (does_as_b rfl) ?_
    refine wl_nil ?_
    refine wc_ret ?_
    refine ⟨_, (rets1 (retOne_tmp rfl)), ?_⟩
    replace S : St A N w w16 [] [] := S.arr [] []
    obtain rfl := Option.some.inj H
    exact ⟨rfl, S⟩
  replace H := if_f hc35 H
  refine wc_seq (wc_region ?_)
  refine wd (does_eq rfl rfl) ?_
  refine wd (does_as_b rfl) ?_
  refine wl_nil ?_
  refine wc_if rfl (fun hc36 => ?_) (fun hc36 => ?_)
  · replace H := if_t hc36 H
    refine wc_seq (wc_region ?_)
    refine wd (does_mv_b rfl) ?_
    refine wd (does_mv_b rfl) ?_
    refine wl_guard (j := 1) (pol := true) rfl rfl rfl (by decide) (fun hg => does_fieldAddr fl_Nd_kind rfl (o' := 0) rfl) (by decide) ?_
    refine wl_guard (j := 1) (pol := true) rfl rfl rfl (by decide) (fun hg => does_load on_api_Kind (gv_yes hg) ((S.blk 0).cell (Nd.get_kind _))) (by decide) ?_
    refine wl_guard (j := 1) (pol := true) rfl rfl rfl (by decide) (fun hg => does_eq (gv_yes hg) rfl) (by decide) ?_
    refine wd (does_and rfl (fun hp => (gv_yes (and_1 hp)))) ?_
    refine wd (does_as_b rfl) ?_
    refine wl_nil ?_
    refine wc_ret ?_
    refine ⟨_, (rets1 (retOne_tmp rfl)), ?_⟩
    replace S : St A N w w16 [] [] := S.arr [] []
    obtain rfl := Option.some.inj H
    exact ⟨rfl, S⟩
  replace H := if_f hc36 H
  refine wc_seq (wc_region ?_)
  refine wd (does_eq rfl rfl) ?_
  refine wd (does_as_b rfl) ?_
  refine wl_nil ?_
  refine wc_if rfl (fun hc37 => ?_) (fun hc37 => ?_)
  · replace H := if_t hc37 H
    refine wc_seq (wc_region ?_)
    refine wd (does_mv_b rfl) ?_
    refine wd (does_mv_b rfl) ?_
    refine wl_guard (j := 1) (pol := true) rfl rfl rfl (by decide) (fun hg => does_fieldAddr fl_Nd_kind rfl (o' := 0) rfl) (by decide) ?_
    refine wl_guard (j := 1) (pol := true) rfl rfl rfl (by decide) (fun hg => does_load on_api_Kind (gv_yes hg) ((S.blk 0).cell (Nd.get_kind _))) (by decide) ?_
    refine wl_guard (j := 1) (pol := true) rfl rfl rfl (by decide) (fun hg => does_eq (gv_yes hg) rfl) (by decide) ?_
    refine wd (does_and rfl (fun hp => (gv_yes (and_1 hp)))) ?_
    refine wd (does_as_b rfl) ?_
    refine wl_nil ?_
    refine wc_ret ?_
    refine ⟨_, (rets1 (retOne_tmp rfl)), ?_⟩
    replace S : St A N w w16 [] [] := S.arr [] []
    obtain rfl := Option.some.inj H
    exact ⟨rfl, S⟩
  replace H := if_f hc37 H
  refine wc_seq (wc_seq (wc_region ?_))
  refine wd (does_eq rfl rfl) ?_
  refine wd (does_as_b rfl) ?_
  refine wl_nil ?_
  obtain ⟨o38, e38, Ho38⟩ := bind_ex H
  replace H := e38; clear e38
  refine wc_cutq [132, 134] (fun fr W => fr 132 = .bool o38 ∧ St A N w W [oB b13 T_Nd (Nd.C (at_ Nd.z (a0.getD []) a3)), oB b2 T_Sq (Sq.C a1)] [oR a_0 a0]) ?_ ?_
  · refine wc_if rfl (fun hc39 => ?_) (fun hc39 => ?_)
    · replace H := if_t hc39 H
      refine wc_skip ?_
      obtain rfl := Option.some.inj H
      exact ⟨rfl, (Dif.refl _ _), rfl, S⟩
    · replace H := if_f hc39 H
      refine wc_region ?_
      refine wd (does_eq rfl rfl) ?_
      refine wd (does_as_b rfl) ?_
      refine wl_nil ?_
      obtain rfl := Option.some.inj H
      exact ⟨rfl, (((Dif.refl _ _).upd rfl _).upd rfl _), rfl, S⟩
  rintro g40 u41 ⟨p38_132, S⟩
  have H := Ho38
  refine wc_if p38_132 (fun hc42 => ?_) (fun hc42 => ?_)
  · replace H := if_t hc42 H
    refine wc_seq (wc_region ?_)
    refine wd (does_mv_b rfl) ?_
    refine wd (does_mv_b rfl) ?_
    refine wl_guard (j := 1) (pol := true) rfl rfl rfl (by decide) (fun hg => does_fieldAddr fl_Nd_kind rfl (o' := 0) rfl) (by decide) ?_
    refine wl_guard (j := 1) (pol := true) rfl rfl rfl (by decide) (fun hg => does_load on_api_Kind (gv_yes hg) ((S.blk 0).cell (Nd.get_kind _))) (by decide) ?_
    refine wl_guard (j := 1) (pol := true) rfl rfl rfl (by decide) (fun hg => does_eq (gv_yes hg) rfl) (by decide) ?_
    refine wd (does_and rfl (fun hp => (gv_yes (and_1 hp)))) ?_
    refine wd (does_as_b rfl) ?_
    refine wl_nil ?_
    refine wc_ret ?_
    refine ⟨_, (rets1 (retOne_tmp rfl)), ?_⟩
    replace S : St A N w u41 [] [] := S.arr [] []
    obtain rfl := Option.some.inj H
    exact ⟨rfl, S⟩
  replace H := if_f hc42 H
  refine wc_seq (wc_region ?_)
  refine wd (does_eq rfl rfl) ?_
  refine wd (does_as_b rfl) ?_
  refine wl_nil ?_
  refine wc_if rfl (fun hc43 => ?_) (fun hc43 => ?_)
  · replace H := if_t hc43 H
    refine wc_seq (wc_region ?_)
    refine wd (does_mv_b rfl) ?_
    refine wd (does_mv_b rfl) ?_
    refine wl_guard (j := 1) (pol := true) rfl rfl rfl (by decide) (fun hg => does_mv_p rfl) (by decide) ?_
    refine wl_guard (j := 1) (pol := true) rfl rfl rfl (by decide) (fun hg => does_fieldAddr fl_Nd_l rfl (o' := 2) rfl) (by decide) ?_
    refine wl_guard (j := 1) (pol := true) rfl rfl rfl (by decide) (fun hg => does_load on_int (gv_yes hg) ((S.blk 0).cell (Nd.get_l _))) (by decide) ?_
    obtain ⟨r44, er44, H⟩ := bind_ex H
    refine wl_gcall (j := 1) (pol := true) rfl rfl rfl (by decide) (fun hg => does_callg ca_ref09_kind (cons2 (gv_yes hg) (cons2 (gv_yes hg) rfl))) (by decide) (fun hg => (have ⟨M, SS⟩ := S.lend ((.z 0 rfl .nil)); quiet (ref09_kind_st SS (if_t (by simpa using hg) er44)) (fun v w' h => ⟨h.1, _, _, h.2⟩))) fun w45 hw45 => ?_
    replace S := S.ext hw45
    refine wl_guard (j := 1) (pol := true) rfl rfl rfl (by decide) (fun hg => does_eq (gv_yes hg) rfl) (by decide) ?_
    refine wd (does_and rfl (fun hp => (gv_yes (and_1 hp)))) ?_
    refine wd (does_as_b rfl) ?_
    refine wl_nil ?_
    refine wc_ret ?_
    refine ⟨_, (rets1 (retOne_tmp rfl)), ?_⟩
    replace S : St A N w w45 [] [] := S.arr [] []
    obtain rfl := Option.some.inj H
    exact ⟨rfl, S⟩
  replace H := if_f hc43 H
  refine wc_skip ?_
  refine wc_seq (wc_region ?_)
  refine wd (does_as_b rfl) ?_
  refine wl_nil ?_
  refine wc_ret ?_
  refine ⟨_, (rets1 (retOne_tmp rfl)), ?_⟩
  replace S : St A N w u41 [] [] := S.arr [] []
  obtain rfl := Option.some.inj H
  exact ⟨rfl, S⟩
theorem ref09_Right_st {A : Nat → Prop} {N : Oth} {w : World} {a0 : Tb} {a_0 : Option Addr} {a1 : Sq} (S : St A N w w [] [oR a_0 a0]) {r : Bool} (H : ref09_Right.f a0 a1 = some r) :
    Calls PP F_ref09_Right #[.pointer a_0, .agg (Sq.C a1).toArray] w fun e w' => ∃ v, e = .returned v ∧ (v = .bool r ∧ St A N w w' [] []) := by
  unfold ref09_Right.f at H
  refine calls_of_wc (n := 27) fn_ref09_Right rfl rfl (by simp) ?_
  refine wc_seq (wc_region ?_)
  refine wl_box_agg rfl (by decide) fun b2 w1 hw1 => ?_
  replace S : St A N w w1 [oB b2 T_Sq (Sq.C a1)] [oR a_0 a0] := S.new hw1
  refine wd (does_as_b rfl) ?_
  refine wl_nil ?_
  refine wc_seq (wc_region ?_)
  refine wd (does_fieldAddr fl_Sq_left rfl (o' := 0) rfl) ?_
  refine wd (does_load_agg ag_Bits rfl ((S.blk 0).cells (Sq.sub_left _)) (Bits.len _)) ?_
  obtain ⟨r3, er3, H⟩ := bind_ex H
  obtain ⟨B5, MB5, SB5, back⟩ := S.calln 0 ((.nil))
  refine wl_call (does_call ca_ref05_List) (by decide) (ref05_List_st SB5 er3) ?_
  rintro _ w4 ⟨s6, rfl, S2⟩
  replace S : St A N w w4 [oS T_int 1 IC s6 r3, oB b2 T_Sq (Sq.C a1)] [oR a_0 a0] := back _ _ _ _ S2 rfl
  clear back S2 SB5
  refine wd (does_as_l rfl) ?_
  refine wl_nil ?_
  refine wc_seq (wc_seq (wc_region ?_))
  refine wd (does_as_i rfl) ?_
  refine wl_nil ?_
  obtain ⟨o7, e7, Ho7⟩ := bind_ex H
  clear H
  refine wc_cutq [4, 6, 10, 11, 12, 13, 14, 15, 16, 17, 18, 19, 20, 21, 22] (fun fr W => ∃ s7 : Unit, o7 = .inl s7 ∧ St A N w W [oS T_int 1 IC s6 r3, oB b2 T_Sq (Sq.C a1)] [oR a_0 a0]) ?_ ?_
  · refine wc_block ?_
    refine wc_loopm (α := Nat × Int × Unit) [4, 6, 10, 11, 12, 13, 14, 15, 16, 17, 18, 19, 20, 21, 22] (fun x fr W => (x.1 : Int) = (r3.length : Int) - x.2.1 ∧ 0 ≤ x.2.1 ∧ forN (fun i s => ref09_Right.b0 a0 r3 i) x.1 x.2.1 x.2.2 = some o7 ∧ fr 6 = .int .i64 x.2.1 ∧ St A N w W [oS T_int 1 IC s6 r3, oB b2 T_Sq (Sq.C a1)] [oR a_0 a0]) (fun x => x.1) (((r3.length : Int) - 0).toNat, 0, ()) ⟨(by dsimp only; have hle := Int.natCast_nonneg (r3.length); omega), (Int.le_refl _), (by dsimp only; exact e7), rfl, S⟩ ?_
    rintro ⟨m7, i7, _⟩ g7 u7 ⟨hm7, hl7, e7, q7_i, S⟩
    try dsimp only at hm7
    try dsimp only at hl7
    try dsimp only at e7
    try dsimp only at S
    try dsimp only at q7_i
    refine wc_seq (wc_seq (wc_region ?_))
    refine wd (does_mv_i q7_i) ?_
    refine wd (does_mv_l rfl) ?_
    refine wd (does_lenR sl_L_int rfl (S.rdO 0)) ?_
    refine wd (does_lt rfl rfl) ?_
    refine wl_nil ?_
    refine wc_if rfl (fun hc8 => ?_) (fun hc8 => ?_)
    rotate_left
    · refine wc_exit ?_
      have hge : (r3.length : Int) ≤ i7 := Int.not_lt.1 (of_decide_eq_false hc8)
      obtain rfl : m7 = 0 := by omega
      replace e7 := forN_0 e7
      exact ⟨rfl, (((((Dif.self _ _ _).upd rfl _).upd rfl _).upd rfl _).upd rfl _), (), e7, S⟩
    refine wc_skip ?_
    have hlt7 : i7 < (r3.length : Int) := of_decide_eq_true hc8
    obtain ⟨m7, rfl⟩ : ∃ m, m7 = m + 1 := ⟨m7 - 1, by omega⟩
    obtain ⟨q7, H, e7⟩ := forN_s e7
    unfold ref09_Right.b0 at H
    try dsimp only at H
    have hb7 := (S.lenO 0)
    refine wc_seq ?_
    refine wc_block ?_
    refine wc_seq (wc_region ?_)
    refine wd (does_mv_p rfl) ?_
    refine wd (does_mv_l rfl) ?_
    refine wd (does_mv_i q7_i) ?_
    refine wd (does_indexR sl_L_int rfl rfl (S.rdO 0) (And.intro (show 0 ≤ i7 by omega) (show i7 < (r3.length : Int) from hlt7)).1 (And.intro (show 0 ≤ i7 by omega) (show i7 < (r3.length : Int) from hlt7)).2) ?_
    refine wd (does_load on_int rfl ((S.rdO 0).one (at_some (0 : Int) (And.intro (show 0 ≤ i7 by omega) (show i7 < (r3.length : Int) from hlt7))) rfl)) ?_
    obtain ⟨r10, er10, H⟩ := bind_ex H
    obtain ⟨B12, MB12, SB12, back⟩ := S.calln 0 ((.z 0 rfl .nil))
    refine wl_call (does_call ca_ref03_T_Has) (by decide) (ref03_T_Has_st SB12 er10) ?_
    rintro _ w11 ⟨rfl, S2⟩
    replace S : St A N w w11 [oS T_int 1 IC s6 r3, oB b2 T_Sq (Sq.C a1)] [oR a_0 a0] := back _ _ _ _ S2 rfl
    clear back S2 SB12
    refine wd (does_not rfl) ?_
    refine wl_nil ?_
    refine wc_if rfl (fun hc13 => ?_) (fun hc13 => ?_)
    · replace H := if_t hc13 H
      refine wc_seq (wc_region ?_)
      refine wd (does_as_b rfl) ?_
      refine wl_nil ?_
      refine wc_ret ?_
      refine ⟨_, (rets1 (retOne_tmp rfl)), ?_⟩
      replace S : St A N w w11 [] [] := S.arr [] []
      obtain rfl := Option.some.inj H
      obtain rfl := e7
      obtain rfl := aft_r Ho7
      exact ⟨rfl, S⟩
    replace H := if_f hc13 H
    refine wc_skip ?_
    refine wc_region ?_
    refine wd (does_mv_i q7_i) ?_
    refine wd (does_addc rfl rfl (c := i7 + 1) rfl (by omega) (by omega)) ?_
    refine wd (does_as_i rfl) ?_
    refine wl_nil ?_
    obtain rfl := Option.some.inj H
    exact ⟨rfl, (((((((((((((((Dif.self _ _ _).upd rfl _).upd rfl _).upd rfl _).upd rfl _).upd rfl _).upd rfl _).upd rfl _).upd rfl _).upd rfl _).upd rfl _).upd rfl _).upd rfl _).upd rfl _).upd rfl _), (m7, i7 + 1, ()), ⟨(by dsimp only; omega), (by dsimp only; omega), e7, rfl, S⟩, by dsimp only; omega⟩
  rintro g14 u15 ⟨s7, rfl, S⟩
  have H := Ho7
  dsimp only [aft] at H
  refine wc_seq (wc_region ?_)
  refine wd (does_mv_p rfl) ?_
  refine wd (does_fieldAddr fl_Sq_goal rfl (o' := 16) rfl) ?_
  refine wd (does_load on_int rfl ((S.blk 1).cell (Sq.get_goal _))) ?_
  obtain ⟨r16, er16, H⟩ := bind_ex H
  obtain ⟨B18, MB18, SB18, back⟩ := S.calln 0 ((.z 0 rfl .nil))
  refine wl_call (does_call ca_ref03_T_Has) (by decide) (ref03_T_Has_st SB18 er16) ?_
  rintro _ w17 ⟨rfl, S2⟩
  replace S : St A N w w17 [oS T_int 1 IC s6 r3, oB b2 T_Sq (Sq.C a1)] [oR a_0 a0] := back _ _ _ _ S2 rfl
  clear back S2 SB18
  refine wd (does_as_b rfl) ?_
  refine wl_nil ?_
  refine wc_ret ?_
  refine ⟨_, (rets1 (retOne_tmp rfl)), ?_⟩
  replace S : St A N w w17 [] [] := S.arr [] []
  obtain rfl := Option.some.inj H
  exact ⟨rfl, S⟩
theorem ref09_first_st {A : Nat → Prop} {N : Oth} {w : World} {a0 : Tb} {a_0 : Option Addr} {a1 : Sq} {a2 : List Int} {s_2 : SlV} (S : St A N w w [] [oR a_0 a0, fS 1 IC s_2 a2]) {r : Int × Int × Bool} (H : ref09_first.f a0 a1 a2 = some r) :
    Calls PP F_ref09_first #[.pointer a_0, .agg (Sq.C a1).toArray, s_2.v] w fun e w' => ∃ v, e = .returned v ∧ (v = .tuple #[.int .i64 r.1, .int .i64 r.2.1, .bool r.2.2] ∧ St A N w w' [] []) := by
  unfold ref09_first.f at H
  refine calls_of_wc (n := 39) fn_ref09_first rfl rfl (by simp) ?_
  refine wc_seq (wc_region ?_)
  refine wl_box_agg rfl (by decide) fun b2 w1 hw1 => ?_
  replace S : St A N w w1 [oB b2 T_Sq (Sq.C a1)] [oR a_0 a0, fS 1 IC s_2 a2] := S.new hw1
  refine wd (does_as_i rfl) ?_
  refine wd (does_as_i rfl) ?_
  refine wd (does_as_b rfl) ?_
  refine wl_nil ?_
  refine wc_seq (wc_seq (wc_region ?_))
  refine wd (does_as_i rfl) ?_
  refine wl_nil ?_
  obtain ⟨ht3, H⟩ := chk_ex H
  obtain ⟨o4, e4, Ho4⟩ := bind_ex H
  clear H
  refine wc_cutq [6, 7, 8, 9, 10, 11, 12, 13, 14, 15, 16, 17, 18, 19, 20, 21, 22, 23, 24, 25, 26, 27, 28, 29, 30, 31, 32, 33, 34, 35, 36, 37, 38] (fun fr W => ∃ s4 : Unit, o4 = .inl s4 ∧ St A N w W [oB b2 T_Sq (Sq.C a1)] [oR a_0 a0, fS 1 IC s_2 a2]) ?_ ?_
  · refine wc_block ?_
    refine wc_loopm (α := Nat × Int × Unit) [6, 7, 8, 9, 10, 11, 12, 13, 14, 15, 16, 17, 18, 19, 20, 21, 22, 23, 24, 25, 26, 27, 28, 29, 30, 31, 32, 33, 34, 35, 36, 37, 38] (fun x fr W => (x.1 : Int) = ((a0.getD []).length : Int) - x.2.1 ∧ 0 ≤ x.2.1 ∧ forN (fun i s => ref09_first.b0 a0 a1 a2 i) x.1 x.2.1 x.2.2 = some o4 ∧ fr 9 = .int .i64 x.2.1 ∧ St A N w W [oB b2 T_Sq (Sq.C a1)] [oR a_0 a0, fS 1 IC s_2 a2]) (fun x => x.1) ((((a0.getD []).length : Int) - 0).toNat, 0, ()) ⟨(by dsimp only; have hle := Int.natCast_nonneg ((a0.getD []).length); omega), (Int.le_refl _), (by dsimp only; exact e4), rfl, S⟩ ?_
    rintro ⟨m4, i4, _⟩ g4 u4 ⟨hm4, hl4, e4, q4_i, S⟩
    try dsimp only at hm4
    try dsimp only at hl4
    try dsimp only at e4
    try dsimp only at S
    try dsimp only at q4_i
    refine wc_seq (wc_seq (wc_region ?_))
    refine wd (does_mv_i q4_i) ?_
    refine wd (does_mv_p rfl) ?_
    obtain ⟨p5, s6, hp7, S⟩ := S.seeR 0 ht3
    replace S : St A N w u4 [oB b2 T_Sq (Sq.C a1)] [oB p5 T_RTab (RTab.C ⟨s6⟩), fS 4 Nd.C s6 (a0.getD []), oR a_0 a0, fS 1 IC s_2 a2] := S
    refine wd (does_nilCheck (congrArg Value.pointer hp7)) ?_
    refine wd (does_fieldAddr fl_RTab_n rfl (o' := 0) rfl) ?_
    refine wd (does_load on_L_api_Node rfl ((S.blkZ 0).cell (RTab.get_n _))) ?_
    refine wd (does_lenR sl_L_api_Node rfl (S.rd 1)) ?_
    refine wd (does_lt rfl rfl) ?_
    replace S : St A N w u4 [oB b2 T_Sq (Sq.C a1)] [oR a_0 a0, fS 1 IC s_2 a2] := S.zs [2, 3]
    refine wl_nil ?_
    refine wc_if rfl (fun hc8 => ?_) (fun hc8 => ?_)
    rotate_left
    · refine wc_exit ?_
      have hge : ((a0.getD []).length : Int) ≤ i4 := Int.not_lt.1 (of_decide_eq_false hc8)
      obtain rfl : m4 = 0 := by omega
      replace e4 := forN_0 e4
      exact ⟨rfl, ((((((((Dif.self _ _ _).upd rfl _).upd rfl _).upd rfl _).upd rfl _).upd rfl _).upd rfl _).upd rfl _), (), e4, S⟩
    refine wc_skip ?_
    have hlt4 : i4 < ((a0.getD []).length : Int) := of_decide_eq_true hc8
    obtain ⟨m4, rfl⟩ : ∃ m, m4 = m + 1 := ⟨m4 - 1, by omega⟩
    obtain ⟨q4, H, e4⟩ := forN_s e4
    unfold ref09_first.b0 at H
    try dsimp only at H
    have hb4 := (S.lenRZ 0)
    refine wc_seq ?_
    refine wc_block ?_
    refine wc_seq (wc_region ?_)
    refine wd (does_as_i rfl) ?_
    refine wl_nil ?_
    obtain ⟨o9, e9, Ho9⟩ := bind_ex H
    clear H
    refine wc_cutq [6, 7, 8, 10, 20, 21, 22, 23, 24, 25, 26, 27, 28, 29, 30, 31, 32, 33, 34, 35, 36, 37, 38] (fun fr W => ∃ s9 : Unit, o9 = .inl s9 ∧ St A N w W [oB b2 T_Sq (Sq.C a1)] [oR a_0 a0, fS 1 IC s_2 a2]) ?_ ?_
    · refine wc_block ?_
      refine wc_loopm (α := Nat × Int × Unit) [6, 7, 8, 10, 20, 21, 22, 23, 24, 25, 26, 27, 28, 29, 30, 31, 32, 33, 34, 35, 36, 37, 38] (fun x fr W => (x.1 : Int) = (a2.length : Int) - x.2.1 ∧ 0 ≤ x.2.1 ∧ forN (fun i s => ref09_first.b1 a0 a1 a2 i4 i) x.1 x.2.1 x.2.2 = some o9 ∧ fr 10 = .int .i64 x.2.1 ∧ St A N w W [oB b2 T_Sq (Sq.C a1)] [oR a_0 a0, fS 1 IC s_2 a2]) (fun x => x.1) (((a2.length : Int) - 0).toNat, 0, ()) ⟨(by dsimp only; have hle := Int.natCast_nonneg (a2.length); omega), (Int.le_refl _), (by dsimp only; exact e9), rfl, S⟩ ?_
      rintro ⟨m9, i9, _⟩ g9 u9 ⟨hm9, hl9, e9, q9_i, S⟩
      try dsimp only at hm9
      try dsimp only at hl9
      try dsimp only at e9
      try dsimp only at S
      try dsimp only at q9_i
      refine wc_seq (wc_seq (wc_region ?_))
      refine wd (does_mv_i q9_i) ?_
      refine wd (does_mv_l rfl) ?_
      refine wd (does_lenR sl_L_api_Rule rfl (S.rd 1)) ?_
      refine wd (does_lt rfl rfl) ?_
      refine wl_nil ?_
      refine wc_if rfl (fun hc10 => ?_) (fun hc10 => ?_)
      rotate_left
      · refine wc_exit ?_
        have hge : (a2.length : Int) ≤ i9 := Int.not_lt.1 (of_decide_eq_false hc10)
        obtain rfl : m9 = 0 := by omega
        replace e9 := forN_0 e9
        exact ⟨rfl, (((((Dif.self _ _ _).upd rfl _).upd rfl _).upd rfl _).upd rfl _), (), e9, S⟩
      refine wc_skip ?_
      have hlt9 : i9 < (a2.length : Int) := of_decide_eq_true hc10
      obtain ⟨m9, rfl⟩ : ∃ m, m9 = m + 1 := ⟨m9 - 1, by omega⟩
      obtain ⟨q9, H, e9⟩ := forN_s e9
      unfold ref09_first.b1 at H
      try dsimp only at H
      have hb9 := (S.len 1)
      refine wc_seq ?_
      refine wc_block ?_
      refine wc_seq ?_
      refine wc_quiet 7 (Ext u9) hmix (by kernel_rfl) (by kernel_rfl) (Ext.drawn _) ?_
      refine wq_does (fun v K => does_mv_p rfl) ?_
      refine wq_does (fun v K => does_load_agg ag_Sq rfl (((S.ext K).blk 0).all _ (Sq.len _)) (Sq.len _)) ?_
      refine wq_does (fun v K => does_mv_l rfl) ?_
      refine wq_does (fun v K => does_mv_i q9_i) ?_
      refine wq_does (fun v K => does_indexR sl_L_api_Rule rfl rfl ((S.ext K).rd 1) (And.intro (show 0 ≤ i9 by omega) (show i9 < (a2.length : Int) from hlt9)).1 (And.intro (show 0 ≤ i9 by omega) (show i9 < (a2.length : Int) from hlt9)).2) ?_
      refine wq_does (fun v K => does_load on_api_Rule rfl (((S.ext K).rd 1).one (at_some (0 : Int) (And.intro (show 0 ≤ i9 by omega) (show i9 < (a2.length : Int) from hlt9))) rfl)) ?_
      refine wq_does (fun v K => does_mv_i q4_i) ?_
      refine wq_nil fun w12 K => ?_
      replace S := S.ext K
      clear K
      obtain ⟨r13, er13, H⟩ := bind_ex H
      obtain ⟨B15, MB15, SB15, back⟩ := S.calln 0 ((.z 0 rfl .nil))
      refine wl_call (does_call ca_ref09_Fits) (by decide) (ref09_Fits_st SB15 er13) ?_
      rintro _ w14 ⟨rfl, S2⟩
      replace S : St A N w w14 [oB b2 T_Sq (Sq.C a1)] [oR a_0 a0, fS 1 IC s_2 a2] := back _ _ _ _ S2 rfl
      clear back S2 SB15
      refine wl_nil ?_
      refine wc_if rfl (fun hc16 => ?_) (fun hc16 => ?_)
      · replace H := if_t hc16 H
        refine wc_seq (wc_region ?_)
        refine wd (does_mv_l rfl) ?_
        refine wd (does_mv_i q9_i) ?_
        refine wd (does_indexR sl_L_api_Rule rfl rfl (S.rd 1) (And.intro (show 0 ≤ i9 by omega) (show i9 < (a2.length : Int) from hlt9)).1 (And.intro (show 0 ≤ i9 by omega) (show i9 < (a2.length : Int) from hlt9)).2) ?_
        refine wd (does_load on_api_Rule rfl ((S.rd 1).one (at_some (0 : Int) (And.intro (show 0 ≤ i9 by omega) (show i9 < (a2.length : Int) from hlt9))) rfl)) ?_
        refine wd (does_mv_i q4_i) ?_
        refine wd (does_as_i rfl) ?_
        refine wd (does_as_i rfl) ?_
        refine wd (does_as_b rfl) ?_
        refine wl_nil ?_
        refine wc_ret ?_
        refine ⟨_, (rets3 (retOne_tmp rfl) (retOne_tmp rfl) (retOne_tmp rfl)), ?_⟩
        replace S : St A N w w14 [] [] := S.arr [] []
        obtain rfl := Option.some.inj H
        obtain rfl := e9
        obtain rfl := aft_r Ho9
        obtain rfl := e4
        obtain rfl := aft_r Ho4
        exact ⟨rfl, S⟩
      replace H := if_f hc16 H
      refine wc_skip ?_
      refine wc_region ?_
      refine wd (does_mv_i q9_i) ?_
      refine wd (does_addc rfl rfl (c := i9 + 1) rfl (by omega) (by omega)) ?_
      refine wd (does_as_i rfl) ?_
      refine wl_nil ?_
      obtain rfl := Option.some.inj H
      exact ⟨rfl, ((((((((((((((((Dif.self _ _ _).upd rfl _).upd rfl _).upd rfl _).upd rfl _).upd rfl _).upd rfl _).upd rfl _).upd rfl _).upd rfl _).upd rfl _).upd rfl _).upd rfl _).upd rfl _).upd rfl _).upd rfl _), (m9, i9 + 1, ()), ⟨(by dsimp only; omega), (by dsimp only; omega), e9, rfl, S⟩, by dsimp only; omega⟩
    rintro g18 u19 ⟨s9, rfl, S⟩
    have H := Ho9
    dsimp only [aft] at H
    refine wc_region ?_
    refine wd (does_mv_i q4_i) ?_
    refine wd (does_addc rfl rfl (c := i4 + 1) rfl (by omega) (by omega)) ?_
    refine wd (does_as_i rfl) ?_
    refine wl_nil ?_
    obtain rfl := Option.some.inj H
    exact ⟨rfl, (((((((((((((Dif.self _ _ _).upd rfl _).upd rfl _).upd rfl _).upd rfl _).upd rfl _).upd rfl _).upd rfl _).upd rfl _).mask rfl _).upd rfl _).upd rfl _).upd rfl _), (m4, i4 + 1, ()), ⟨(by dsimp only; omega), (by dsimp only; omega), e4, rfl, S⟩, by dsimp only; omega⟩
  rintro g20 u21 ⟨s4, rfl, S⟩
  have H := Ho4
  dsimp only [aft] at H
  refine wc_seq (wc_region ?_)
  refine wd (does_as_i rfl) ?_
  refine wd (does_as_i rfl) ?_
  refine wd (does_as_b rfl) ?_
  refine wl_nil ?_
  refine wc_ret ?_
  refine ⟨_, (rets3 (retOne_tmp rfl) (retOne_tmp rfl) (retOne_tmp rfl)), ?_⟩
  replace S : St A N w u21 [] [] := S.arr [] []
  obtain rfl := Option.some.inj H
  exact ⟨rfl, S⟩
theorem ref09_Apply_st {A : Nat → Prop} {N : Oth} {w : World} {a0 : Tb} {a_0 : Option Addr} {a1 : Sq} (S : St A N w w [] [oR a_0 a0]) {r : Int × Int} (H : ref09_Apply.f a0 a1 = some r) :
    Calls PP F_ref09_Apply #[.pointer a_0, .agg (Sq.C a1).toArray] w fun e w' => ∃ v, e = .returned v ∧ (v = .tuple #[.int .i64 r.1, .int .i64 r.2] ∧ St A N w w' [] []) := by
  unfold ref09_Apply.f at H
  refine calls_of_wc (n := 38) fn_ref09_Apply rfl rfl (by simp) ?_
  refine wc_seq (wc_region ?_)
  refine wl_box_agg rfl (by decide) fun b2 w1 hw1 => ?_
  replace S : St A N w w1 [oB b2 T_Sq (Sq.C a1)] [oR a_0 a0] := S.new hw1
  refine wd (does_as_i rfl) ?_
  refine wd (does_as_i rfl) ?_
  refine wl_nil ?_
  refine wc_seq (wc_region ?_)
  refine wl_lits (C := IC) (l := [1]) (vs := [.int .i64 1]) sl_L_api_Rule el_api_Rule.zero rfl rfl (fun _ _ => rfl) (by decide) rfl (by decide) fun b4 w3 s5 hBw3 hw3 => ?_
  replace S : St A N w w3 [oS T_api_Rule 1 IC s5 ([1]), oB b2 T_Sq (Sq.C a1)] [oR a_0 a0] := S.lit hBw3 hw3 (by simp)
  refine wl_lits (C := IC) (l := [2]) (vs := [.int .i64 2]) sl_L_api_Rule el_api_Rule.zero rfl rfl (fun _ _ => rfl) (by decide) rfl (by decide) fun b7 w6 s8 hBw6 hw6 => ?_
  replace S : St A N w w6 [oS T_api_Rule 1 IC s8 ([2]), oS T_api_Rule 1 IC s5 ([1]), oB b2 T_Sq (Sq.C a1)] [oR a_0 a0] := S.lit hBw6 hw6 (by simp)
  refine wl_lits (C := IC) (l := [3, 4, 5, 6, 7]) (vs := [.int .i64 3, .int .i64 4, .int .i64 5, .int .i64 6, .int .i64 7]) sl_L_api_Rule el_api_Rule.zero rfl rfl (fun _ _ => rfl) (by decide) rfl (by decide) fun b10 w9 s11 hBw9 hw9 => ?_
  replace S : St A N w w9 [oS T_api_Rule 1 IC s11 ([3, 4, 5, 6, 7]), oS T_api_Rule 1 IC s8 ([2]), oS T_api_Rule 1 IC s5 ([1]), oB b2 T_Sq (Sq.C a1)] [oR a_0 a0] := S.lit hBw9 hw9 (by simp)
  refine wl_lits (C := IC) (l := [8]) (vs := [.int .i64 8]) sl_L_api_Rule el_api_Rule.zero rfl rfl (fun _ _ => rfl) (by decide) rfl (by decide) fun b13 w12 s14 hBw12 hw12 => ?_
  replace S : St A N w w12 [oS T_api_Rule 1 IC s14 ([8]), oS T_api_Rule 1 IC s11 ([3, 4, 5, 6, 7]), oS T_api_Rule 1 IC s8 ([2]), oS T_api_Rule 1 IC s5 ([1]), oB b2 T_Sq (Sq.C a1)] [oR a_0 a0] := S.lit hBw12 hw12 (by simp)
  refine wl_lits (C := IC) (l := [9]) (vs := [.int .i64 9]) sl_L_api_Rule el_api_Rule.zero rfl rfl (fun _ _ => rfl) (by decide) rfl (by decide) fun b16 w15 s17 hBw15 hw15 => ?_
  replace S : St A N w w15 [oS T_api_Rule 1 IC s17 ([9]), oS T_api_Rule 1 IC s14 ([8]), oS T_api_Rule 1 IC s11 ([3, 4, 5, 6, 7]), oS T_api_Rule 1 IC s8 ([2]), oS T_api_Rule 1 IC s5 ([1]), oB b2 T_Sq (Sq.C a1)] [oR a_0 a0] := S.lit hBw15 hw15 (by simp)
  refine wl_lits (C := IC) (l := [10]) (vs := [.int .i64 10]) sl_L_api_Rule el_api_Rule.zero rfl rfl (fun _ _ => rfl) (by decide) rfl (by decide) fun b19 w18 s20 hBw18 hw18 => ?_
  replace S : St A N w w18 [oS T_api_Rule 1 IC s20 ([10]), oS T_api_Rule 1 IC s17 ([9]), oS T_api_Rule 1 IC s14 ([8]), oS T_api_Rule 1 IC s11 ([3, 4, 5, 6, 7]), oS T_api_Rule 1 IC s8 ([2]), oS T_api_Rule 1 IC s5 ([1]), oB b2 T_Sq (Sq.C a1)] [oR a_0 a0] := S.lit hBw18 hw18 (by simp)
  refine wl_lits (C := LC) (l := [s5, s8, s11, s14, s17, s20]) (vs := [s5.v, s8.v, s11.v, s14.v, s17.v, s20.v]) sl_L_L_api_Rule el_L_api_Rule.zero rfl (by simp only [List.map_cons, List.map_nil, SlV.cells, LC]) (fun _ _ => rfl) (by decide) rfl (by decide) fun b22 w21 s23 hBw21 hw21 => ?_
  replace S : St A N w w21 [oS T_L_api_Rule 1 LC s23 ([s5, s8, s11, s14, s17, s20]), oS T_api_Rule 1 IC s20 ([10]), oS T_api_Rule 1 IC s17 ([9]), oS T_api_Rule 1 IC s14 ([8]), oS T_api_Rule 1 IC s11 ([3, 4, 5, 6, 7]), oS T_api_Rule 1 IC s8 ([2]), oS T_api_Rule 1 IC s5 ([1]), oB b2 T_Sq (Sq.C a1)] [oR a_0 a0] := S.lit hBw21 hw21 (by simp)
  refine wd (does_as_l rfl) ?_
  refine wl_nil ?_
  refine wc_seq (wc_seq (wc_region ?_))
  refine wd (does_as_i rfl) ?_
  refine wl_nil ?_
  refine wc_block ?_
  refine wc_rounds 7 ?_
  refine rounds_s ?_
  refine wc_seq (wc_seq (wc_region ?_))
  refine wd (does_mv_i rfl) ?_
  refine wd (does_mv_l rfl) ?_
  refine wd (does_lenR sl_L_L_api_Rule rfl (S.rdO 0)) ?_
  refine wd (does_lt rfl rfl) ?_
  refine wl_nil ?_
  refine wc_true rfl ?_
  refine wc_skip ?_
  refine wc_seq ?_
  refine wc_block ?_
  refine wc_seq ?_
  refine wc_quiet 13 (Ext w21) hmix (by kernel_rfl) (by kernel_rfl) (Ext.drawn _) ?_
  refine wq_does (fun v K => does_mv_p rfl) ?_
  refine wq_does (fun v K => does_load_agg ag_Sq rfl (((S.ext K).blk 7).all _ (Sq.len _)) (Sq.len _)) ?_
  refine wq_does (fun v K => does_mv_l rfl) ?_
  refine wq_does (fun v K => does_mv_i rfl) ?_
  refine wq_does (fun v K => does_indexR sl_L_L_api_Rule rfl rfl ((S.ext K).rdO 0) (by decide) (by simp)) ?_
  refine wq_does (fun v K => does_load on_L_api_Rule rfl (((S.ext K).rdO 0).one (at_some SlV.nil (And.intro (by decide) (by simp))) rfl)) ?_
  obtain ⟨r26, er26, H⟩ := bind_ex H
  refine wq_call (fun v => does_call ca_ref09_first) (fun v K => (have ⟨M, SS⟩ := (S.ext K).lend ((.z 0 rfl (.s 6 rfl .nil))); quiet (ref09_first_st SS er26) (fun v w' h => ⟨h.1, _, _, h.2⟩))) (fun v v' K h => K.thenExt h) ?_
  refine wq_does (fun v K => does_mv_t rfl) ?_
  refine wq_does (fun v K => does_extract rfl rfl) ?_
  refine wq_does (fun v K => does_extract rfl rfl) ?_
  refine wq_does (fun v K => does_extract rfl rfl) ?_
  refine wq_does (fun v K => does_as_i rfl) ?_
  refine wq_does (fun v K => does_as_i rfl) ?_
  refine wq_nil fun w27 K => ?_
  replace S := S.ext K
  clear K
  refine wd (does_as_b rfl) ?_
  refine wl_nil ?_
  refine wc_seq (wc_region ?_)
  refine wd (does_mv_b rfl) ?_
  refine wl_nil ?_
  refine wc_if rfl (fun hc28 => ?_) (fun hc28 => ?_)
  · replace H := if_t hc28 H
    refine wc_seq (wc_region ?_)
    refine wd (does_mv_i rfl) ?_
    refine wd (does_mv_i rfl) ?_
    refine wd (does_as_i rfl) ?_
    refine wd (does_as_i rfl) ?_
    refine wl_nil ?_
    refine wc_ret ?_
    refine ⟨_, (rets2 (retOne_tmp rfl) (retOne_tmp rfl)), ?_⟩
    replace S : St A N w w27 [] [] := S.arr [] []
    obtain rfl := Option.some.inj H
    exact ⟨rfl, S⟩
  replace H := if_f hc28 H
  refine wc_skip ?_
  refine wc_region ?_
  refine wd (does_mv_i rfl) ?_
  refine wd (does_addc rfl rfl (c := 1) rfl (by decide) (by decide)) ?_
  refine wd (does_as_i rfl) ?_
  refine wl_nil ?_
  refine ⟨rfl, ?_⟩
  refine rounds_s ?_
  refine wc_seq (wc_seq (wc_region ?_))
  refine wd (does_mv_i rfl) ?_
  refine wd (does_mv_l rfl) ?_
  refine wd (does_lenR sl_L_L_api_Rule rfl (S.rdO 0)) ?_
  refine wd (does_lt rfl rfl) ?_
  refine wl_nil ?_
  refine wc_true rfl ?_
  refine wc_skip ?_
  refine wc_seq ?_
  refine wc_block ?_
  refine wc_seq ?_
  refine wc_quiet 13 (Ext w27) hmix (by kernel_rfl) (by kernel_rfl) (Ext.drawn _) ?_
  refine wq_does (fun v K => does_mv_p rfl) ?_
  refine wq_does (fun v K => does_load_agg ag_Sq rfl (((S.ext K).blk 7).all _ (Sq.len _)) (Sq.len _)) ?_
  refine wq_does (fun v K => does_mv_l rfl) ?_
  refine wq_does (fun v K => does_mv_i rfl) ?_
  refine wq_does (fun v K => does_indexR sl_L_L_api_Rule rfl rfl ((S.ext K).rdO 0) (by decide) (by simp)) ?_
  refine wq_does (fun v K => does_load on_L_api_Rule rfl (((S.ext K).rdO 0).one (at_some SlV.nil (And.intro (by decide) (by simp))) rfl)) ?_
  obtain ⟨r31, er31, H⟩ := bind_ex H
  refine wq_call (fun v => does_call ca_ref09_first) (fun v K => (have ⟨M, SS⟩ := (S.ext K).lend ((.z 0 rfl (.s 5 rfl .nil))); quiet (ref09_first_st SS er31) (fun v w' h => ⟨h.1, _, _, h.2⟩))) (fun v v' K h => K.thenExt h) ?_
  refine wq_does (fun v K => does_mv_t rfl) ?_
  refine wq_does (fun v K => does_extract rfl rfl) ?_
  refine wq_does (fun v K => does_extract rfl rfl) ?_
  refine wq_does (fun v K => does_extract rfl rfl) ?_
  refine wq_does (fun v K => does_as_i rfl) ?_
  refine wq_does (fun v K => does_as_i rfl) ?_
  refine wq_nil fun w32 K => ?_
  replace S := S.ext K
  clear K
  refine wd (does_as_b rfl) ?_
  refine wl_nil ?_
  refine wc_seq (wc_region ?_)
  refine wd (does_mv_b rfl) ?_
  refine wl_nil ?_
  refine wc_if rfl (fun hc33 => ?_) (fun hc33 => ?_)
  · replace H := if_t hc33 H
    refine wc_seq (wc_region ?_)
    refine wd (does_mv_i rfl) ?_
    refine wd (does_mv_i rfl) ?_
    refine wd (does_as_i rfl) ?_
    refine wd (does_as_i rfl) ?_
    refine wl_nil ?_
    refine wc_ret ?_
    refine ⟨_, (rets2 (retOne_tmp rfl) (retOne_tmp rfl)), ?_⟩
    replace S : St A N w w32 [] [] := S.arr [] []
    obtain rfl := Option.some.inj H
    exact ⟨rfl, S⟩
  replace H := if_f hc33 H
  refine wc_skip ?_
  refine wc_region ?_
  refine wd (does_mv_i rfl) ?_
  refine wd (does_addc rfl rfl (c := 2) rfl (by decide) (by decide)) ?_
  refine wd (does_as_i rfl) ?_
  refine wl_nil ?_
  refine ⟨rfl, ?_⟩
  refine rounds_s ?_
  refine wc_seq (wc_seq (wc_region ?_))
  refine wd (does_mv_i rfl) ?_
  refine wd (does_mv_l rfl) ?_
  refine wd (does_lenR sl_L_L_api_Rule rfl (S.rdO 0)) ?_
  refine wd (does_lt rfl rfl) ?_
  refine wl_nil ?_
  refine wc_true rfl ?_
  refine wc_skip ?_
  refine wc_seq ?_
  refine wc_block ?_
  refine wc_seq ?_
  refine wc_quiet 13 (Ext w32) hmix (by kernel_rfl) (by kernel_rfl) (Ext.drawn _) ?_
  refine wq_does (fun v K => does_mv_p rfl) ?_
  refine wq_does (fun v K => does_load_agg ag_Sq rfl (((S.ext K).blk 7).all _ (Sq.len _)) (Sq.len _)) ?_
  refine wq_does (fun v K => does_mv_l rfl) ?_
  refine wq_does (fun v K => does_mv_i rfl) ?_
  refine wq_does (fun v K => does_indexR sl_L_L_api_Rule rfl rfl ((S.ext K).rdO 0) (by decide) (by simp)) ?_
  refine wq_does (fun v K => does_load on_L_api_Rule rfl (((S.ext K).rdO 0).one (at_some SlV.nil (And.intro (by decide) (by simp))) rfl)) ?_
  obtain ⟨r36, er36, H⟩ := bind_ex H
  refine wq_call (fun v => does_call ca_ref09_first) (fun v K => (have ⟨M, SS⟩ := (S.ext K).lend ((.z 0 rfl (.s 4 rfl .nil))); quiet (ref09_first_st SS er36) (fun v w' h => ⟨h.1, _, _, h.2⟩))) (fun v v' K h => K.thenExt h) ?_
  refine wq_does (fun v K => does_mv_t rfl) ?_
  refine wq_does (fun v K => does_extract rfl rfl) ?_
  refine wq_does (fun v K => does_extract rfl rfl) ?_
  refine wq_does (fun v K => does_extract rfl rfl) ?_
  refine wq_does (fun v K => does_as_i rfl) ?_
  refine wq_does (fun v K => does_as_i rfl) ?_
  refine wq_nil fun w37 K => ?_
  replace S := S.ext K
  clear K
  refine wd (does_as_b rfl) ?_
  refine wl_nil ?_
  refine wc_seq (wc_region ?_)
  refine wd (does_mv_b rfl) ?_
  refine wl_nil ?_
  refine wc_if rfl (fun hc38 => ?_) (fun hc38 => ?_)
  · replace H := if_t hc38 H
    refine wc_seq (wc_region ?_)
    refine wd (does_mv_i rfl) ?_
    refine wd (does_mv_i rfl) ?_
    refine wd (does_as_i rfl) ?_
    refine wd (does_as_i rfl) ?_
    refine wl_nil ?_
    refine wc_ret ?_
    refine ⟨_, (rets2 (retOne_tmp rfl) (retOne_tmp rfl)), ?_⟩
    replace S : St A N w w37 [] [] := S.arr [] []
    obtain rfl := Option.some.inj H
    exact ⟨rfl, S⟩
  replace H := if_f hc38 H
  refine wc_skip ?_
  refine wc_region ?_
  refine wd (does_mv_i rfl) ?_
  refine wd (does_addc rfl rfl (c := 3) rfl (by decide) (by decide)) ?_
  refine wd (does_as_i rfl) ?_
  refine wl_nil ?_
  refine ⟨rfl, ?_⟩
  refine rounds_s ?_
  refine wc_seq (wc_seq (wc_region ?_))
  refine wd (does_mv_i rfl) ?_
  refine wd (does_mv_l rfl) ?_
  refine wd (does_lenR sl_L_L_api_Rule rfl (S.rdO 0)) ?_
  refine wd (does_lt rfl rfl) ?_
  refine wl_nil ?_
  refine wc_true rfl ?_
  refine wc_skip ?_
  refine wc_seq ?_
  refine wc_block ?_
  refine wc_seq ?_
  refine wc_quiet 13 (Ext w37) hmix (by kernel_rfl) (by kernel_rfl) (Ext.drawn _) ?_
  refine wq_does (fun v K => does_mv_p rfl) ?_
  refine wq_does (fun v K => does_load_agg ag_Sq rfl (((S.ext K).blk 7).all _ (Sq.len _)) (Sq.len _)) ?_
  refine wq_does (fun v K => does_mv_l rfl) ?_
  refine wq_does (fun v K => does_mv_i rfl) ?_
  refine wq_does (fun v K => does_indexR sl_L_L_api_Rule rfl rfl ((S.ext K).rdO 0) (by decide) (by simp)) ?_
  refine wq_does (fun v K => does_load on_L_api_Rule rfl (((S.ext K).rdO 0).one (at_some SlV.nil (And.intro (by decide) (by simp))) rfl)) ?_
  obtain ⟨r41, er41, H⟩ := bind_ex H
  refine wq_call (fun v => does_call ca_ref09_first) (fun v K => (have ⟨M, SS⟩ := (S.ext K).lend ((.z 0 rfl (.s 3 rfl .nil))); quiet (ref09_first_st SS er41) (fun v w' h => ⟨h.1, _, _, h.2⟩))) (fun v v' K h => K.thenExt h) ?_
  refine wq_does (fun v K => does_mv_t rfl) ?_
  refine wq_does (fun v K => does_extract rfl rfl) ?_
  refine wq_does (fun v K => does_extract rfl rfl) ?_
  refine wq_does (fun v K => does_extract rfl rfl) ?_
  refine wq_does (fun v K => does_as_i rfl) ?_
  refine wq_does (fun v K => does_as_i rfl) ?_
  refine wq_nil fun w42 K => ?_
  replace S := S.ext K
  clear K
  refine wd (does_as_b rfl) ?_
  refine wl_nil ?_
  refine wc_seq (wc_region ?_)
  refine wd (does_mv_b rfl) ?_
  refine wl_nil ?_
  refine wc_if rfl (fun hc43 => ?_) (fun hc43 => ?_)
  · replace H := if_t hc43 H
    refine wc_seq (wc_region ?_)
    refine wd (does_mv_i rfl) ?_
    refine wd (does_mv_i rfl) ?_
    refine wd (does_as_i rfl) ?_
    refine wd (does_as_i rfl) ?_
    refine wl_nil ?_
    refine wc_ret ?_
    refine ⟨_, (rets2 (retOne_tmp rfl) (retOne_tmp rfl)), ?_⟩
    replace S : St A N w w42 [] [] := S.arr [] []
    obtain rfl := Option.some.inj H
    exact ⟨rfl, S⟩
  replace H := if_f hc43 H
  refine wc_skip ?_
  refine wc_region ?_
  refine wd (does_mv_i rfl) ?_
  refine wd (does_addc rfl rfl (c := 4) rfl (by decide) (by decide)) ?_
  refine wd (does_as_i rfl) ?_
  refine wl_nil ?_
  refine ⟨rfl, ?_⟩
  refine rounds_s ?_
  refine wc_seq (wc_seq (wc_region ?_))
  refine wd (does_mv_i rfl) ?_
  refine wd (does_mv_l rfl) ?_
  refine wd (does_lenR sl_L_L_api_Rule rfl (S.rdO 0)) ?_
  refine wd (does_lt rfl rfl) ?_
  refine wl_nil ?_
  refine wc_true rfl ?_
  refine wc_skip ?_
  refine wc_seq ?_
  refine wc_block ?_
  refine wc_seq ?_
  refine wc_quiet 13 (Ext w42) hmix (by kernel_rfl) (by kernel_rfl) (Ext.drawn _) ?_
  refine wq_does (fun v K => does_mv_p rfl) ?_
  refine wq_does (fun v K => does_load_agg ag_Sq rfl (((S.ext K).blk 7).all _ (Sq.len _)) (Sq.len _)) ?_
  refine wq_does (fun v K => does_mv_l rfl) ?_
  refine wq_does (fun v K => does_mv_i rfl) ?_
  refine wq_does (fun v K => does_indexR sl_L_L_api_Rule rfl rfl ((S.ext K).rdO 0) (by decide) (by simp)) ?_
  refine wq_does (fun v K => does_load on_L_api_Rule rfl (((S.ext K).rdO 0).one (at_some SlV.nil (And.intro (by decide) (by simp))) rfl)) ?_
  obtain ⟨r46, er46, H⟩ := bind_ex H
  refine wq_call (fun v => does_call ca_ref09_first) (fun v K => (have ⟨M, SS⟩ := (S.ext K).lend ((.z 0 rfl (.s 2 rfl .nil))); quiet (ref09_first_st SS er46) (fun v w' h => ⟨h.1, _, _, h.2⟩))) (fun v v' K h => K.thenExt h) ?_
  refine wq_does (fun v K => does_mv_t rfl) ?_
  refine wq_does (fun v K => does_extract rfl rfl) ?_
  refine wq_does (fun v K => does_extract rfl rfl) ?_
  refine wq_does (fun v K => does_extract rfl rfl) ?_
  refine wq_does (fun v K => does_as_i rfl) ?_
  refine wq_does (fun v K => does_as_i rfl) ?_
  refine wq_nil fun w47 K => ?_
  replace S := S.ext K
  clear K
  refine wd (does_as_b rfl) ?_
  refine wl_nil ?_
  refine wc_seq (wc_region ?_)
  refine wd (does_mv_b rfl) ?_
  refine wl_nil ?_
  refine wc_if rfl (fun hc48 => ?_) (fun hc48 => ?_)
  · replace H := if_t hc48 H
    refine wc_seq (wc_region ?_)
    refine wd (does_mv_i rfl) ?_
    refine wd (does_mv_i rfl) ?_
    refine wd (does_as_i rfl) ?_
    refine wd (does_as_i rfl) ?_
    refine wl_nil ?_
    refine wc_ret ?_
    refine ⟨_, (rets2 (retOne_tmp rfl) (retOne_tmp rfl)), ?_⟩
    replace S : St A N w w47 [] [] := S.arr [] []
    obtain rfl := Option.some.inj H
    exact ⟨rfl, S⟩
  replace H := if_f hc48 H
  refine wc_skip ?_
  refine wc_region ?_
  refine wd (does_mv_i rfl) ?_
  refine wd (does_addc rfl rfl (c := 5) rfl (by decide) (by decide)) ?_
  refine wd (does_as_i rfl) ?_
  refine wl_nil ?_
  refine ⟨rfl, ?_⟩
  refine rounds_s ?_
  refine wc_seq (wc_seq (wc_region ?_))
  refine wd (does_mv_i rfl) ?_
  refine wd (does_mv_l rfl) ?_
  refine wd (does_lenR sl_L_L_api_Rule rfl (S.rdO 0)) ?_
  refine wd (does_lt rfl rfl) ?_
  refine wl_nil ?_
  refine wc_true rfl ?_
  refine wc_skip ?_
  refine wc_seq ?_
  refine wc_block ?_
  refine wc_seq ?_
  refine wc_quiet 13 (Ext w47) hmix (by kernel_rfl) (by kernel_rfl) (Ext.drawn _) ?_
  refine wq_does (fun v K => does_mv_p rfl) ?_
  refine wq_does (fun v K => does_load_agg ag_Sq rfl (((S.ext K).blk 7).all _ (Sq.len _)) (Sq.len _)) ?_
  refine wq_does (fun v K => does_mv_l rfl) ?_
  refine wq_does (fun v K => does_mv_i rfl) ?_
  refine wq_does (fun v K => does_indexR sl_L_L_api_Rule rfl rfl ((S.ext K).rdO 0) (by decide) (by simp)) ?_
  refine wq_does (fun v K => does_load on_L_api_Rule rfl (((S.ext K).rdO 0).one (at_some SlV.nil (And.intro (by decide) (by simp))) rfl)) ?_
  obtain ⟨r51, er51, H⟩ := bind_ex H
  refine wq_call (fun v => does_call ca_ref09_first) (fun v K => (have ⟨M, SS⟩ := (S.ext K).lend ((.z 0 rfl (.s 1 rfl .nil))); quiet (ref09_first_st SS er51) (fun v w' h => ⟨h.1, _, _, h.2⟩))) (fun v v' K h => K.thenExt h) ?_
  refine wq_does (fun v K => does_mv_t rfl) ?_
  refine wq_does (fun v K => does_extract rfl rfl) ?_
  refine wq_does (fun v K => does_extract rfl rfl) ?_
  refine wq_does (fun v K => does_extract rfl rfl) ?_
  refine wq_does (fun v K => does_as_i rfl) ?_
  refine wq_does (fun v K => does_as_i rfl) ?_
  refine wq_nil fun w52 K => ?_
  replace S := S.ext K
  clear K
  refine wd (does_as_b rfl) ?_
  refine wl_nil ?_
  refine wc_seq (wc_region ?_)
  refine wd (does_mv_b rfl) ?_
  refine wl_nil ?_
  refine wc_if rfl (fun hc53 => ?_) (fun hc53 => ?_)
  · replace H := if_t hc53 H
    refine wc_seq (wc_region ?_)
    refine wd (does_mv_i rfl) ?_
    refine wd (does_mv_i rfl) ?_
    refine wd (does_as_i rfl) ?_
    refine wd (does_as_i rfl) ?_
    refine wl_nil ?_
    refine wc_ret ?_
    refine ⟨_, (rets2 (retOne_tmp rfl) (retOne_tmp rfl)), ?_⟩
    replace S : St A N w w52 [] [] := S.arr [] []
    obtain rfl := Option.some.inj H
    exact ⟨rfl, S⟩
  replace H := if_f hc53 H
  refine wc_skip ?_
  refine wc_region ?_
  refine wd (does_mv_i rfl) ?_
  refine wd (does_addc rfl rfl (c := 6) rfl (by decide) (by decide)) ?_
  refine wd (does_as_i rfl) ?_
  refine wl_nil ?_
  refine ⟨rfl, ?_⟩
  refine rounds_s ?_
  refine wc_seq (wc_seq (wc_region ?_))
  refine wd (does_mv_i rfl) ?_
  refine wd (does_mv_l rfl) ?_
  refine wd (does_lenR sl_L_L_api_Rule rfl (S.rdO 0)) ?_
  refine wd (does_lt rfl rfl) ?_
  refine wl_nil ?_
  refine wc_false rfl ?_
  refine wc_exit ?_
  refine wc_seq (wc_region ?_)
  refine wd (does_as_i rfl) ?_
  refine wd (does_as_i rfl) ?_
  refine wl_nil ?_
  refine wc_ret ?_
  refine ⟨_, (rets2 (retOne_tmp rfl) (retOne_tmp rfl)), ?_⟩
  replace S : St A N w w52 [] [] := S.arr [] []
  obtain rfl := Option.some.inj H
  exact ⟨rfl, S⟩
theorem ref09_Choices_st {A : Nat → Prop} {N : Oth} {w : World} {a0 : Tb} {a_0 : Option Addr} {a1 : Sq} (S : St A N w w [] [oR a_0 a0]) {r : List Int × List Int} (H : ref09_Choices.f a0 a1 = some r) :
    Calls PP F_ref09_Choices #[.pointer a_0, .agg (Sq.C a1).toArray] w fun e w' => ∃ v, e = .returned v ∧ (∃ so0 : SlV, ∃ so1 : SlV, v = .tuple #[so0.v, so1.v] ∧ St A N w w' [oS T_api_Rule 1 IC so0 r.1, oS T_int 1 IC so1 r.2] []) := by
  unfold ref09_Choices.f at H
  refine calls_of_wc (n := 56) fn_ref09_Choices rfl rfl (by simp) ?_
  refine wc_seq (wc_region ?_)
  refine wl_box_agg rfl (by decide) fun b2 w1 hw1 => ?_
  replace S : St A N w w1 [oB b2 T_Sq (Sq.C a1)] [oR a_0 a0] := S.new hw1
  refine wd (does_as_nil) ?_
  refine wd (does_as_nil) ?_
  refine wl_nil ?_
  refine wc_seq (wc_region ?_)
  refine wd (does_mv_p rfl) ?_
  refine wd (does_load_agg ag_Sq rfl ((S.blk 0).all _ (Sq.len _)) (Sq.len _)) ?_
  obtain ⟨r3, er3, H⟩ := bind_ex H
  obtain ⟨B5, MB5, SB5, back⟩ := S.calln 0 ((.z 0 rfl .nil))
  refine wl_call (does_call ca_ref09_Apply) (by decide) (ref09_Apply_st SB5 er3) ?_
  rintro _ w4 ⟨rfl, S2⟩
  replace S : St A N w w4 [oB b2 T_Sq (Sq.C a1)] [oR a_0 a0] := back _ _ _ _ S2 rfl
  clear back S2 SB5
  refine wd (does_mv_t rfl) ?_
  refine wd (does_extract rfl rfl) ?_
  refine wd (does_extract rfl rfl) ?_
  refine wd (does_as_i rfl) ?_
  refine wd (does_as_i rfl) ?_
  refine wl_nil ?_
  refine wc_seq (wc_seq (wc_region ?_))
  refine wd (does_mv_i rfl) ?_
  refine wd (does_ne rfl rfl) ?_
  refine wl_nil ?_
  refine wc_if rfl (fun hc6 => ?_) (fun hc6 => ?_)
  · replace H := if_t hc6 H
    refine wc_seq (wc_region ?_)
    refine wd (does_as_nil) ?_
    refine wd (does_as_nil) ?_
    refine wl_nil ?_
    refine wc_ret ?_
    replace S : St A N w w4 [oS T_api_Rule 1 IC SlV.nil ([] : List Int), oB b2 T_Sq (Sq.C a1)] [oR a_0 a0] := S.nil T_api_Rule 1 IC
    replace S : St A N w w4 [oS T_int 1 IC SlV.nil ([] : List Int), oS T_api_Rule 1 IC SlV.nil ([] : List Int), oB b2 T_Sq (Sq.C a1)] [oR a_0 a0] := S.nil T_int 1 IC
    refine ⟨_, (rets2 (retOne_tmp rfl) (retOne_tmp rfl)), ?_⟩
    replace S : St A N w w4 [oS T_api_Rule 1 IC SlV.nil ([] : List Int), oS T_int 1 IC SlV.nil ([] : List Int)] [] := S.arr [1, 0] []
    obtain rfl := Option.some.inj H
    exact ⟨SlV.nil, SlV.nil, rfl, S⟩
  replace H := if_f hc6 H
  refine wc_skip ?_
  refine wc_seq (wc_region ?_)
  refine wd (does_as_nil) ?_
  refine wl_nil ?_
  refine wc_seq (wc_region ?_)
  refine wd (does_as_nil) ?_
  refine wl_nil ?_
  refine wc_seq (wc_seq (wc_region ?_))
  refine wd (does_mv_p rfl) ?_
  refine wd (does_fieldAddr fl_Sq_goal rfl (o' := 16) rfl) ?_
  refine wd (does_load on_int rfl ((S.blk 0).cell (Sq.get_goal _))) ?_
  obtain ⟨r7, er7, H⟩ := bind_ex H
  obtain ⟨B9, MB9, SB9, back⟩ := S.calln 0 ((.z 0 rfl .nil))
  refine wl_call (does_call ca_ref09_kind) (by decide) (ref09_kind_st SB9 er7) ?_
  rintro _ w8 ⟨rfl, S2⟩
  replace S : St A N w w8 [oB b2 T_Sq (Sq.C a1)] [oR a_0 a0] := back _ _ _ _ S2 rfl
  clear back S2 SB9
  refine wd (does_eq rfl rfl) ?_
  refine wl_nil ?_
  replace S : St A N w w8 [oS T_api_Rule 1 IC SlV.nil ([] : List Int), oB b2 T_Sq (Sq.C a1)] [oR a_0 a0] := S.nil T_api_Rule 1 IC
  replace S : St A N w w8 [oS T_int 1 IC SlV.nil ([] : List Int), oS T_api_Rule 1 IC SlV.nil ([] : List Int), oB b2 T_Sq (Sq.C a1)] [oR a_0 a0] := S.nil T_int 1 IC
  obtain ⟨o10, e10, Ho10⟩ := bind_ex H
  replace H := e10; clear e10
  refine wc_cutq [8, 9, 24, 25, 26, 27, 28, 29, 30, 31, 32, 33] (fun fr W => ∃ s11 : SlV, ∃ s12 : SlV, fr 8 = s11.v ∧ fr 9 = s12.v ∧ St A N w W [oS T_int 1 IC s12 o10.2, oS T_api_Rule 1 IC s11 o10.1, oB b2 T_Sq (Sq.C a1)] [oR a_0 a0]) ?_ ?_
  · refine wc_if rfl (fun hc13 => ?_) (fun hc13 => ?_)
    · replace H := if_t hc13 H
      refine wc_seq (wc_region ?_)
      refine wd (does_mv_l rfl) ?_
      refine wl_lits (C := IC) (l := [11, 12]) (vs := [.int .i64 11, .int .i64 12]) sl_L_api_Rule el_api_Rule.zero rfl rfl (fun _ _ => rfl) (by decide) rfl (by decide) fun b15 w14 s16 hBw14 hw14 => ?_
      replace S : St A N w w14 [oS T_api_Rule 1 IC s16 ([11, 12]), oS T_int 1 IC SlV.nil ([] : List Int), oS T_api_Rule 1 IC SlV.nil ([] : List Int), oB b2 T_Sq (Sq.C a1)] [oR a_0 a0] := S.lit hBw14 hw14 (by simp)
      obtain ⟨ha19, H⟩ := chk_ex H
      have ha19 := of_decide_eq_true ha19
      refine wl_appends (C := IC) sl_L_api_Rule el_api_Rule rfl rfl (S.sl 2) (S.rdO 0) (by simp) (fun a _ v hv => by rw [List.mem_singleton.1 hv]; rfl) ha19 (by omega) (by decide) fun s18 w17 O hw17 gw17 => ?_
      replace S : St A N w w17 [oS T_api_Rule 1 IC s18 (([] : List Int) ++ [11, 12]), oS T_api_Rule 1 IC s16 ([11, 12]), oS T_int 1 IC SlV.nil ([] : List Int), oB b2 T_Sq (Sq.C a1)] [oR a_0 a0] := S.push 2 O (by first | (simp; done) | (simp; omega)) hw17 gw17
      clear O
      refine wd (does_as_l rfl) ?_
      refine wl_nil ?_
      refine wc_region ?_
      refine wd (does_mv_l rfl) ?_
      refine wd (does_fieldAddr fl_Sq_goal rfl (o' := 16) rfl) ?_
      refine wd (does_load on_int rfl ((S.blk 3).cell (Sq.get_goal _))) ?_
      refine wd (does_fieldAddr fl_Sq_goal rfl (o' := 16) rfl) ?_
      refine wd (does_load on_int rfl ((S.blk 3).cell (Sq.get_goal _))) ?_
      refine wl_lits (C := IC) (l := [a1.goal, a1.goal]) (vs := [.int .i64 a1.goal, .int .i64 a1.goal]) sl_L_int el_int.zero rfl rfl (fun _ _ => rfl) (by decide) rfl (by decide) fun b21 w20 s22 hBw20 hw20 => ?_
      replace S : St A N w w20 [oS T_int 1 IC s22 ([a1.goal, a1.goal]), oS T_api_Rule 1 IC s18 (([] : List Int) ++ [11, 12]), oS T_api_Rule 1 IC s16 ([11, 12]), oS T_int 1 IC SlV.nil ([] : List Int), oB b2 T_Sq (Sq.C a1)] [oR a_0 a0] := S.lit hBw20 hw20 (by simp)
      obtain ⟨ha25, H⟩ := chk_ex H
      have ha25 := of_decide_eq_true ha25
      refine wl_appends (C := IC) sl_L_int el_int rfl rfl (S.sl 3) (S.rdO 0) (by simp) (fun a _ v hv => by rw [List.mem_singleton.1 hv]; rfl) ha25 (by omega) (by decide) fun s24 w23 O hw23 gw23 => ?_
      replace S : St A N w w23 [oS T_int 1 IC s24 (([] : List Int) ++ [a1.goal, a1.goal]), oS T_int 1 IC s22 ([a1.goal, a1.goal]), oS T_api_Rule 1 IC s18 (([] : List Int) ++ [11, 12]), oS T_api_Rule 1 IC s16 ([11, 12]), oB b2 T_Sq (Sq.C a1)] [oR a_0 a0] := S.push 3 O (by first | (simp; done) | (simp; omega)) hw23 gw23
      clear O
      refine wd (does_as_l rfl) ?_
      refine wl_nil ?_
      replace S : St A N w w23 [oS T_int 1 IC s24 (([] : List Int) ++ [a1.goal, a1.goal]), oS T_api_Rule 1 IC s18 (([] : List Int) ++ [11, 12]), oB b2 T_Sq (Sq.C a1)] [oR a_0 a0] := S.arr [0, 2, 4] [0]
      obtain rfl := Option.some.inj H
      exact ⟨rfl, (((((((((((((Dif.refl _ _).upd rfl _).upd rfl _).upd rfl _).upd rfl _).upd rfl _).upd rfl _).upd rfl _).upd rfl _).upd rfl _).upd rfl _).upd rfl _).upd rfl _), s18, s24, rfl, rfl, S⟩
    · replace H := if_f hc13 H
      refine wc_skip ?_
      obtain rfl := Option.some.inj H
      exact ⟨rfl, (Dif.refl _ _), SlV.nil, SlV.nil, rfl, rfl, S⟩
  rintro g26 u27 ⟨s11, s12, p10_8, p10_9, S⟩
  have H := Ho10
  refine wc_seq (wc_seq (wc_region ?_))
  refine wd (does_as_i rfl) ?_
  refine wl_nil ?_
  obtain ⟨ht28, H⟩ := chk_ex H
  obtain ⟨o29, e29, Ho29⟩ := bind_ex H
  clear H
  refine wc_cutq [8, 9, 10, 34, 35, 36, 37, 38, 39, 40, 41, 42, 43, 44, 45, 46, 47, 48, 49, 50, 51, 52, 53] (fun fr W => ∃ s30 : SlV, ∃ s31 : SlV, fr 8 = s30.v ∧ fr 9 = s31.v ∧ St A N w W [oS T_int 1 IC s31 o29.2, oS T_api_Rule 1 IC s30 o29.1, oB b2 T_Sq (Sq.C a1)] [oR a_0 a0]) ?_ ?_
  · refine wc_block ?_
    refine wc_loopm (α := Nat × Int × (List Int × List Int)) [8, 9, 10, 34, 35, 36, 37, 38, 39, 40, 41, 42, 43, 44, 45, 46, 47, 48, 49, 50, 51, 52, 53] (fun x fr W => (x.1 : Int) = ((a0.getD []).length : Int) - x.2.1 ∧ 0 ≤ x.2.1 ∧ forS (fun i s => ref09_Choices.b0 a0 a1 i s.1 s.2) x.1 x.2.1 x.2.2 = some o29 ∧ ∃ s32 : SlV, ∃ s33 : SlV, fr 10 = .int .i64 x.2.1 ∧ fr 8 = s32.v ∧ fr 9 = s33.v ∧ St A N w W [oS T_int 1 IC s33 (x.2.2.2), oS T_api_Rule 1 IC s32 (x.2.2.1), oB b2 T_Sq (Sq.C a1)] [oR a_0 a0]) (fun x => x.1) ((((a0.getD []).length : Int) - 0).toNat, 0, (o10.1, o10.2)) ⟨(by dsimp only; have hle := Int.natCast_nonneg ((a0.getD []).length); omega), (Int.le_refl _), (by dsimp only; exact e29), s11, s12, rfl, p10_8, p10_9, S⟩ ?_
    rintro ⟨m29, i29, ⟨x29_0, x29_1⟩⟩ g29 u29 ⟨hm29, hl29, e29, s34, s35, q29_i, q29_8, q29_9, S⟩
    try dsimp only at hm29
    try dsimp only at hl29
    try dsimp only at e29
    try dsimp only at S
    try dsimp only at q29_i
    try dsimp only at q29_8
    try dsimp only at q29_9
    refine wc_seq (wc_seq (wc_region ?_))
    refine wd (does_mv_i q29_i) ?_
    refine wd (does_mv_p rfl) ?_
    obtain ⟨p36, s37, hp38, S⟩ := S.seeR 0 ht28
    replace S : St A N w u29 [oS T_int 1 IC s35 x29_1, oS T_api_Rule 1 IC s34 x29_0, oB b2 T_Sq (Sq.C a1)] [oB p36 T_RTab (RTab.C ⟨s37⟩), fS 4 Nd.C s37 (a0.getD []), oR a_0 a0] := S
    refine wd (does_nilCheck (congrArg Value.pointer hp38)) ?_
    refine wd (does_fieldAddr fl_RTab_n rfl (o' := 0) rfl) ?_
    refine wd (does_load on_L_api_Node rfl ((S.blkZ 0).cell (RTab.get_n _))) ?_
    refine wd (does_lenR sl_L_api_Node rfl (S.rd 1)) ?_
    refine wd (does_lt rfl rfl) ?_
    replace S : St A N w u29 [oS T_int 1 IC s35 x29_1, oS T_api_Rule 1 IC s34 x29_0, oB b2 T_Sq (Sq.C a1)] [oR a_0 a0] := S.zs [2]
    refine wl_nil ?_
    refine wc_if rfl (fun hc39 => ?_) (fun hc39 => ?_)
    rotate_left
    · refine wc_exit ?_
      have hge : ((a0.getD []).length : Int) ≤ i29 := Int.not_lt.1 (of_decide_eq_false hc39)
      obtain rfl : m29 = 0 := by omega
      replace e29 := forS_0 e29
      obtain rfl := e29
      exact ⟨rfl, ((((((((Dif.self _ _ _).upd rfl _).upd rfl _).upd rfl _).upd rfl _).upd rfl _).upd rfl _).upd rfl _), s34, s35, q29_8, q29_9, S⟩
    refine wc_skip ?_
    have hlt29 : i29 < ((a0.getD []).length : Int) := of_decide_eq_true hc39
    obtain ⟨m29, rfl⟩ : ∃ m, m29 = m + 1 := ⟨m29 - 1, by omega⟩
    obtain ⟨q29, H, e29⟩ := forS_s e29
    unfold ref09_Choices.b0 at H
    try dsimp only at H
    have hb29 := (S.lenRZ 0)
    refine wc_seq ?_
    refine wc_block ?_
    refine wc_seq (wc_region ?_)
    refine wd (does_mv_p rfl) ?_
    refine wd (does_load_agg ag_Sq rfl ((S.blk 2).all _ (Sq.len _)) (Sq.len _)) ?_
    refine wd (does_mv_i q29_i) ?_
    obtain ⟨r40, er40, H⟩ := bind_ex H
    obtain ⟨B42, MB42, SB42, back⟩ := S.calln 0 ((.z 0 rfl .nil))
    refine wl_call (does_call ca_ref09_Fits) (by decide) (ref09_Fits_st SB42 er40) ?_
    rintro _ w41 ⟨rfl, S2⟩
    replace S : St A N w w41 [oS T_int 1 IC s35 x29_1, oS T_api_Rule 1 IC s34 x29_0, oB b2 T_Sq (Sq.C a1)] [oR a_0 a0] := back _ _ _ _ S2 rfl
    clear back S2 SB42
    refine wl_nil ?_
    refine wc_if rfl (fun hc43 => ?_) (fun hc43 => ?_)
    · replace H := if_t hc43 H
      refine wc_seq (wc_region ?_)
      refine wd (does_mv_l q29_8) ?_
      refine wl_lits (C := IC) (l := [13]) (vs := [.int .i64 13]) sl_L_api_Rule el_api_Rule.zero rfl rfl (fun _ _ => rfl) (by decide) rfl (by decide) fun b45 w44 s46 hBw44 hw44 => ?_
      replace S : St A N w w44 [oS T_api_Rule 1 IC s46 ([13]), oS T_int 1 IC s35 x29_1, oS T_api_Rule 1 IC s34 x29_0, oB b2 T_Sq (Sq.C a1)] [oR a_0 a0] := S.lit hBw44 hw44 (by simp)
      obtain ⟨ha49, H⟩ := chk_ex H
      have ha49 := of_decide_eq_true ha49
      refine wl_appends (C := IC) sl_L_api_Rule el_api_Rule rfl rfl (S.sl 2) (S.rdO 0) (by simp) (fun a _ v hv => by rw [List.mem_singleton.1 hv]; rfl) ha49 (by omega) (by decide) fun s48 w47 O hw47 gw47 => ?_
      replace S : St A N w w47 [oS T_api_Rule 1 IC s48 (x29_0 ++ [13]), oS T_api_Rule 1 IC s46 ([13]), oS T_int 1 IC s35 x29_1, oB b2 T_Sq (Sq.C a1)] [oR a_0 a0] := S.push 2 O (by first | (simp; done) | (simp; omega)) hw47 gw47
      clear O
      refine wd (does_as_l rfl) ?_
      refine wl_nil ?_
      refine wc_region ?_
      refine wd (does_mv_l q29_9) ?_
      refine wd (does_mv_i q29_i) ?_
      refine wl_lits (C := IC) (l := [i29]) (vs := [.int .i64 i29]) sl_L_int el_int.zero rfl rfl (fun _ _ => rfl) (by decide) rfl (by decide) fun b51 w50 s52 hBw50 hw50 => ?_
      replace S : St A N w w50 [oS T_int 1 IC s52 ([i29]), oS T_api_Rule 1 IC s48 (x29_0 ++ [13]), oS T_api_Rule 1 IC s46 ([13]), oS T_int 1 IC s35 x29_1, oB b2 T_Sq (Sq.C a1)] [oR a_0 a0] := S.lit hBw50 hw50 (by simp)
      obtain ⟨ha55, H⟩ := chk_ex H
      have ha55 := of_decide_eq_true ha55
      refine wl_appends (C := IC) sl_L_int el_int rfl rfl (S.sl 3) (S.rdO 0) (by simp) (fun a _ v hv => by rw [List.mem_singleton.1 hv]; rfl) ha55 (by omega) (by decide) fun s54 w53 O hw53 gw53 => ?_
      replace S : St A N w w53 [oS T_int 1 IC s54 (x29_1 ++ [i29]), oS T_int 1 IC s52 ([i29]), oS T_api_Rule 1 IC s48 (x29_0 ++ [13]), oS T_api_Rule 1 IC s46 ([13]), oB b2 T_Sq (Sq.C a1)] [oR a_0 a0] := S.push 3 O (by first | (simp; done) | (simp; omega)) hw53 gw53
      clear O
      refine wd (does_as_l rfl) ?_
      refine wl_nil ?_
      refine wc_region ?_
      refine wd (does_mv_i q29_i) ?_
      refine wd (does_addc rfl rfl (c := i29 + 1) rfl (by omega) (by omega)) ?_
      refine wd (does_as_i rfl) ?_
      refine wl_nil ?_
      replace S : St A N w w53 [oS T_int 1 IC s54 (x29_1 ++ [i29]), oS T_api_Rule 1 IC s48 (x29_0 ++ [13]), oB b2 T_Sq (Sq.C a1)] [oR a_0 a0] := S.arr [0, 2, 4] [0]
      obtain rfl := Option.some.inj H
      exact ⟨rfl, ((((((((((((((((((((((((Dif.self _ _ _).upd rfl _).upd rfl _).upd rfl _).upd rfl _).upd rfl _).upd rfl _).upd rfl _).upd rfl _).upd rfl _).upd rfl _).upd rfl _).upd rfl _).upd rfl _).upd rfl _).upd rfl _).upd rfl _).upd rfl _).upd rfl _).upd rfl _).upd rfl _).upd rfl _).upd rfl _).upd rfl _), (m29, i29 + 1, (x29_0 ++ [13], x29_1 ++ [i29])), ⟨(by dsimp only; omega), (by dsimp only; omega), e29, s48, s54, rfl, rfl, rfl, S⟩, by dsimp only; omega⟩
    · replace H := if_f hc43 H
      refine wc_skip ?_
      refine wc_region ?_
      refine wd (does_mv_i q29_i) ?_
      refine wd (does_addc rfl rfl (c := i29 + 1) rfl (by omega) (by omega)) ?_
      refine wd (does_as_i rfl) ?_
      refine wl_nil ?_
      obtain rfl := Option.some.inj H
      exact ⟨rfl, (((((((((((((((Dif.self _ _ _).upd rfl _).upd rfl _).upd rfl _).upd rfl _).upd rfl _).upd rfl _).upd rfl _).upd rfl _).upd rfl _).upd rfl _).upd rfl _).upd rfl _).upd rfl _).upd rfl _), (m29, i29 + 1, (x29_0, x29_1)), ⟨(by dsimp only; omega), (by dsimp only; omega), e29, s34, s35, rfl, q29_8, q29_9, S⟩, by dsimp only; omega⟩
  rintro g56 u57 ⟨s30, s31, p29_8, p29_9, S⟩
  have H := Ho29
  refine wc_seq (wc_region ?_)
  refine wd (does_mv_l p29_8) ?_
  refine wd (does_mv_l p29_9) ?_
  refine wd (does_as_l rfl) ?_
  refine wd (does_as_l rfl) ?_
  refine wl_nil ?_
  refine wc_ret ?_
  refine ⟨_, (rets2 (retOne_tmp rfl) (retOne_tmp rfl)), ?_⟩
  replace S : St A N w u57 [oS T_api_Rule 1 IC s30 o29.1, oS T_int 1 IC s31 o29.2] [] := S.arr [1, 0] []
  obtain rfl := Option.some.inj H
  exact ⟨s30, s31, rfl, S⟩
theorem ref03_From_st {A : Nat → Prop} {N : Oth} {w : World} {a0 : List Nd} {s_0 : SlV} (S : St A N w w [] [fS 4 Nd.C s_0 a0]) {r : Tb × Int} (H : ref03_From.f a0 = some r) :
    Calls PP F_ref03_From #[s_0.v] w fun e w' => ∃ v, e = .returned v ∧ (∃ ao0 : Option Addr, v = .tuple #[.pointer ao0, .int .i64 r.2] ∧ St A N w w' [oR ao0 r.1] []) := by
  unfold ref03_From.f at H
  refine calls_of_wc (n := 32) fn_ref03_From rfl rfl (by simp) ?_
  refine wc_seq (wc_region ?_)
  replace S : St A N w w [oR none none] [fS 4 Nd.C s_0 a0] := S.add (Ext.refl _) (oR.nil _) (fun _ x => x.elim)
  refine wd (does_as_p rfl) ?_
  refine wd (does_as_i rfl) ?_
  refine wl_nil ?_
  refine wc_seq (wc_region ?_)
  refine wd (does_build bu_RTab Bld.nil) ?_
  refine wl_box_agg rfl (by decide) fun b2 w1 hw1 => ?_
  replace S : St A N w w1 [oR (some ⟨b2, 0, none⟩) (some []), oR none none] [fS 4 Nd.C s_0 a0] := ((S.nil T_Nd 4 Nd.C).new hw1).shutR rfl
  refine wd (does_as_p rfl) ?_
  refine wl_nil ?_
  refine wc_seq (wc_seq (wc_region ?_))
  refine wd (does_as_i rfl) ?_
  refine wl_nil ?_
  obtain ⟨o3, e3, Ho3⟩ := bind_ex H
  clear H
  refine wc_cutq [2, 3, 5, 6, 7, 10, 11, 12, 13, 14, 15, 16, 17, 18, 19, 20, 21, 22, 23, 24, 25, 26, 27, 28, 29, 30] (fun fr W => ∃ s3 : Tb, o3 = .inl s3 ∧ St A N w W [oR (some ⟨b2, 0, none⟩) s3, oR none none] [fS 4 Nd.C s_0 a0]) ?_ ?_
  · refine wc_block ?_
    refine wc_loopm (α := Nat × Int × Tb) [2, 3, 5, 6, 7, 10, 11, 12, 13, 14, 15, 16, 17, 18, 19, 20, 21, 22, 23, 24, 25, 26, 27, 28, 29, 30] (fun x fr W => (x.1 : Int) = (a0.length : Int) - x.2.1 ∧ 0 ≤ x.2.1 ∧ forN (fun i s => ref03_From.b0 a0 i s) x.1 x.2.1 x.2.2 = some o3 ∧ fr 5 = .int .i64 x.2.1 ∧ St A N w W [oR (some ⟨b2, 0, none⟩) (x.2.2), oR none none] [fS 4 Nd.C s_0 a0]) (fun x => x.1) (((a0.length : Int) - 0).toNat, 0, (some [])) ⟨(by dsimp only; have hle := Int.natCast_nonneg (a0.length); omega), (Int.le_refl _), (by dsimp only; exact e3), rfl, S⟩ ?_
    rintro ⟨m3, i3, x3_0⟩ g3 u3 ⟨hm3, hl3, e3, q3_i, S⟩
    try dsimp only at hm3
    try dsimp only at hl3
    try dsimp only at e3
    try dsimp only at S
    try dsimp only at q3_i
    refine wc_seq (wc_seq (wc_region ?_))
    refine wd (does_mv_i q3_i) ?_
    refine wd (does_mv_l rfl) ?_
    refine wd (does_lenR sl_L_api_Node rfl (S.rd 0)) ?_
    refine wd (does_lt rfl rfl) ?_
    refine wl_nil ?_
    refine wc_if rfl (fun hc4 => ?_) (fun hc4 => ?_)
    rotate_left
    · refine wc_exit ?_
      have hge : (a0.length : Int) ≤ i3 := Int.not_lt.1 (of_decide_eq_false hc4)
      obtain rfl : m3 = 0 := by omega
      replace e3 := forN_0 e3
      exact ⟨rfl, (((((Dif.self _ _ _).upd rfl _).upd rfl _).upd rfl _).upd rfl _), x3_0, e3, S⟩
    refine wc_skip ?_
    have hlt3 : i3 < (a0.length : Int) := of_decide_eq_true hc4
    obtain ⟨m3, rfl⟩ : ∃ m, m3 = m + 1 := ⟨m3 - 1, by omega⟩
    obtain ⟨q3, H, e3⟩ := forN_s e3
    unfold ref03_From.b0 at H
    try dsimp only at H
    have hb3 := (S.len 0)
    refine wc_seq ?_
    refine wc_block ?_
    refine wc_seq (wc_region ?_)
    refine wd (does_mv_p rfl) ?_
    refine wd (does_mv_l rfl) ?_
    refine wd (does_mv_i q3_i) ?_
    refine wd (does_indexR sl_L_api_Node rfl rfl (S.rd 0) (And.intro (show 0 ≤ i3 by omega) (show i3 < (a0.length : Int) from hlt3)).1 (And.intro (show 0 ≤ i3 by omega) (show i3 < (a0.length : Int) from hlt3)).2) ?_
    refine wd (does_load_agg ag_Nd rfl ((S.rd 0).at (at_some Nd.z (And.intro (show 0 ≤ i3 by omega) (show i3 < (a0.length : Int) from hlt3)))) (Nd.len _)) ?_
    obtain ⟨r6, er6, H⟩ := bind_ex H
    obtain ⟨B8, MB8, SB8, back⟩ := S.calln 1 ((.nil))
    refine wl_call (does_call ca_ref03_T_Put) (by decide) (ref03_T_Put_st SB8 er6) ?_
    rintro _ w7 ⟨rfl, S2⟩
    replace S : St A N w w7 [oR (some ⟨b2, 0, none⟩) r6.1, oR none none] [fS 4 Nd.C s_0 a0] := back _ _ _ _ S2 rfl
    clear back S2 SB8
    refine wd (does_mv_t rfl) ?_
    refine wd (does_extract rfl rfl) ?_
    refine wd (does_extract rfl rfl) ?_
    refine wd (does_as_i rfl) ?_
    refine wd (does_as_i rfl) ?_
    refine wl_nil ?_
    refine wc_seq (wc_seq (wc_region ?_))
    refine wd (does_mv_i rfl) ?_
    refine wd (does_ne rfl rfl) ?_
    refine wl_nil ?_
    refine wc_if rfl (fun hc9 => ?_) (fun hc9 => ?_)
    · replace H := if_t hc9 H
      refine wc_seq (wc_region ?_)
      refine wd (does_mv_i rfl) ?_
      replace S : St A N w w7 [oR none none, oR (some ⟨b2, 0, none⟩) r6.1, oR none none] [fS 4 Nd.C s_0 a0] := S.add (Ext.refl _) (oR.nil _) (fun _ x => x.elim)
      refine wd (does_as_p rfl) ?_
      refine wd (does_as_i rfl) ?_
      refine wl_nil ?_
      refine wc_ret ?_
      refine ⟨_, (rets2 (retOne_tmp rfl) (retOne_tmp rfl)), ?_⟩
      replace S : St A N w w7 [oR none none] [] := S.arr [0] []
      obtain rfl := Option.some.inj H
      obtain rfl := e3
      obtain rfl := aft_r Ho3
      exact ⟨none, rfl, S⟩
    replace H := if_f hc9 H
    refine wc_skip ?_
    refine wc_seq (wc_region ?_)
    refine wd (does_mv_i rfl) ?_
    refine wd (does_mv_i q3_i) ?_
    refine wd (does_ne rfl rfl) ?_
    refine wl_nil ?_
    refine wc_if rfl (fun hc10 => ?_) (fun hc10 => ?_)
    · replace H := if_t hc10 H
      refine wc_seq (wc_region ?_)
      replace S : St A N w w7 [oR none none, oR (some ⟨b2, 0, none⟩) r6.1, oR none none] [fS 4 Nd.C s_0 a0] := S.add (Ext.refl _) (oR.nil _) (fun _ x => x.elim)
      refine wd (does_as_p rfl) ?_
      refine wd (does_as_i rfl) ?_
      refine wl_nil ?_
      refine wc_ret ?_
      refine ⟨_, (rets2 (retOne_tmp rfl) (retOne_tmp rfl)), ?_⟩
      replace S : St A N w w7 [oR none none] [] := S.arr [0] []
      obtain rfl := Option.some.inj H
      obtain rfl := e3
      obtain rfl := aft_r Ho3
      exact ⟨none, rfl, S⟩
    replace H := if_f hc10 H
    refine wc_skip ?_
    refine wc_region ?_
    refine wd (does_mv_i q3_i) ?_
    refine wd (does_addc rfl rfl (c := i3 + 1) rfl (by omega) (by omega)) ?_
    refine wd (does_as_i rfl) ?_
    refine wl_nil ?_
    obtain rfl := Option.some.inj H
    exact ⟨rfl, ((((((((((((((((((((((((Dif.self _ _ _).upd rfl _).upd rfl _).upd rfl _).upd rfl _).upd rfl _).upd rfl _).upd rfl _).upd rfl _).upd rfl _).upd rfl _).upd rfl _).upd rfl _).upd rfl _).upd rfl _).upd rfl _).upd rfl _).upd rfl _).upd rfl _).upd rfl _).upd rfl _).upd rfl _).upd rfl _).upd rfl _), (m3, i3 + 1, r6.1), ⟨(by dsimp only; omega), (by dsimp only; omega), e3, rfl, S⟩, by dsimp only; omega⟩
  rintro g11 u12 ⟨s3, rfl, S⟩
  have H := Ho3
  dsimp only [aft] at H
  refine wc_seq (wc_region ?_)
  refine wd (does_mv_p rfl) ?_
  refine wd (does_as_p rfl) ?_
  refine wd (does_as_i rfl) ?_
  refine wl_nil ?_
  refine wc_ret ?_
  refine ⟨_, (rets2 (retOne_tmp rfl) (retOne_tmp rfl)), ?_⟩
  replace S : St A N w u12 [oR (some ⟨b2, 0, none⟩) s3] [] := S.arr [0] []
  obtain rfl := Option.some.inj H
  exact ⟨(some ⟨b2, 0, none⟩), rfl, S⟩
theorem law03_Like_st {A : Nat → Prop} {N : Oth} {w : World} {a0 : Tb} {a_0 : Option Addr} {a1 : Tb} {a_1 : Option Addr} (S : St A N w w [] [oT a_0 a0, oR a_1 a1]) {r : Bool} (H : law03_Like.f a0 a1 = some r) :
    Calls PP F_law03_Like #[.pointer a_0, .pointer a_1] w fun e w' => ∃ v, e = .returned v ∧ (v = .bool r ∧ St A N w w' [] []) := by
  unfold law03_Like.f at H
  refine calls_of_wc (n := 22) fn_law03_Like rfl rfl (by simp) ?_
  refine wc_seq (wc_region ?_)
  refine wd (does_as_b rfl) ?_
  refine wl_nil ?_
  refine wc_seq ?_
  obtain ⟨ht8, H⟩ := chk_ex H
  obtain ⟨p9, s10, hp11, S⟩ := S.seeR 1 ht8
  replace S : St A N w w [] [oB p9 T_RTab (RTab.C ⟨s10⟩), fS 4 Nd.C s10 (a1.getD []), oT a_0 a0, oR a_1 a1] := S
  refine wc_ws hmix fun w12 K => ?_
  replace S := S.ext K
  clear K
  obtain ⟨r13, er13, H⟩ := bind_ex H
  refine ws_semi 0 6 [1] (by kernel_rfl) (by decide) (by kernel_rfl)
   (V := fun i v u => match i with
    | 1 => ∃ sl, v = SlV.v sl ∧ (Rd u 4 sl (r13.map Nd.C) ∧ r13.length ≤ 140737488355328) ∧ (∀ j, sl.fp j → w12.heap.size ≤ j)
    | _ => True) ?_ ?_
  · intro i v u u' hi hx hv
    match i, hv with
    | 1, ⟨b, e1, hr, hl⟩ => exact ⟨b, e1, ⟨hr.1.ext hx, hr.2⟩, hl⟩
    | 0, _ => exact trivial
    | _ + 2, _ => exact trivial
  refine wm_does (fun v K => does_mv_p rfl) rfl ?_
  refine wm_newcall (fun g v K G => (have ⟨M, SS⟩ := (S.ext K).lend ((.z 2 rfl .nil)); ⟨_, _, does_callg ca_formula_Table_Rows (cons2 rfl rfl), newc (formula_Table_Rows_st SS er13) fun _ _ ⟨s', hv, h⟩ => ⟨h.frame, s', hv, h.newS.1, fun i hi => by have := h.newS.2 i hi; have := K.size; omega⟩⟩)) rfl ?_
  refine wm_does (fun v K => does_mv_p rfl) rfl ?_
  refine wm_does (fun v K => does_nilCheck (congrArg Value.pointer hp11)) rfl ?_
  refine wm_does (fun v K => does_fieldAddr fl_RTab_n rfl (o' := 0) rfl) rfl ?_
  refine wm_does (fun v K => does_load on_L_api_Node rfl (((S.ext K).blkZ 0).cell (RTab.get_n _))) rfl ?_
  refine wm_nil fun g w15 K hV => ?_
  obtain ⟨s14, hv161, hr1, hf1⟩ := hV 1 rfl (by decide)
  replace S : St A N w w15 [] [fS 4 Nd.C s14 r13, oB p9 T_RTab (RTab.C ⟨s10⟩), fS 4 Nd.C s10 (a1.getD []), oT a_0 a0, oR a_1 a1] := S.addZs K (.s hr1.1 hr1.2 hf1 .nil)
  clear K hV
  refine ws_chain 6 8 (by kernel_rfl) (by decide) ?_
  obtain ⟨r17, er17, H⟩ := bind_ex H
  obtain ⟨B19, MB19, SB19, back⟩ := S.calln 0 ((.z 0 rfl (.z 2 rfl .nil)))
  refine wl_call (does_callg ca_ref03_Same (cons2 hv161 (cons2 rfl rfl))) (by decide) (ref03_Same_st SB19 er17) ?_
  rintro _ w18 ⟨rfl, S2⟩
  replace S : St A N w w18 [] [fS 4 Nd.C s14 r13, oB p9 T_RTab (RTab.C ⟨s10⟩), fS 4 Nd.C s10 (a1.getD []), oT a_0 a0, oR a_1 a1] := back _ _ _ _ S2 rfl
  clear back S2 SB19
  refine wd (does_mv_b rfl) ?_
  refine wl_nil ⟨rfl, ?_⟩
  obtain ⟨r20, er20, H⟩ := bind_ex H
  refine ws_semi 8 15 [] (by kernel_rfl) (by decide) (by kernel_rfl)
   (V := fun i v u => match i with
    | _ => True) ?_ ?_
  · intro i v u u' hi hx hv
    match i, hv with
    | _, _ => exact trivial
  refine wm_guard (j := 7) (pol := true) rfl rfl rfl (fun hg v K => does_mv_p rfl) rfl ?_
  refine wm_gcall (j := 7) (pol := true) rfl rfl rfl (fun hg v => does_callg ca_formula_Table_Len (cons2 (gv_yes hg) rfl)) (fun hg v K => (have ⟨M, SS⟩ := (S.ext K).lend ((.z 3 rfl .nil)); quiet (formula_Table_Len_st SS (if_t (by simpa using hg) er20)) (fun v w' h => ⟨h.1, _, _, h.2⟩))) rfl ?_
  refine wm_guard (j := 7) (pol := true) rfl rfl rfl (fun hg v K => does_mv_p rfl) rfl ?_
  refine wm_guard (j := 7) (pol := true) rfl rfl rfl (fun hg v K => does_nilCheck (((gv_yes hg) : _ = Value.pointer a_1).trans (congrArg Value.pointer hp11))) rfl ?_
  refine wm_guard (j := 7) (pol := true) rfl rfl rfl (fun hg v K => does_fieldAddr fl_RTab_n (gv_yes hg) (o' := 0) rfl) rfl ?_
  refine wm_guard (j := 7) (pol := true) rfl rfl rfl (fun hg v K => does_load on_L_api_Node (gv_yes hg) (((S.ext K).blkZ 1).cell (RTab.get_n _))) rfl ?_
  refine wm_guard (j := 7) (pol := true) rfl rfl rfl (fun hg v K => does_lenR sl_L_api_Node (gv_yes hg) ((S.ext K).rd 2)) rfl ?_
  refine wm_nil fun g w21 K hV => ?_
  replace S := S.ext K
  clear K hV
  refine ws_tail 15 (by kernel_rfl) (by decide) ?_
  refine wl_guard (j := 7) (pol := true) rfl rfl rfl (by decide) (fun hg => does_eq (gv_yes hg) (gv_yes hg)) (by decide) ?_
  refine wd (does_and rfl (fun hp => (gv_yes (and_1 hp)))) ?_
  refine wd (does_as_b rfl) ?_
  replace S : St A N w w21 [] [fS 4 Nd.C s14 r13, oT a_0 a0, oR a_1 a1] := S.zs [0, 3, 4]
  refine wl_nil ?_
  refine wc_ret ?_
  refine ⟨_, (rets1 (retOne_tmp rfl)), ?_⟩
  replace S : St A N w w21 [] [] := S.arr [] []
  obtain rfl := Option.some.inj H
  exact ⟨rfl, S⟩
theorem law03_Both_st {A : Nat → Prop} {N : Oth} {w : World} {a0 : List Nd} {s_0 : SlV} (S : St A N w w [] [fS 4 Nd.C s_0 a0]) {r : Tb × Tb × Bool} (H : law03_Both.f a0 = some r) :
    Calls PP F_law03_Both #[s_0.v] w fun e w' => ∃ v, e = .returned v ∧ (∃ ao0 : Option Addr, ∃ ao1 : Option Addr, v = .tuple #[.pointer ao0, .pointer ao1, .bool r.2.2] ∧ St A N w w' [oT ao0 r.1, oR ao1 r.2.1] []) := by
  unfold law03_Both.f at H
  refine calls_of_wc (n := 27) fn_law03_Both rfl rfl (by simp) ?_
  refine wc_seq (wc_region ?_)
  replace S : St A N w w [oT none none] [fS 4 Nd.C s_0 a0] := S.add (Ext.refl _) (oT.nil _) (fun _ x => x.elim)
  refine wd (does_as_p rfl) ?_
  replace S : St A N w w [oR none none, oT none none] [fS 4 Nd.C s_0 a0] := S.add (Ext.refl _) (oR.nil _) (fun _ x => x.elim)
  refine wd (does_as_p rfl) ?_
  refine wd (does_as_b rfl) ?_
  refine wl_nil ?_
  refine wc_seq (wc_region ?_)
  refine wl_lits (C := Nd.C) (l := ([] : List Nd)) (vs := []) sl_L_api_Node el_Nd.zero rfl rfl (fun a _ => Nd.len a) (by decide) rfl (by decide) fun b2 w1 s3 hBw1 hw1 => ?_
  replace S : St A N w w1 [oS T_Nd 4 Nd.C s3 ([] : List Nd), oR none none, oT none none] [fS 4 Nd.C s_0 a0] := S.lit hBw1 hw1 (by simp)
  refine wd (does_mv_l rfl) ?_
  obtain ⟨ha6, H⟩ := chk_ex H
  have ha6 := of_decide_eq_true ha6
  refine wl_appendm (C := Nd.C) sl_L_api_Node el_Nd rfl rfl (S.sl 0) (S.rd 0) Nd.one ha6 (by omega) (by decide) fun s5 w4 O hw4 gw4 => ?_
  replace S : St A N w w4 [oS T_Nd 4 Nd.C s5 (([] : List Nd) ++ a0), oR none none, oT none none] [fS 4 Nd.C s_0 a0] := S.push 0 O (by first | (simp; done) | (simp; omega)) hw4 gw4
  clear O
  refine wd (does_as_l rfl) ?_
  refine wl_nil ?_
  refine wc_seq (wc_region ?_)
  refine wd (does_mv_l rfl) ?_
  obtain ⟨r7, er7, H⟩ := bind_ex H
  obtain ⟨B9, MB9, SB9, back⟩ := S.calln 0 ((.z 0 rfl .nil))
  refine wl_call (does_call ca_ref03_From) (by decide) (ref03_From_st SB9 er7) ?_
  rintro _ w8 ⟨a10, rfl, S2⟩
  replace S : St A N w w8 [oR a10 r7.1, oS T_Nd 4 Nd.C s5 (([] : List Nd) ++ a0), oR none none, oT none none] [fS 4 Nd.C s_0 a0] := back _ _ _ _ S2 rfl
  clear back S2 SB9
  refine wd (does_mv_t rfl) ?_
  refine wd (does_extract rfl rfl) ?_
  refine wd (does_extract rfl rfl) ?_
  refine wd (does_as_p rfl) ?_
  refine wd (does_as_i rfl) ?_
  refine wl_nil ?_
  refine wc_seq (wc_seq (wc_region ?_))
  refine wd (does_mv_i rfl) ?_
  refine wd (does_ne rfl rfl) ?_
  refine wl_nil ?_
  refine wc_if rfl (fun hc11 => ?_) (fun hc11 => ?_)
  · replace H := if_t hc11 H
    refine wc_seq (wc_region ?_)
    replace S : St A N w w8 [oT none none, oR a10 r7.1, oS T_Nd 4 Nd.C s5 (([] : List Nd) ++ a0), oR none none, oT none none] [fS 4 Nd.C s_0 a0] := S.add (Ext.refl _) (oT.nil _) (fun _ x => x.elim)
    refine wd (does_as_p rfl) ?_
    replace S : St A N w w8 [oR none none, oT none none, oR a10 r7.1, oS T_Nd 4 Nd.C s5 (([] : List Nd) ++ a0), oR none none, oT none none] [fS 4 Nd.C s_0 a0] := S.add (Ext.refl _) (oR.nil _) (fun _ x => x.elim)
    refine wd (does_as_p rfl) ?_
    refine wd (does_as_b rfl) ?_
    refine wl_nil ?_
    refine wc_ret ?_
    refine ⟨_, (rets3 (retOne_tmp rfl) (retOne_tmp rfl) (retOne_tmp rfl)), ?_⟩
    replace S : St A N w w8 [oT none none, oR none none] [] := S.arr [1, 0] []
    obtain rfl := Option.some.inj H
    exact ⟨none, none, rfl, S⟩
  replace H := if_f hc11 H
  refine wc_skip ?_
  refine wc_seq (wc_region ?_)
  refine wd (does_mv_l rfl) ?_
  obtain ⟨r12, er12, H⟩ := bind_ex H
  obtain ⟨B14, MB14, SB14, back⟩ := S.calln 0 ((.s 1 rfl .nil))
  refine wl_call (does_call ca_formula_From) (by decide) (formula_From_st SB14 er12) ?_
  rintro _ w13 ⟨a15, rfl, S2⟩
  replace S : St A N w w13 [oT a15 r12.1, oR a10 r7.1, oS T_Nd 4 Nd.C s5 (([] : List Nd) ++ a0), oR none none, oT none none] [fS 4 Nd.C s_0 a0] := back _ _ _ _ S2 rfl
  clear back S2 SB14
  refine wd (does_mv_t rfl) ?_
  refine wd (does_extract rfl rfl) ?_
  refine wd (does_extract rfl rfl) ?_
  refine wd (does_as_p rfl) ?_
  refine wd (does_as_i rfl) ?_
  refine wl_nil ?_
  refine wc_seq (wc_region ?_)
  refine wd (does_mv_p rfl) ?_
  refine wd (does_mv_p rfl) ?_
  refine wd (does_as_p rfl) ?_
  refine wd (does_as_p rfl) ?_
  refine wd (does_as_b rfl) ?_
  refine wl_nil ?_
  refine wc_ret ?_
  refine ⟨_, (rets3 (retOne_tmp rfl) (retOne_tmp rfl) (retOne_tmp rfl)), ?_⟩
  replace S : St A N w w13 [oT a15 r12.1, oR a10 r7.1] [] := S.arr [0, 1] []
  obtain rfl := Option.some.inj H
  exact ⟨a15, a10, rfl, S⟩
end Go.Proofs.YtjjkhjieegmphaaDoor
