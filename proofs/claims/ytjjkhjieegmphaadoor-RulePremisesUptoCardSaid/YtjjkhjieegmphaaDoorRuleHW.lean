/- Chapter 09, the heads: the walks. Printed by pp.py, a program of mine. -/
import Derived.Test.YtjjkhjieegmphaaDoorRuleHP
import Derived.Test.YtjjkhjieegmphaaDoorRuleBW
namespace Go.Proofs.YtjjkhjieegmphaaDoor
open Gw Go.RowKit
set_option linter.unusedVariables false
set_option linter.unusedSimpArgs false

theorem formula_From_st {A : Nat → Prop} {N : Oth} {w : World} {a0 : List Nd} {s_0 : SlV} (S : St A N w w [] [fS 4 Nd.C s_0 a0]) {r : Tb × Int} (H : formula_From.f a0 = some r) :
    Calls PP F_formula_From #[s_0.v] w fun e w' => ∃ v, e = .returned v ∧ (∃ ao0 : Option Addr, v = .tuple #[.pointer ao0, .int .i64 r.2] ∧ St A N w w' [oT ao0 r.1] []) := by
  unfold formula_From.f at H
  refine calls_of_wc (n := 35) fn_formula_From rfl rfl (by simp) ?_
  refine wc_seq (wc_region ?_)
  replace S : St A N w w [oT none none] [fS 4 Nd.C s_0 a0] := S.add (Ext.refl _) (oT.nil _) (fun _ x => x.elim)
  refine wd (does_as_p rfl) ?_
  refine wd (does_as_i rfl) ?_
  refine wl_nil ?_
  refine wc_seq (wc_region ?_)
  obtain ⟨r1, er1, H⟩ := bind_ex H
  obtain ⟨B3, MB3, SB3, back⟩ := S.calln 0 ((.nil))
  refine wl_call (does_call ca_formula_New) (by decide) (formula_New_st SB3 er1) ?_
  rintro _ w2 ⟨a4, rfl, S2⟩
  replace S : St A N w w2 [oT a4 r1, oT none none] [fS 4 Nd.C s_0 a0] := back _ _ _ _ S2 rfl
  clear back S2 SB3
  refine wd (does_as_p rfl) ?_
  refine wl_nil ?_
  refine wc_seq (wc_seq (wc_region ?_))
  refine wd (does_mv_l rfl) ?_
  refine wd (does_lenR sl_L_api_Node rfl (S.rd 0)) ?_
  refine wd (does_mv_i rfl) ?_
  refine wl_nil ?_
  obtain ⟨o5, e5, Ho5⟩ := bind_ex H
  clear H
  refine wc_cutq [2, 3, 5, 6, 7, 8, 12, 13, 14, 15, 16, 17, 18, 19, 20, 21, 22, 23, 24, 25, 26, 27, 28, 29, 30, 31, 32, 33] (fun fr W => ∃ s5 : Tb, o5 = .inl s5 ∧ St A N w W [oT a4 s5, oT none none] [fS 4 Nd.C s_0 a0]) ?_ ?_
  · refine wc_block ?_
    refine wc_loopm (α := Nat × Int × Tb) [2, 3, 5, 6, 7, 8, 12, 13, 14, 15, 16, 17, 18, 19, 20, 21, 22, 23, 24, 25, 26, 27, 28, 29, 30, 31, 32, 33] (fun x fr W => (x.1 : Int) = (a0.length : Int) - x.2.1 ∧ 0 ≤ x.2.1 ∧ forN (fun i s => formula_From.b0 a0 i s) x.1 x.2.1 x.2.2 = some o5 ∧ fr 12 = .int .i64 x.2.1 ∧ St A N w W [oT a4 (x.2.2), oT none none] [fS 4 Nd.C s_0 a0]) (fun x => x.1) (((a0.length : Int) - 0).toNat, 0, r1) ⟨(by dsimp only; have hle := Int.natCast_nonneg (a0.length); omega), (Int.le_refl _), (by dsimp only; exact e5), rfl, S⟩ ?_
    rintro ⟨m5, i5, x5_0⟩ g5 u5 ⟨hm5, hl5, e5, q5_i, S⟩
    try dsimp only at hm5
    try dsimp only at hl5
    try dsimp only at e5
    try dsimp only at S
    try dsimp only at q5_i
    refine wc_seq (wc_region ?_)
    refine wd (does_lt q5_i rfl) ?_
    refine wl_nil ?_
    refine wc_seq ?_
    refine wc_if rfl (fun hc6 => ?_) (fun hc6 => ?_)
    rotate_left
    · refine wc_exit ?_
      have hge : (a0.length : Int) ≤ i5 := Int.not_lt.1 (of_decide_eq_false hc6)
      obtain rfl : m5 = 0 := by omega
      replace e5 := forN_0 e5
      exact ⟨rfl, ((Dif.self _ _ _).upd rfl _), x5_0, e5, S⟩
    refine wc_skip ?_
    have hlt5 : i5 < (a0.length : Int) := of_decide_eq_true hc6
    obtain ⟨m5, rfl⟩ : ∃ m, m5 = m + 1 := ⟨m5 - 1, by omega⟩
    obtain ⟨q5, H, e5⟩ := forN_s e5
    unfold formula_From.b0 at H
    try dsimp only at H
    have hb5 := (S.len 0)
    refine wc_seq ?_
    refine wc_block ?_
    refine wc_seq (wc_region ?_)
    refine wd (does_mv_i q5_i) ?_
    refine wd (does_indexR sl_L_api_Node rfl q5_i (S.rd 0) (And.intro (show 0 ≤ i5 by omega) (show i5 < (a0.length : Int) from hlt5)).1 (And.intro (show 0 ≤ i5 by omega) (show i5 < (a0.length : Int) from hlt5)).2) ?_
    refine wd (does_load_agg ag_Nd rfl ((S.rd 0).at (at_some Nd.z (And.intro (show 0 ≤ i5 by omega) (show i5 < (a0.length : Int) from hlt5)))) (Nd.len _)) ?_
    refine wl_alloc ze_Nd (by decide) fun b9 w8 hw8 => ?_
    replace S : St A N w w8 [oB b9 T_Nd (Nd.C Nd.z), oT a4 x5_0, oT none none] [fS 4 Nd.C s_0 a0] := S.new hw8
    refine wd (does_as_i rfl) ?_
    refine wl_store_agg ag_Nd rfl rfl (S.blk 0) (Nd.len _) (by rw [Nd.len]; decide) (Nd.one _) (store_all (Nd.len _)) fun w10 B hw10 zw10 => ?_
    replace S : St A N w w10 [oB b9 T_Nd (Nd.C (at_ Nd.z a0 i5)), oT a4 x5_0, oT none none] [fS 4 Nd.C s_0 a0] := S.store 0 B hw10
    clear B
    refine wl_nil ?_
    refine wc_seq (wc_region ?_)
    refine wd (does_mv_p rfl) ?_
    refine wd (does_load_agg ag_Nd rfl ((S.blk 0).all _ (Nd.len _)) (Nd.len _)) ?_
    obtain ⟨r11, er11, H⟩ := bind_ex H
    replace S : St A N w w10 [oT a4 x5_0, oB b9 T_Nd (Nd.C (at_ Nd.z a0 i5)), oT none none] [fS 4 Nd.C s_0 a0] := S.front 1
    obtain ⟨B13, MB13, SB13, back⟩ := S.calln 1 ((.nil))
    refine wl_call (does_call ca_formula_Table_Put) (by decide) (formula_Table_Put_st SB13 er11) ?_
    rintro _ w12 ⟨rfl, S2⟩
    replace S : St A N w w12 [oT a4 r11.1, oB b9 T_Nd (Nd.C (at_ Nd.z a0 i5)), oT none none] [fS 4 Nd.C s_0 a0] := back _ _ _ _ S2 rfl
    clear back S2 SB13
    refine wd (does_mv_t rfl) ?_
    refine wd (does_extract rfl rfl) ?_
    refine wd (does_extract rfl rfl) ?_
    refine wd (does_as_i rfl) ?_
    refine wd (does_as_i rfl) ?_
    refine wl_nil ?_
    refine wc_seq (wc_seq (wc_region ?_))
    refine wd (does_mv_i rfl) ?_
    refine wd (does_eq rfl rfl) ?_
    refine wd (does_mv_b rfl) ?_
    refine wl_guard (j := 2) (pol := true) rfl rfl rfl (by decide) (fun hg => does_mv_i rfl) (by decide) ?_
    refine wl_guard (j := 2) (pol := true) rfl rfl rfl (by decide) (fun hg => does_mv_i rfl) (by decide) ?_
    refine wl_guard (j := 2) (pol := true) rfl rfl rfl (by decide) (fun hg => does_ne (gv_yes hg) (gv_yes hg)) (by decide) ?_
    refine wd (does_and rfl (fun hp => (gv_yes (and_1 hp)))) ?_
    refine wl_nil ?_
    refine wc_if rfl (fun hc14 => ?_) (fun hc14 => ?_)
    · replace H := if_t hc14 H
      refine wc_region ?_
      refine wd (does_as_i rfl) ?_
      refine wl_nil ?_
      refine wc_seq (wc_region ?_)
      refine wd (does_mv_i rfl) ?_
      refine wd (does_ne rfl rfl) ?_
      refine wl_nil ?_
      refine wc_if rfl (fun hc15 => ?_) (fun hc15 => ?_)
      · replace H := if_t hc15 H
        refine wc_seq (wc_region ?_)
        refine wd (does_mv_i rfl) ?_
        replace S : St A N w w12 [oT none none, oT a4 r11.1, oB b9 T_Nd (Nd.C (at_ Nd.z a0 i5)), oT none none] [fS 4 Nd.C s_0 a0] := S.add (Ext.refl _) (oT.nil _) (fun _ x => x.elim)
        refine wd (does_as_p rfl) ?_
        refine wd (does_as_i rfl) ?_
        refine wl_nil ?_
        refine wc_ret ?_
        refine ⟨_, (rets2 (retOne_tmp rfl) (retOne_tmp rfl)), ?_⟩
        replace S : St A N w w12 [oT none none] [] := S.arr [0] []
        obtain rfl := Option.some.inj H
        obtain rfl := e5
        obtain rfl := aft_r Ho5
        exact ⟨none, rfl, S⟩
      replace H := if_f hc15 H
      refine wc_skip ?_
      refine wc_region ?_
      refine wd (does_addc q5_i rfl (c := i5 + 1) rfl (by omega) (by omega)) ?_
      refine wd (does_mv_i rfl) ?_
      refine wl_nil ?_
      replace S : St A N w w12 [oT a4 r11.1, oT none none] [fS 4 Nd.C s_0 a0] := S.arr [0, 2] [0]
      obtain rfl := Option.some.inj H
      exact ⟨rfl, (((((((((((((((((((((((((((Dif.self _ _ _).upd rfl _).upd rfl _).upd rfl _).upd rfl _).upd rfl _).upd rfl _).upd rfl _).upd rfl _).upd rfl _).upd rfl _).upd rfl _).upd rfl _).upd rfl _).upd rfl _).upd rfl _).upd rfl _).upd rfl _).upd rfl _).upd rfl _).upd rfl _).upd rfl _).upd rfl _).upd rfl _).upd rfl _).upd rfl _).upd rfl _), (m5, i5 + 1, r11.1), ⟨(by dsimp only; omega), (by dsimp only; omega), e5, rfl, S⟩, by dsimp only; omega⟩
    · replace H := if_f hc14 H
      refine wc_skip ?_
      refine wc_seq (wc_region ?_)
      refine wd (does_mv_i rfl) ?_
      refine wd (does_ne rfl rfl) ?_
      refine wl_nil ?_
      refine wc_if rfl (fun hc16 => ?_) (fun hc16 => ?_)
      · replace H := if_t hc16 H
        refine wc_seq (wc_region ?_)
        refine wd (does_mv_i rfl) ?_
        replace S : St A N w w12 [oT none none, oT a4 r11.1, oB b9 T_Nd (Nd.C (at_ Nd.z a0 i5)), oT none none] [fS 4 Nd.C s_0 a0] := S.add (Ext.refl _) (oT.nil _) (fun _ x => x.elim)
        refine wd (does_as_p rfl) ?_
        refine wd (does_as_i rfl) ?_
        refine wl_nil ?_
        refine wc_ret ?_
        refine ⟨_, (rets2 (retOne_tmp rfl) (retOne_tmp rfl)), ?_⟩
        replace S : St A N w w12 [oT none none] [] := S.arr [0] []
        obtain rfl := Option.some.inj H
        obtain rfl := e5
        obtain rfl := aft_r Ho5
        exact ⟨none, rfl, S⟩
      replace H := if_f hc16 H
      refine wc_skip ?_
      refine wc_region ?_
      refine wd (does_addc q5_i rfl (c := i5 + 1) rfl (by omega) (by omega)) ?_
      refine wd (does_mv_i rfl) ?_
      refine wl_nil ?_
      replace S : St A N w w12 [oT a4 r11.1, oT none none] [fS 4 Nd.C s_0 a0] := S.arr [0, 2] [0]
      obtain rfl := Option.some.inj H
      exact ⟨rfl, ((((((((((((((((((((((((((Dif.self _ _ _).upd rfl _).upd rfl _).upd rfl _).upd rfl _).upd rfl _).upd rfl _).upd rfl _).upd rfl _).upd rfl _).upd rfl _).upd rfl _).upd rfl _).upd rfl _).upd rfl _).upd rfl _).upd rfl _).upd rfl _).upd rfl _).upd rfl _).upd rfl _).upd rfl _).upd rfl _).upd rfl _).upd rfl _).upd rfl _), (m5, i5 + 1, r11.1), ⟨(by dsimp only; omega), (by dsimp only; omega), e5, rfl, S⟩, by dsimp only; omega⟩
  rintro g17 u18 ⟨s5, rfl, S⟩
  have H := Ho5
  dsimp only [aft] at H
  refine wc_seq (wc_region ?_)
  refine wd (does_mv_p rfl) ?_
  refine wd (does_as_p rfl) ?_
  refine wd (does_as_i rfl) ?_
  refine wl_nil ?_
  refine wc_ret ?_
  refine ⟨_, (rets2 (retOne_tmp rfl) (retOne_tmp rfl)), ?_⟩
  replace S : St A N w u18 [oT a4 s5] [] := S.arr [0] []
  obtain rfl := Option.some.inj H
  exact ⟨a4, rfl, S⟩
theorem ref09_Seqs_st {A : Nat → Prop} {N : Oth} {w : World} {a0 : List Sq} {s_0 : SlV} {a1 : List Sq} {s_1 : SlV} (S : St A N w w [] [fS 17 Sq.C s_0 a0, fS 17 Sq.C s_1 a1]) {r : Bool} (H : ref09_Seqs.f a0 a1 = some r) :
    Calls PP F_ref09_Seqs #[s_0.v, s_1.v] w fun e w' => ∃ v, e = .returned v ∧ (v = .bool r ∧ St A N w w' [] []) := by
  unfold ref09_Seqs.f at H
  refine calls_of_wc (n := 26) fn_ref09_Seqs rfl rfl (by simp) ?_
  refine wc_seq (wc_region ?_)
  refine wd (does_as_b rfl) ?_
  refine wl_nil ?_
  refine wc_seq (wc_seq (wc_region ?_))
  refine wd (does_mv_l rfl) ?_
  refine wd (does_lenR sl_L_api_Seq rfl (S.rd 0)) ?_
  refine wd (does_mv_l rfl) ?_
  refine wd (does_lenR sl_L_api_Seq rfl (S.rd 1)) ?_
  refine wd (does_ne rfl rfl) ?_
  refine wl_nil ?_
  refine wc_if rfl (fun hc1 => ?_) (fun hc1 => ?_)
  · replace H := if_t hc1 H
    refine wc_seq (wc_region ?_)
    refine wd (does_as_b rfl) ?_
    refine wl_nil ?_
    refine wc_ret ?_
    refine ⟨_, (rets1 (retOne_tmp rfl)), ?_⟩
    replace S : St A N w w [] [] := S.arr [] []
    obtain rfl := Option.some.inj H
    exact ⟨rfl, S⟩
  replace H := if_f hc1 H
  refine wc_skip ?_
  refine wc_seq (wc_seq (wc_region ?_))
  refine wd (does_as_i rfl) ?_
  refine wl_nil ?_
  obtain ⟨o2, e2, Ho2⟩ := bind_ex H
  clear H
  refine wc_cutq [4, 5, 11, 12, 13, 14, 15, 16, 17, 18, 19, 20, 21, 22, 23, 24, 25] (fun fr W => ∃ s2 : Unit, o2 = .inl s2 ∧ St A N w W [] [fS 17 Sq.C s_0 a0, fS 17 Sq.C s_1 a1]) ?_ ?_
  · refine wc_block ?_
    refine wc_loopm (α := Nat × Int × Unit) [4, 5, 11, 12, 13, 14, 15, 16, 17, 18, 19, 20, 21, 22, 23, 24, 25] (fun x fr W => (x.1 : Int) = (a0.length : Int) - x.2.1 ∧ 0 ≤ x.2.1 ∧ forN (fun i s => ref09_Seqs.b0 a1 a0 i) x.1 x.2.1 x.2.2 = some o2 ∧ fr 5 = .int .i64 x.2.1 ∧ St A N w W [] [fS 17 Sq.C s_0 a0, fS 17 Sq.C s_1 a1]) (fun x => x.1) (((a0.length : Int) - 0).toNat, 0, ()) ⟨(by dsimp only; have hle := Int.natCast_nonneg (a0.length); omega), (Int.le_refl _), (by dsimp only; exact e2), rfl, S⟩ ?_
    rintro ⟨m2, i2, _⟩ g2 u2 ⟨hm2, hl2, e2, q2_i, S⟩
    try dsimp only at hm2
    try dsimp only at hl2
    try dsimp only at e2
    try dsimp only at S
    try dsimp only at q2_i
    refine wc_seq (wc_seq (wc_region ?_))
    refine wd (does_mv_i q2_i) ?_
    refine wd (does_mv_l rfl) ?_
    refine wd (does_lenR sl_L_api_Seq rfl (S.rd 0)) ?_
    refine wd (does_lt rfl rfl) ?_
    refine wl_nil ?_
    refine wc_if rfl (fun hc3 => ?_) (fun hc3 => ?_)
    rotate_left
    · refine wc_exit ?_
      have hge : (a0.length : Int) ≤ i2 := Int.not_lt.1 (of_decide_eq_false hc3)
      obtain rfl : m2 = 0 := by omega
      replace e2 := forN_0 e2
      exact ⟨rfl, (((((Dif.self _ _ _).upd rfl _).upd rfl _).upd rfl _).upd rfl _), (), e2, S⟩
    refine wc_skip ?_
    have hlt2 : i2 < (a0.length : Int) := of_decide_eq_true hc3
    obtain ⟨m2, rfl⟩ : ∃ m, m2 = m + 1 := ⟨m2 - 1, by omega⟩
    obtain ⟨q2, H, e2⟩ := forN_s e2
    unfold ref09_Seqs.b0 at H
    try dsimp only at H
    have hb2 := (S.len 0)
    refine wc_seq ?_
    refine wc_block ?_
    refine wc_seq ?_
    refine wc_quiet 8 (Ext u2) hmix (by kernel_rfl) (by kernel_rfl) (Ext.drawn _) ?_
    refine wq_does (fun v K => does_mv_l rfl) ?_
    refine wq_does (fun v K => does_mv_i q2_i) ?_
    refine wq_does (fun v K => does_indexR sl_L_api_Seq rfl rfl ((S.ext K).rd 0) (And.intro (show 0 ≤ i2 by omega) (show i2 < (a0.length : Int) from hlt2)).1 (And.intro (show 0 ≤ i2 by omega) (show i2 < (a0.length : Int) from hlt2)).2) ?_
    refine wq_does (fun v K => does_load_agg ag_Sq rfl (((S.ext K).rd 0).at (at_some Sq.z (And.intro (show 0 ≤ i2 by omega) (show i2 < (a0.length : Int) from hlt2)))) (Sq.len _)) ?_
    refine wq_does (fun v K => does_mv_l rfl) ?_
    refine wq_does (fun v K => does_mv_i q2_i) ?_
    obtain ⟨hi5, H⟩ := chk_ex H
    refine wq_does (fun v K => does_indexR sl_L_api_Seq rfl rfl ((S.ext K).rd 1) (inb_ex hi5).1 (inb_ex hi5).2) ?_
    refine wq_does (fun v K => does_load_agg ag_Sq rfl (((S.ext K).rd 1).at (at_some Sq.z (inb_ex hi5))) (Sq.len _)) ?_
    refine wq_nil fun w6 K => ?_
    replace S := S.ext K
    clear K
    refine wd (does_nev eg_Sq (eq_Sq _ _) (by decide) rfl rfl) ?_
    refine wl_nil ?_
    refine wc_if rfl (fun hc7 => ?_) (fun hc7 => ?_)
    · replace H := if_t hc7 H
      refine wc_seq (wc_region ?_)
      refine wd (does_as_b rfl) ?_
      refine wl_nil ?_
      refine wc_ret ?_
      refine ⟨_, (rets1 (retOne_tmp rfl)), ?_⟩
      replace S : St A N w w6 [] [] := S.arr [] []
      obtain rfl := Option.some.inj H
      obtain rfl := e2
      obtain rfl := aft_r Ho2
      exact ⟨rfl, S⟩
    replace H := if_f hc7 H
    refine wc_skip ?_
    refine wc_region ?_
    refine wd (does_mv_i q2_i) ?_
    refine wd (does_addc rfl rfl (c := i2 + 1) rfl (by omega) (by omega)) ?_
    refine wd (does_as_i rfl) ?_
    refine wl_nil ?_
    obtain rfl := Option.some.inj H
    exact ⟨rfl, (((((((((((((((((Dif.self _ _ _).upd rfl _).upd rfl _).upd rfl _).upd rfl _).upd rfl _).upd rfl _).upd rfl _).upd rfl _).upd rfl _).upd rfl _).upd rfl _).upd rfl _).upd rfl _).upd rfl _).upd rfl _).upd rfl _), (m2, i2 + 1, ()), ⟨(by dsimp only; omega), (by dsimp only; omega), e2, rfl, S⟩, by dsimp only; omega⟩
  rintro g8 u9 ⟨s2, rfl, S⟩
  have H := Ho2
  dsimp only [aft] at H
  refine wc_seq (wc_region ?_)
  refine wd (does_as_b rfl) ?_
  refine wl_nil ?_
  refine wc_ret ?_
  refine ⟨_, (rets1 (retOne_tmp rfl)), ?_⟩
  replace S : St A N w u9 [] [] := S.arr [] []
  obtain rfl := Option.some.inj H
  exact ⟨rfl, S⟩
theorem law09_set_st {A : Nat → Prop} {N : Oth} {w : World} {a0 : List Int} {s_0 : SlV} (S : St A N w w [] [fS 1 IC s_0 a0]) {r : Bits} (H : law09_set.f a0 = some r) :
    Calls PP F_law09_set #[s_0.v] w fun e w' => ∃ v, e = .returned v ∧ (v = .agg (Bits.C r).toArray ∧ St A N w w' [] []) := by
  unfold law09_set.f at H
  refine calls_of_wc (n := 11) fn_law09_set rfl rfl (by simp) ?_
  refine wc_seq (wc_region ?_)
  refine wl_alloc ze_Bits (by decide) fun b2 w1 hw1 => ?_
  replace S : St A N w w1 [oB b2 T_Bits (Bits.C Bits.z)] [fS 1 IC s_0 a0] := S.new hw1
  refine wl_nil ?_
  refine wc_seq (wc_region ?_)
  refine wd (does_mv_l rfl) ?_
  obtain ⟨r3, er3, H⟩ := bind_ex H
  obtain ⟨B5, MB5, SB5, back⟩ := S.calln 0 ((.z 0 rfl .nil))
  refine wl_call (does_call ca_ref05_Of) (by decide) (ref05_Of_st SB5 er3) ?_
  rintro _ w4 ⟨rfl, S2⟩
  replace S : St A N w w4 [oB b2 T_Bits (Bits.C Bits.z)] [fS 1 IC s_0 a0] := back _ _ _ _ S2 rfl
  clear back S2 SB5
  refine wd (does_mv_t rfl) ?_
  refine wd (does_extract rfl rfl) ?_
  refine wd (does_extract rfl rfl) ?_
  refine wl_alloc ze_Bits (by decide) fun b7 w6 hw6 => ?_
  replace S : St A N w w6 [oB b7 T_Bits (Bits.C Bits.z), oB b2 T_Bits (Bits.C Bits.z)] [fS 1 IC s_0 a0] := S.new hw6
  refine wl_store_agg ag_Bits rfl rfl (S.blk 0) (Bits.len _) (by rw [Bits.len]; decide) (Bits.one _) (store_all (Bits.len _)) fun w8 B hw8 zw8 => ?_
  replace S : St A N w w8 [oB b7 T_Bits (Bits.C r3.1), oB b2 T_Bits (Bits.C Bits.z)] [fS 1 IC s_0 a0] := S.store 0 B hw8
  clear B
  refine wd (does_as_i rfl) ?_
  refine wl_nil ?_
  refine wc_seq (wc_region ?_)
  refine wd (does_load_agg ag_Bits rfl ((S.blk 0).all _ (Bits.len _)) (Bits.len _)) ?_
  refine wl_store_agg ag_Bits rfl rfl (S.blk 1) (Bits.len _) (by rw [Bits.len]; decide) (Bits.one _) (store_all (Bits.len _)) fun w9 B hw9 zw9 => ?_
  replace S : St A N w w9 [oB b2 T_Bits (Bits.C r3.1), oB b7 T_Bits (Bits.C r3.1)] [fS 1 IC s_0 a0] := S.store 1 B hw9
  clear B
  refine wl_nil ?_
  refine wc_ret ?_
  refine ⟨_, (rets1 (retOne_agg ag_Bits rfl ((S.blk 0).all _ (Bits.len _)) (Bits.len _))), ?_⟩
  replace S : St A N w w9 [] [] := S.arr [] []
  obtain rfl := Option.some.inj H
  exact ⟨rfl, S⟩
theorem law09_heads_st {A : Nat → Prop} {N : Oth} {w : World}  (S : St A N w w [] [oTz]) {r : Bool} (H : law09_heads.f  = some r) :
    Calls PP F_law09_heads #[] w fun e w' => ∃ v, e = .returned v ∧ (v = .bool r ∧ St A N w w' [] []) := by
  unfold law09_heads.f at H
  refine calls_of_wc (n := 143) fn_law09_heads rfl rfl (by simp) ?_
  refine wc_seq (wc_region ?_)
  refine wd (does_as_b rfl) ?_
  refine wl_nil ?_
  refine wc_seq (wc_region ?_)
  refine wd (does_build bu_Nd (Bld.one rfl rfl (by rw [Nd.len]; decide) (Nd.set_kind _ _) (Bld.one rfl rfl (by rw [Nd.len]; decide) (Nd.set_name _ _) Bld.nil))) ?_
  refine wd (does_build bu_Nd (Bld.one rfl rfl (by rw [Nd.len]; decide) (Nd.set_kind _ _) (Bld.one rfl rfl (by rw [Nd.len]; decide) (Nd.set_name _ _) Bld.nil))) ?_
  refine wd (does_build bu_Nd (Bld.one rfl rfl (by rw [Nd.len]; decide) (Nd.set_kind _ _) Bld.nil)) ?_
  refine wd (does_build bu_Nd (Bld.one rfl rfl (by rw [Nd.len]; decide) (Nd.set_kind _ _) (Bld.one rfl rfl (by rw [Nd.len]; decide) (Nd.set_l _ _) (Bld.one rfl rfl (by rw [Nd.len]; decide) (Nd.set_r _ _) Bld.nil)))) ?_
  refine wd (does_build bu_Nd (Bld.one rfl rfl (by rw [Nd.len]; decide) (Nd.set_kind _ _) (Bld.one rfl rfl (by rw [Nd.len]; decide) (Nd.set_l _ _) (Bld.one rfl rfl (by rw [Nd.len]; decide) (Nd.set_r _ _) Bld.nil)))) ?_
  refine wd (does_build bu_Nd (Bld.one rfl rfl (by rw [Nd.len]; decide) (Nd.set_kind _ _) (Bld.one rfl rfl (by rw [Nd.len]; decide) (Nd.set_l _ _) (Bld.one rfl rfl (by rw [Nd.len]; decide) (Nd.set_r _ _) Bld.nil)))) ?_
  refine wl_lits (C := Nd.C) (l := [{ Nd.z with kind := 1, name := (⟨#[112]⟩ : ByteArray) }, { Nd.z with kind := 1, name := (⟨#[113]⟩ : ByteArray) }, { Nd.z with kind := 2 }, { Nd.z with kind := 5, l := 0, r := 1 }, { Nd.z with kind := 3, l := 0, r := 1 }, { Nd.z with kind := 4, l := 0, r := 1 }]) (vs := [.agg (Nd.C ({ Nd.z with kind := 1, name := (⟨#[112]⟩ : ByteArray) })).toArray, .agg (Nd.C ({ Nd.z with kind := 1, name := (⟨#[113]⟩ : ByteArray) })).toArray, .agg (Nd.C ({ Nd.z with kind := 2 })).toArray, .agg (Nd.C ({ Nd.z with kind := 5, l := 0, r := 1 })).toArray, .agg (Nd.C ({ Nd.z with kind := 3, l := 0, r := 1 })).toArray, .agg (Nd.C ({ Nd.z with kind := 4, l := 0, r := 1 })).toArray]) sl_L_api_Node el_Nd.zero rfl rfl (fun a _ => Nd.len a) (by decide) rfl (by decide) fun b2 w1 s3 hBw1 hw1 => ?_
  replace S : St A N w w1 [oS T_Nd 4 Nd.C s3 ([{ Nd.z with kind := 1, name := (⟨#[112]⟩ : ByteArray) }, { Nd.z with kind := 1, name := (⟨#[113]⟩ : ByteArray) }, { Nd.z with kind := 2 }, { Nd.z with kind := 5, l := 0, r := 1 }, { Nd.z with kind := 3, l := 0, r := 1 }, { Nd.z with kind := 4, l := 0, r := 1 }])] [oTz] := S.lit hBw1 hw1 (by simp)
  obtain ⟨r4, er4, H⟩ := bind_ex H
  obtain ⟨B6, MB6, SB6, back⟩ := S.calln 0 ((.s 0 rfl .nil))
  refine wl_call (does_call ca_formula_From) (by decide) (formula_From_st SB6 er4) ?_
  rintro _ w5 ⟨a7, rfl, S2⟩
  replace S : St A N w w5 [oT a7 r4.1, oS T_Nd 4 Nd.C s3 ([{ Nd.z with kind := 1, name := (⟨#[112]⟩ : ByteArray) }, { Nd.z with kind := 1, name := (⟨#[113]⟩ : ByteArray) }, { Nd.z with kind := 2 }, { Nd.z with kind := 5, l := 0, r := 1 }, { Nd.z with kind := 3, l := 0, r := 1 }, { Nd.z with kind := 4, l := 0, r := 1 }])] [oTz] := back _ _ _ _ S2 rfl
  clear back S2 SB6
  refine wd (does_mv_t rfl) ?_
  refine wd (does_extract rfl rfl) ?_
  refine wd (does_extract rfl rfl) ?_
  refine wd (does_as_p rfl) ?_
  refine wd (does_as_i rfl) ?_
  refine wl_nil ?_
  refine wc_seq (wc_region ?_)
  refine wd (does_mv_p rfl) ?_
  refine wl_lits (C := IC) (l := [0, 3]) (vs := [.int .i64 0, .int .i64 3]) sl_L_int el_int.zero rfl rfl (fun _ _ => rfl) (by decide) rfl (by decide) fun b9 w8 s10 hBw8 hw8 => ?_
  replace S : St A N w w8 [oS T_int 1 IC s10 ([0, 3]), oT a7 r4.1, oS T_Nd 4 Nd.C s3 ([{ Nd.z with kind := 1, name := (⟨#[112]⟩ : ByteArray) }, { Nd.z with kind := 1, name := (⟨#[113]⟩ : ByteArray) }, { Nd.z with kind := 2 }, { Nd.z with kind := 5, l := 0, r := 1 }, { Nd.z with kind := 3, l := 0, r := 1 }, { Nd.z with kind := 4, l := 0, r := 1 }])] [oTz] := S.lit hBw8 hw8 (by simp)
  obtain ⟨r11, er11, H⟩ := bind_ex H
  obtain ⟨B13, MB13, SB13, back⟩ := S.calln 0 ((.s 0 rfl .nil))
  refine wl_call (does_call ca_law09_set) (by decide) (law09_set_st SB13 er11) ?_
  rintro _ w12 ⟨rfl, S2⟩
  replace S : St A N w w12 [oS T_int 1 IC s10 ([0, 3]), oT a7 r4.1, oS T_Nd 4 Nd.C s3 ([{ Nd.z with kind := 1, name := (⟨#[112]⟩ : ByteArray) }, { Nd.z with kind := 1, name := (⟨#[113]⟩ : ByteArray) }, { Nd.z with kind := 2 }, { Nd.z with kind := 5, l := 0, r := 1 }, { Nd.z with kind := 3, l := 0, r := 1 }, { Nd.z with kind := 4, l := 0, r := 1 }])] [oTz] := back _ _ _ _ S2 rfl
  clear back S2 SB13
  refine wd (does_build bu_Sq (Bld.step rfl (congrArg Value.cells rfl) (Bits.len _) (by rw [Sq.len]; decide) (Sq.put_left _ _) (Bld.one rfl rfl (by rw [Sq.len]; decide) (Sq.set_goal _ _) Bld.nil))) ?_
  obtain ⟨r14, er14, H⟩ := bind_ex H
  obtain ⟨B16, MB16, SB16, back⟩ := S.calln 0 ((.o 1 rfl (.z 0 rfl .nil)))
  refine wl_call (does_call ca_rule_Apply) (by decide) (rule_Apply_st SB16 er14) ?_
  rintro _ w15 ⟨rfl, S2⟩
  replace S : St A N w w15 [oS T_int 1 IC s10 ([0, 3]), oT a7 r4.1, oS T_Nd 4 Nd.C s3 ([{ Nd.z with kind := 1, name := (⟨#[112]⟩ : ByteArray) }, { Nd.z with kind := 1, name := (⟨#[113]⟩ : ByteArray) }, { Nd.z with kind := 2 }, { Nd.z with kind := 5, l := 0, r := 1 }, { Nd.z with kind := 3, l := 0, r := 1 }, { Nd.z with kind := 4, l := 0, r := 1 }])] [oTz] := back _ _ _ _ S2 rfl
  clear back S2 SB16
  refine wd (does_mv_t rfl) ?_
  refine wd (does_extract rfl rfl) ?_
  refine wd (does_extract rfl rfl) ?_
  refine wd (does_extract rfl rfl) ?_
  refine wd (does_as_i rfl) ?_
  refine wd (does_as_i rfl) ?_
  refine wd (does_as_i rfl) ?_
  refine wl_nil ?_
  refine wc_seq (wc_region ?_)
  refine wd (does_mv_p rfl) ?_
  refine wl_lits (C := IC) (l := [0, 3]) (vs := [.int .i64 0, .int .i64 3]) sl_L_int el_int.zero rfl rfl (fun _ _ => rfl) (by decide) rfl (by decide) fun b18 w17 s19 hBw17 hw17 => ?_
  replace S : St A N w w17 [oS T_int 1 IC s19 ([0, 3]), oS T_int 1 IC s10 ([0, 3]), oT a7 r4.1, oS T_Nd 4 Nd.C s3 ([{ Nd.z with kind := 1, name := (⟨#[112]⟩ : ByteArray) }, { Nd.z with kind := 1, name := (⟨#[113]⟩ : ByteArray) }, { Nd.z with kind := 2 }, { Nd.z with kind := 5, l := 0, r := 1 }, { Nd.z with kind := 3, l := 0, r := 1 }, { Nd.z with kind := 4, l := 0, r := 1 }])] [oTz] := S.lit hBw17 hw17 (by simp)
  obtain ⟨r20, er20, H⟩ := bind_ex H
  obtain ⟨B22, MB22, SB22, back⟩ := S.calln 0 ((.s 0 rfl .nil))
  refine wl_call (does_call ca_law09_set) (by decide) (law09_set_st SB22 er20) ?_
  rintro _ w21 ⟨rfl, S2⟩
  replace S : St A N w w21 [oS T_int 1 IC s19 ([0, 3]), oS T_int 1 IC s10 ([0, 3]), oT a7 r4.1, oS T_Nd 4 Nd.C s3 ([{ Nd.z with kind := 1, name := (⟨#[112]⟩ : ByteArray) }, { Nd.z with kind := 1, name := (⟨#[113]⟩ : ByteArray) }, { Nd.z with kind := 2 }, { Nd.z with kind := 5, l := 0, r := 1 }, { Nd.z with kind := 3, l := 0, r := 1 }, { Nd.z with kind := 4, l := 0, r := 1 }])] [oTz] := back _ _ _ _ S2 rfl
  clear back S2 SB22
  refine wd (does_build bu_Sq (Bld.step rfl (congrArg Value.cells rfl) (Bits.len _) (by rw [Sq.len]; decide) (Sq.put_left _ _) (Bld.one rfl rfl (by rw [Sq.len]; decide) (Sq.set_goal _ _) Bld.nil))) ?_
  refine wd (does_mv_i rfl) ?_
  refine wd (does_mv_i rfl) ?_
  obtain ⟨r23, er23, H⟩ := bind_ex H
  replace S : St A N w w21 [oT a7 r4.1, oS T_int 1 IC s19 ([0, 3]), oS T_int 1 IC s10 ([0, 3]), oS T_Nd 4 Nd.C s3 ([{ Nd.z with kind := 1, name := (⟨#[112]⟩ : ByteArray) }, { Nd.z with kind := 1, name := (⟨#[113]⟩ : ByteArray) }, { Nd.z with kind := 2 }, { Nd.z with kind := 5, l := 0, r := 1 }, { Nd.z with kind := 3, l := 0, r := 1 }, { Nd.z with kind := 4, l := 0, r := 1 }])] [oTz] := S.front 2
  obtain ⟨B25, MB25, SB25, back⟩ := S.calln 1 ((.z 0 rfl .nil))
  refine wl_call (does_call ca_rule_Premises) (by decide) (rule_Premises_st SB25 er23) ?_
  rintro _ w24 ⟨s26, rfl, S2⟩
  replace S : St A N w w24 [oT a7 r23.1, oS T_Sq 17 Sq.C s26 r23.2.1, oS T_int 1 IC s19 ([0, 3]), oS T_int 1 IC s10 ([0, 3]), oS T_Nd 4 Nd.C s3 ([{ Nd.z with kind := 1, name := (⟨#[112]⟩ : ByteArray) }, { Nd.z with kind := 1, name := (⟨#[113]⟩ : ByteArray) }, { Nd.z with kind := 2 }, { Nd.z with kind := 5, l := 0, r := 1 }, { Nd.z with kind := 3, l := 0, r := 1 }, { Nd.z with kind := 4, l := 0, r := 1 }])] [oTz] := back _ _ _ _ S2 rfl
  clear back S2 SB25
  refine wd (does_mv_t rfl) ?_
  refine wd (does_extract rfl rfl) ?_
  refine wd (does_extract rfl rfl) ?_
  refine wd (does_as_l rfl) ?_
  refine wd (does_as_i rfl) ?_
  refine wl_nil ?_
  refine wc_seq (wc_region ?_)
  refine wd (does_mv_p rfl) ?_
  refine wd (does_build bu_Sq (Bld.one rfl rfl (by rw [Sq.len]; decide) (Sq.set_goal _ _) Bld.nil)) ?_
  obtain ⟨r27, er27, H⟩ := bind_ex H
  obtain ⟨B29, MB29, SB29, back⟩ := S.calln 0 ((.o 0 rfl (.z 0 rfl .nil)))
  refine wl_call (does_call ca_rule_Choices) (by decide) (rule_Choices_st SB29 er27) ?_
  rintro _ w28 ⟨s30, s31, rfl, S2⟩
  replace S : St A N w w28 [oS T_api_Rule 1 IC s30 r27.1, oS T_int 1 IC s31 r27.2.1, oT a7 r23.1, oS T_Sq 17 Sq.C s26 r23.2.1, oS T_int 1 IC s19 ([0, 3]), oS T_int 1 IC s10 ([0, 3]), oS T_Nd 4 Nd.C s3 ([{ Nd.z with kind := 1, name := (⟨#[112]⟩ : ByteArray) }, { Nd.z with kind := 1, name := (⟨#[113]⟩ : ByteArray) }, { Nd.z with kind := 2 }, { Nd.z with kind := 5, l := 0, r := 1 }, { Nd.z with kind := 3, l := 0, r := 1 }, { Nd.z with kind := 4, l := 0, r := 1 }])] [oTz] := back _ _ _ _ S2 rfl
  clear back S2 SB29
  refine wd (does_mv_t rfl) ?_
  refine wd (does_extract rfl rfl) ?_
  refine wd (does_extract rfl rfl) ?_
  refine wd (does_extract rfl rfl) ?_
  refine wd (does_as_l rfl) ?_
  refine wd (does_as_l rfl) ?_
  refine wd (does_as_i rfl) ?_
  refine wl_nil ?_
  refine wc_seq (wc_region ?_)
  refine wd (does_mv_p rfl) ?_
  refine wl_lits (C := IC) (l := [2, 4]) (vs := [.int .i64 2, .int .i64 4]) sl_L_int el_int.zero rfl rfl (fun _ _ => rfl) (by decide) rfl (by decide) fun b33 w32 s34 hBw32 hw32 => ?_
  replace S : St A N w w32 [oS T_int 1 IC s34 ([2, 4]), oS T_api_Rule 1 IC s30 r27.1, oS T_int 1 IC s31 r27.2.1, oT a7 r23.1, oS T_Sq 17 Sq.C s26 r23.2.1, oS T_int 1 IC s19 ([0, 3]), oS T_int 1 IC s10 ([0, 3]), oS T_Nd 4 Nd.C s3 ([{ Nd.z with kind := 1, name := (⟨#[112]⟩ : ByteArray) }, { Nd.z with kind := 1, name := (⟨#[113]⟩ : ByteArray) }, { Nd.z with kind := 2 }, { Nd.z with kind := 5, l := 0, r := 1 }, { Nd.z with kind := 3, l := 0, r := 1 }, { Nd.z with kind := 4, l := 0, r := 1 }])] [oTz] := S.lit hBw32 hw32 (by simp)
  obtain ⟨r35, er35, H⟩ := bind_ex H
  obtain ⟨B37, MB37, SB37, back⟩ := S.calln 0 ((.s 0 rfl .nil))
  refine wl_call (does_call ca_law09_set) (by decide) (law09_set_st SB37 er35) ?_
  rintro _ w36 ⟨rfl, S2⟩
  replace S : St A N w w36 [oS T_int 1 IC s34 ([2, 4]), oS T_api_Rule 1 IC s30 r27.1, oS T_int 1 IC s31 r27.2.1, oT a7 r23.1, oS T_Sq 17 Sq.C s26 r23.2.1, oS T_int 1 IC s19 ([0, 3]), oS T_int 1 IC s10 ([0, 3]), oS T_Nd 4 Nd.C s3 ([{ Nd.z with kind := 1, name := (⟨#[112]⟩ : ByteArray) }, { Nd.z with kind := 1, name := (⟨#[113]⟩ : ByteArray) }, { Nd.z with kind := 2 }, { Nd.z with kind := 5, l := 0, r := 1 }, { Nd.z with kind := 3, l := 0, r := 1 }, { Nd.z with kind := 4, l := 0, r := 1 }])] [oTz] := back _ _ _ _ S2 rfl
  clear back S2 SB37
  refine wd (does_build bu_Sq (Bld.step rfl (congrArg Value.cells rfl) (Bits.len _) (by rw [Sq.len]; decide) (Sq.put_left _ _) Bld.nil)) ?_
  obtain ⟨r38, er38, H⟩ := bind_ex H
  obtain ⟨B40, MB40, SB40, back⟩ := S.calln 0 ((.o 3 rfl (.z 0 rfl .nil)))
  refine wl_call (does_call ca_rule_Fits) (by decide) (rule_Fits_st SB40 er38) ?_
  rintro _ w39 ⟨rfl, S2⟩
  replace S : St A N w w39 [oS T_int 1 IC s34 ([2, 4]), oS T_api_Rule 1 IC s30 r27.1, oS T_int 1 IC s31 r27.2.1, oT a7 r23.1, oS T_Sq 17 Sq.C s26 r23.2.1, oS T_int 1 IC s19 ([0, 3]), oS T_int 1 IC s10 ([0, 3]), oS T_Nd 4 Nd.C s3 ([{ Nd.z with kind := 1, name := (⟨#[112]⟩ : ByteArray) }, { Nd.z with kind := 1, name := (⟨#[113]⟩ : ByteArray) }, { Nd.z with kind := 2 }, { Nd.z with kind := 5, l := 0, r := 1 }, { Nd.z with kind := 3, l := 0, r := 1 }, { Nd.z with kind := 4, l := 0, r := 1 }])] [oTz] := back _ _ _ _ S2 rfl
  clear back S2 SB40
  refine wd (does_mv_t rfl) ?_
  refine wd (does_extract rfl rfl) ?_
  refine wd (does_extract rfl rfl) ?_
  refine wd (does_as_b rfl) ?_
  refine wd (does_as_i rfl) ?_
  refine wl_nil ?_
  refine wc_seq (wc_region ?_)
  refine wd (does_mv_p rfl) ?_
  refine wd (does_build bu_Sq (Bld.one rfl rfl (by rw [Sq.len]; decide) (Sq.set_goal _ _) Bld.nil)) ?_
  obtain ⟨r41, er41, H⟩ := bind_ex H
  replace S : St A N w w39 [oT a7 r23.1, oS T_int 1 IC s34 ([2, 4]), oS T_api_Rule 1 IC s30 r27.1, oS T_int 1 IC s31 r27.2.1, oS T_Sq 17 Sq.C s26 r23.2.1, oS T_int 1 IC s19 ([0, 3]), oS T_int 1 IC s10 ([0, 3]), oS T_Nd 4 Nd.C s3 ([{ Nd.z with kind := 1, name := (⟨#[112]⟩ : ByteArray) }, { Nd.z with kind := 1, name := (⟨#[113]⟩ : ByteArray) }, { Nd.z with kind := 2 }, { Nd.z with kind := 5, l := 0, r := 1 }, { Nd.z with kind := 3, l := 0, r := 1 }, { Nd.z with kind := 4, l := 0, r := 1 }])] [oTz] := S.front 3
  obtain ⟨B43, MB43, SB43, back⟩ := S.calln 1 ((.z 0 rfl .nil))
  refine wl_call (does_call ca_rule_Premises) (by decide) (rule_Premises_st SB43 er41) ?_
  rintro _ w42 ⟨s44, rfl, S2⟩
  replace S : St A N w w42 [oT a7 r41.1, oS T_Sq 17 Sq.C s44 r41.2.1, oS T_int 1 IC s34 ([2, 4]), oS T_api_Rule 1 IC s30 r27.1, oS T_int 1 IC s31 r27.2.1, oS T_Sq 17 Sq.C s26 r23.2.1, oS T_int 1 IC s19 ([0, 3]), oS T_int 1 IC s10 ([0, 3]), oS T_Nd 4 Nd.C s3 ([{ Nd.z with kind := 1, name := (⟨#[112]⟩ : ByteArray) }, { Nd.z with kind := 1, name := (⟨#[113]⟩ : ByteArray) }, { Nd.z with kind := 2 }, { Nd.z with kind := 5, l := 0, r := 1 }, { Nd.z with kind := 3, l := 0, r := 1 }, { Nd.z with kind := 4, l := 0, r := 1 }])] [oTz] := back _ _ _ _ S2 rfl
  clear back S2 SB43
  refine wd (does_mv_t rfl) ?_
  refine wd (does_extract rfl rfl) ?_
  refine wd (does_extract rfl rfl) ?_
  refine wd (does_as_l rfl) ?_
  refine wd (does_as_i rfl) ?_
  refine wl_nil ?_
  refine wc_seq (wc_region ?_)
  refine wd (does_mv_p rfl) ?_
  refine wd (does_build bu_Sq (Bld.one rfl rfl (by rw [Sq.len]; decide) (Sq.set_goal _ _) Bld.nil)) ?_
  obtain ⟨r45, er45, H⟩ := bind_ex H
  obtain ⟨B47, MB47, SB47, back⟩ := S.calln 0 ((.o 0 rfl (.z 0 rfl .nil)))
  refine wl_call (does_call ca_rule_Apply) (by decide) (rule_Apply_st SB47 er45) ?_
  rintro _ w46 ⟨rfl, S2⟩
  replace S : St A N w w46 [oT a7 r41.1, oS T_Sq 17 Sq.C s44 r41.2.1, oS T_int 1 IC s34 ([2, 4]), oS T_api_Rule 1 IC s30 r27.1, oS T_int 1 IC s31 r27.2.1, oS T_Sq 17 Sq.C s26 r23.2.1, oS T_int 1 IC s19 ([0, 3]), oS T_int 1 IC s10 ([0, 3]), oS T_Nd 4 Nd.C s3 ([{ Nd.z with kind := 1, name := (⟨#[112]⟩ : ByteArray) }, { Nd.z with kind := 1, name := (⟨#[113]⟩ : ByteArray) }, { Nd.z with kind := 2 }, { Nd.z with kind := 5, l := 0, r := 1 }, { Nd.z with kind := 3, l := 0, r := 1 }, { Nd.z with kind := 4, l := 0, r := 1 }])] [oTz] := back _ _ _ _ S2 rfl
  clear back S2 SB47
  refine wd (does_mv_t rfl) ?_
  refine wd (does_extract rfl rfl) ?_
  refine wd (does_extract rfl rfl) ?_
  refine wd (does_extract rfl rfl) ?_
  refine wd (does_as_i rfl) ?_
  refine wd (does_as_i rfl) ?_
  refine wd (does_as_i rfl) ?_
  refine wl_nil ?_
  refine wc_seq (wc_region ?_)
  refine wd (does_mv_i rfl) ?_
  refine wd (does_eq rfl rfl) ?_
  refine wd (does_mv_b rfl) ?_
  refine wl_guard (j := 2) (pol := true) rfl rfl rfl (by decide) (fun hg => does_mv_i rfl) (by decide) ?_
  refine wl_guard (j := 2) (pol := true) rfl rfl rfl (by decide) (fun hg => does_eq (gv_yes hg) rfl) (by decide) ?_
  refine wd (does_and rfl (fun hp => (gv_yes (and_1 hp)))) ?_
  refine wd (does_mv_b rfl) ?_
  refine wl_guard (j := 6) (pol := true) rfl rfl rfl (by decide) (fun hg => does_mv_i rfl) (by decide) ?_
  refine wl_guard (j := 6) (pol := true) rfl rfl rfl (by decide) (fun hg => does_eq (gv_yes hg) rfl) (by decide) ?_
  refine wd (does_and rfl (fun hp => (gv_yes (and_1 hp)))) ?_
  refine wd (does_mv_b rfl) ?_
  refine wl_guard (j := 10) (pol := true) rfl rfl rfl (by decide) (fun hg => does_mv_i rfl) (by decide) ?_
  refine wl_guard (j := 10) (pol := true) rfl rfl rfl (by decide) (fun hg => does_eq (gv_yes hg) rfl) (by decide) ?_
  refine wd (does_and rfl (fun hp => (gv_yes (and_1 hp)))) ?_
  refine wd (does_mv_b rfl) ?_
  refine wl_guard (j := 14) (pol := true) rfl rfl rfl (by decide) (fun hg => does_mv_i rfl) (by decide) ?_
  refine wl_guard (j := 14) (pol := true) rfl rfl rfl (by decide) (fun hg => does_eq (gv_yes hg) rfl) (by decide) ?_
  refine wd (does_and rfl (fun hp => (gv_yes (and_1 hp)))) ?_
  refine wd (does_mv_b rfl) ?_
  refine wl_guard (j := 18) (pol := true) rfl rfl rfl (by decide) (fun hg => does_mv_i rfl) (by decide) ?_
  refine wl_guard (j := 18) (pol := true) rfl rfl rfl (by decide) (fun hg => does_eq (gv_yes hg) rfl) (by decide) ?_
  refine wd (does_and rfl (fun hp => (gv_yes (and_1 hp)))) ?_
  refine wd (does_mv_b rfl) ?_
  refine wl_guard (j := 22) (pol := true) rfl rfl rfl (by decide) (fun hg => does_mv_i rfl) (by decide) ?_
  refine wl_guard (j := 22) (pol := true) rfl rfl rfl (by decide) (fun hg => does_eq (gv_yes hg) rfl) (by decide) ?_
  refine wd (does_and rfl (fun hp => (gv_yes (and_1 hp)))) ?_
  refine wd (does_mv_b rfl) ?_
  refine wl_guard (j := 26) (pol := true) rfl rfl rfl (by decide) (fun hg => does_mv_l rfl) (by decide) ?_
  obtain ⟨hg48, H⟩ := chk_ex H
  refine wl_gon (j := 26) (pol := true) rfl rfl rfl (by decide) (by simpa using hg48) ?_
  refine wl_lits (C := IC) (l := [0, 1]) (vs := [.int .i64 0, .int .i64 1]) sl_L_int el_int.zero rfl rfl (fun _ _ => rfl) (by decide) rfl (by decide) fun b50 w49 s51 hBw49 hw49 => ?_
  replace S : St A N w w49 [oS T_int 1 IC s51 ([0, 1]), oT a7 r41.1, oS T_Sq 17 Sq.C s44 r41.2.1, oS T_int 1 IC s34 ([2, 4]), oS T_api_Rule 1 IC s30 r27.1, oS T_int 1 IC s31 r27.2.1, oS T_Sq 17 Sq.C s26 r23.2.1, oS T_int 1 IC s19 ([0, 3]), oS T_int 1 IC s10 ([0, 3]), oS T_Nd 4 Nd.C s3 ([{ Nd.z with kind := 1, name := (⟨#[112]⟩ : ByteArray) }, { Nd.z with kind := 1, name := (⟨#[113]⟩ : ByteArray) }, { Nd.z with kind := 2 }, { Nd.z with kind := 5, l := 0, r := 1 }, { Nd.z with kind := 3, l := 0, r := 1 }, { Nd.z with kind := 4, l := 0, r := 1 }])] [oTz] := S.lit hBw49 hw49 (by simp)
  obtain ⟨r52, er52, H⟩ := bind_ex H
  refine wl_gcall (j := 26) (pol := true) rfl rfl rfl (by decide) (fun hg => does_callg ca_law09_set (cons2 rfl rfl)) (by decide) (fun hg => (have ⟨M, SS⟩ := S.lend ((.s 0 rfl .nil)); quiet (law09_set_st SS (if_t (by simpa using hg) er52)) (fun v w' h => ⟨h.1, _, _, h.2⟩))) fun w53 hw53 => ?_
  replace S := S.ext hw53
  refine wl_guard (j := 26) (pol := true) rfl rfl rfl (by decide) (fun hg => does_buildv (vs := [(0, .agg (Bits.C r52).toArray), (1, .int .i64 1)]) bu_Sq (consP (gv_yes hg) (consP rfl rfl)) (Bld.step rfl rfl (Bits.len _) (by rw [Sq.len]; decide) (Sq.put_left _ _) (Bld.one rfl rfl (by rw [Sq.len]; decide) (Sq.set_goal _ _) Bld.nil))) (by decide) ?_
  obtain ⟨hg54, H⟩ := chk_ex H
  refine wl_gon (j := 26) (pol := true) rfl rfl rfl (by decide) (by simpa using hg54) ?_
  refine wl_lits (C := Sq.C) (l := [(⟨r52, 1⟩ : Sq)]) (vs := [.agg (Sq.C (⟨r52, 1⟩ : Sq)).toArray]) sl_L_api_Seq el_Sq.zero (consP (gv_yes (by simpa using hg54)) rfl) rfl (fun a _ => Sq.len a) (by decide) rfl (by decide) fun b56 w55 s57 hBw55 hw55 => ?_
  replace S : St A N w w55 [oS T_Sq 17 Sq.C s57 ([(⟨r52, 1⟩ : Sq)]), oS T_int 1 IC s51 ([0, 1]), oT a7 r41.1, oS T_Sq 17 Sq.C s44 r41.2.1, oS T_int 1 IC s34 ([2, 4]), oS T_api_Rule 1 IC s30 r27.1, oS T_int 1 IC s31 r27.2.1, oS T_Sq 17 Sq.C s26 r23.2.1, oS T_int 1 IC s19 ([0, 3]), oS T_int 1 IC s10 ([0, 3]), oS T_Nd 4 Nd.C s3 ([{ Nd.z with kind := 1, name := (⟨#[112]⟩ : ByteArray) }, { Nd.z with kind := 1, name := (⟨#[113]⟩ : ByteArray) }, { Nd.z with kind := 2 }, { Nd.z with kind := 5, l := 0, r := 1 }, { Nd.z with kind := 3, l := 0, r := 1 }, { Nd.z with kind := 4, l := 0, r := 1 }])] [oTz] := S.lit hBw55 hw55 (by simp)
  obtain ⟨r58, er58, H⟩ := bind_ex H
  refine wl_gcall (j := 26) (pol := true) rfl rfl rfl (by decide) (fun hg => does_callg ca_ref09_Seqs (cons2 (gv_yes hg) (cons2 rfl rfl))) (by decide) (fun hg => (have ⟨M, SS⟩ := S.lend ((.s 7 rfl (.s 0 rfl .nil))); quiet (ref09_Seqs_st SS (if_t (by simpa using hg) er58)) (fun v w' h => ⟨h.1, _, _, h.2⟩))) fun w59 hw59 => ?_
  replace S := S.ext hw59
  refine wd (does_and rfl (fun hp => (gv_yes (and_1 hp)))) ?_
  refine wd (does_mv_b rfl) ?_
  refine wl_guard (j := 34) (pol := true) rfl rfl rfl (by decide) (fun hg => does_mv_l rfl) (by decide) ?_
  refine wl_guard (j := 34) (pol := true) rfl rfl rfl (by decide) (fun hg => does_lenR sl_L_api_Rule (gv_yes hg) (S.rdO 5)) (by decide) ?_
  refine wl_guard (j := 34) (pol := true) rfl rfl rfl (by decide) (fun hg => does_eq (gv_yes hg) rfl) (by decide) ?_
  refine wd (does_and rfl (fun hp => (gv_yes (and_1 hp)))) ?_
  refine wd (does_mv_b rfl) ?_
  refine wl_guard (j := 39) (pol := true) rfl rfl rfl (by decide) (fun hg => does_mv_l rfl) (by decide) ?_
  refine wl_guard (j := 39) (pol := true) rfl rfl rfl (by decide) (fun hg => does_lenR sl_L_int (gv_yes hg) (S.rdO 6)) (by decide) ?_
  refine wl_guard (j := 39) (pol := true) rfl rfl rfl (by decide) (fun hg => does_eq (gv_yes hg) rfl) (by decide) ?_
  refine wd (does_and rfl (fun hp => (gv_yes (and_1 hp)))) ?_
  refine wd (does_mv_b rfl) ?_
  refine wl_guard (j := 44) (pol := true) rfl rfl rfl (by decide) (fun hg => does_mv_l rfl) (by decide) ?_
  obtain ⟨hi60, H⟩ := chk_g H
  refine wl_guard (j := 44) (pol := true) rfl rfl rfl (by decide) (fun hg => does_indexR sl_L_api_Rule (gv_yes hg) rfl (S.rdO 5) (inb_ex (hi60 (by simpa using hg))).1 (inb_ex (hi60 (by simpa using hg))).2) (by decide) ?_
  refine wl_guard (j := 44) (pol := true) rfl rfl rfl (by decide) (fun hg => does_load on_api_Rule (gv_yes hg) ((S.rdO 5).one (at_some (0 : Int) (inb_ex (hi60 (by simpa using hg)))) rfl)) (by decide) ?_
  refine wl_guard (j := 44) (pol := true) rfl rfl rfl (by decide) (fun hg => does_eq (gv_yes hg) rfl) (by decide) ?_
  refine wd (does_and rfl (fun hp => (gv_yes (and_1 hp)))) ?_
  refine wd (does_mv_b rfl) ?_
  refine wl_guard (j := 50) (pol := true) rfl rfl rfl (by decide) (fun hg => does_mv_l rfl) (by decide) ?_
  obtain ⟨hi61, H⟩ := chk_g H
  refine wl_guard (j := 50) (pol := true) rfl rfl rfl (by decide) (fun hg => does_indexR sl_L_int (gv_yes hg) rfl (S.rdO 6) (inb_ex (hi61 (by simpa using hg))).1 (inb_ex (hi61 (by simpa using hg))).2) (by decide) ?_
  refine wl_guard (j := 50) (pol := true) rfl rfl rfl (by decide) (fun hg => does_load on_int (gv_yes hg) ((S.rdO 6).one (at_some (0 : Int) (inb_ex (hi61 (by simpa using hg)))) rfl)) (by decide) ?_
  refine wl_guard (j := 50) (pol := true) rfl rfl rfl (by decide) (fun hg => does_eq (gv_yes hg) rfl) (by decide) ?_
  refine wd (does_and rfl (fun hp => (gv_yes (and_1 hp)))) ?_
  refine wd (does_mv_b rfl) ?_
  refine wl_guard (j := 56) (pol := true) rfl rfl rfl (by decide) (fun hg => does_mv_b rfl) (by decide) ?_
  refine wd (does_and rfl (fun hp => (gv_yes (and_1 hp)))) ?_
  refine wd (does_mv_b rfl) ?_
  refine wl_guard (j := 59) (pol := true) rfl rfl rfl (by decide) (fun hg => does_mv_i rfl) (by decide) ?_
  refine wl_guard (j := 59) (pol := true) rfl rfl rfl (by decide) (fun hg => does_eq (gv_yes hg) rfl) (by decide) ?_
  refine wd (does_and rfl (fun hp => (gv_yes (and_1 hp)))) ?_
  refine wd (does_mv_b rfl) ?_
  refine wl_guard (j := 63) (pol := true) rfl rfl rfl (by decide) (fun hg => does_mv_i rfl) (by decide) ?_
  refine wl_guard (j := 63) (pol := true) rfl rfl rfl (by decide) (fun hg => does_eq (gv_yes hg) rfl) (by decide) ?_
  refine wd (does_and rfl (fun hp => (gv_yes (and_1 hp)))) ?_
  refine wd (does_as_b rfl) ?_
  refine wl_nil ?_
  refine wc_ret ?_
  refine ⟨_, (rets1 (retOne_tmp rfl)), ?_⟩
  replace S : St A N w w59 [] [] := S.arr [] []
  obtain rfl := Option.some.inj H
  exact ⟨rfl, S⟩
end Go.Proofs.YtjjkhjieegmphaaDoor
