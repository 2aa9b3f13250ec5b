/- Texts put together: Chapter 09, the heads: the walks. Printed by pp.py, a program of mine. Chapter 09, the document's functions: the walks. Printed by pp.py, a program of mine. Chapter 09, weights and values: the walks. Printed by pp.py, a program of mine. Chapter 09, RuleFalls: the walks. Printed by pp.py, a program of mine. Chapter 09, the plain law: what the program's rules and the document's answer, told once for both. Chapter 09, the plain law: sequents of a table, choices. Chapter 09, RuleTells: Lean functions with the answers of the Go functions. Printed by pp.py, a program of mine. Chapter 09, the plain law: tables out of rows; RuleTells. Chapter 09, the document's premises: Lean functions with the answers of the Go functions. Printed by pp.py, a program of mine. Chapter 09, RulePremises: Lean functions with the answers of the Go functions. Printed by pp.py, a program of mine. Chapter 09, the plain law: premises. Chapter 09, the plain law: a row of a truth table. Chapter 09, the plain law: what premises are, rule by rule. Chapter 09, the plain law: the program's premises are those of PremR. Chapter 09, RuleTruth: Lean functions with the answers of the Go functions. Printed by pp.py, a program of mine. -/
import Derived.Test.YtjjkhjieegmphaaDoorMFalls4
section
namespace Go.Proofs.YtjjkhjieegmphaaDoor
open Gw Go.RowKit
set_option linter.unusedVariables false
set_option linter.unusedSimpArgs false

theorem formula_From_st {A : Nat → Prop} {N : Oth} {w : World} {a0 : List Nd} {s_0 : SlV} (S : St A N w w [] [fS 4 Nd.C s_0 a0]) {r : Tb × Int} (H : formula_From.f a0 = some r) :
    Calls PP F_formula_From #[s_0.v] w fun e w' => ∃ v, e = .returned v ∧ (∃ ao0 : Option Addr, v = .tuple #[.pointer ao0, .int .i64 r.2] ∧ St A N w w' [oT ao0 r.1] []) := by
  unfold formula_From.f at H
  refine calls_of_wc (n := 35) fn_formula_From rfl rfl (by simp) ?_
  refine wc_seq (wc_region ?_)
  replace S : St A N w w [oT none none] [fS 4 Nd.C s_0 a0] := S.add (Ext.refl _) (oT.nil _) (fun _ x => x.elim)
  refine wd (does_as_p rfl) ?_
  refine wd (does_as_i rfl) ?_
  refine wl_nil ?_
  refine wc_seq (wc_region ?_)
  obtain ⟨r1, er1, H⟩ := bind_ex H
  obtain ⟨B3, MB3, SB3, back⟩ := S.calln 0 ((.nil))
  refine wl_call (does_call ca_formula_New) (by decide) (formula_New_st SB3 er1) ?_
  rintro _ w2 ⟨a4, rfl, S2⟩
  replace S : St A N w w2 [oT a4 r1, oT none none] [fS 4 Nd.C s_0 a0] := back _ _ _ _ S2 rfl
  clear back S2 SB3
  refine wd (does_as_p rfl) ?_
  refine wl_nil ?_
  refine wc_seq (wc_seq (wc_region ?_))
  refine wd (does_mv_l rfl) ?_
  refine wd (does_lenR sl_L_api_Node rfl (S.rd 0)) ?_
  refine wd (does_mv_i rfl) ?_
  refine wl_nil ?_
  obtain ⟨o5, e5, Ho5⟩ := bind_ex H
  clear H
  refine wc_cutq [2, 3, 5, 6, 7, 8, 12, 13, 14, 15, 16, 17, 18, 19, 20, 21, 22, 23, 24, 25, 26, 27, 28, 29, 30, 31, 32, 33] (fun fr W => ∃ s5 : Tb, o5 = .inl s5 ∧ St A N w W [oT a4 s5, oT none none] [fS 4 Nd.C s_0 a0]) ?_ ?_
  · refine wc_block ?_
    refine wc_loopm (α := Nat × Int × Tb) [2, 3, 5, 6, 7, 8, 12, 13, 14, 15, 16, 17, 18, 19, 20, 21, 22, 23, 24, 25, 26, 27, 28, 29, 30, 31, 32, 33] (fun x fr W => (x.1 : Int) = (a0.length : Int) - x.2.1 ∧ 0 ≤ x.2.1 ∧ forN (fun i s => formula_From.b0 a0 i s) x.1 x.2.1 x.2.2 = some o5 ∧ fr 12 = .int .i64 x.2.1 ∧ St A N w W [oT a4 (x.2.2), oT none none] [fS 4 Nd.C s_0 a0]) (fun x => x.1) (((a0.length : Int) - 0).toNat, 0, r1) ⟨(by dsimp only; have hle := Int.natCast_nonneg (a0.length); omega), (Int.le_refl _), (by dsimp only; exact e5), rfl, S⟩ ?_
    rintro ⟨m5, i5, x5_0⟩ g5 u5 ⟨hm5, hl5, e5, q5_i, S⟩
    try dsimp only at hm5
    try dsimp only at hl5
    try dsimp only at e5
    try dsimp only at S
    try dsimp only at q5_i
    refine wc_seq (wc_region ?_)
    refine wd (does_lt q5_i rfl) ?_
    refine wl_nil ?_
    refine wc_seq ?_
    refine wc_if rfl (fun hc6 => ?_) (fun hc6 => ?_)
    rotate_left
    · refine wc_exit ?_
      have hge : (a0.length : Int) ≤ i5 := Int.not_lt.1 (of_decide_eq_false hc6)
      obtain rfl : m5 = 0 := by omega
      replace e5 := forN_0 e5
      exact ⟨rfl, ((Dif.self _ _ _).upd rfl _), x5_0, e5, S⟩
    refine wc_skip ?_
    have hlt5 : i5 < (a0.length : Int) := of_decide_eq_true hc6
    obtain ⟨m5, rfl⟩ : ∃ m, m5 = m + 1 := ⟨m5 - 1, by omega⟩
    obtain ⟨q5, H, e5⟩ := forN_s e5
    unfold formula_From.b0 at H
    try dsimp only at H
    have hb5 := (S.len 0)
    refine wc_seq ?_
    refine wc_block ?_
    refine wc_seq (wc_region ?_)
    refine wd (does_mv_i q5_i) ?_
    refine wd (does_indexR sl_L_api_Node rfl q5_i (S.rd 0) (And.intro (show 0 ≤ i5 by omega) (show i5 < (a0.length : Int) from hlt5)).1 (And.intro (show 0 ≤ i5 by omega) (show i5 < (a0.length : Int) from hlt5)).2) ?_
    refine wd (does_load_agg ag_Nd rfl ((S.rd 0).at (at_some Nd.z (And.intro (show 0 ≤ i5 by omega) (show i5 < (a0.length : Int) from hlt5)))) (Nd.len _)) ?_
    refine wl_alloc ze_Nd (by decide) fun b9 w8 hw8 => ?_
    replace S : St A N w w8 [oB b9 T_Nd (Nd.C Nd.z), oT a4 x5_0, oT none none] [fS 4 Nd.C s_0 a0] := S.new hw8
    refine wd (does_as_i rfl) ?_
    refine wl_store_agg ag_Nd rfl rfl (S.blk 0) (Nd.len _) (by rw [Nd.len]; decide) (Nd.one _) (store_all (Nd.len _)) fun w10 B hw10 zw10 => ?_
    replace S : St A N w w10 [oB b9 T_Nd (Nd.C (at_ Nd.z a0 i5)), oT a4 x5_0, oT none none] [fS 4 Nd.C s_0 a0] := S.store 0 B hw10
    clear B
    refine wl_nil ?_
    refine wc_seq (wc_region ?_)
    refine wd (does_mv_p rfl) ?_
    refine wd (does_load_agg ag_Nd rfl ((S.blk 0).all _ (Nd.len _)) (Nd.len _)) ?_
    obtain ⟨r11, er11, H⟩ := bind_ex H
    replace S : St A N w w10 [oT a4 x5_0, oB b9 T_Nd (Nd.C (at_ Nd.z a0 i5)), oT none none] [fS 4 Nd.C s_0 a0] := S.front 1
    obtain ⟨B13, MB13, SB13, back⟩ := S.calln 1 ((.nil))
    refine wl_call (does_call ca_formula_Table_Put) (by decide) (formula_Table_Put_st SB13 er11) ?_
    rintro _ w12 ⟨rfl, S2⟩
    replace S : St A N w w12 [oT a4 r11.1, oB b9 T_Nd (Nd.C (at_ Nd.z a0 i5)), oT none none] [fS 4 Nd.C s_0 a0] := back _ _ _ _ S2 rfl
    clear back S2 SB13
    refine wd (does_mv_t rfl) ?_
    refine wd (does_extract rfl rfl) ?_
    refine wd (does_extract rfl rfl) ?_
    refine wd (does_as_i rfl) ?_
    refine wd (does_as_i rfl) ?_
    refine wl_nil ?_
    refine wc_seq (wc_seq (wc_region ?_))
    refine wd (does_mv_i rfl) ?_
    refine wd (does_eq rfl rfl) ?_
    refine wd (does_mv_b rfl) ?_
    refine wl_guard (j := 2) (pol := true) rfl rfl rfl (by decide) (fun hg => does_mv_i rfl) (by decide) ?_
    refine wl_guard (j := 2) (pol := true) rfl rfl rfl (by decide) (fun hg => does_mv_i rfl) (by decide) ?_
    refine wl_guard (j := 2) (pol := true) rfl rfl rfl (by decide) (fun hg => does_ne (gv_yes hg) (gv_yes hg)) (by decide) ?_
    refine wd (does_and rfl (fun hp => (gv_yes (and_1 hp)))) ?_
    refine wl_nil ?_
    refine wc_if rfl (fun hc14 => ?_) (fun hc14 => ?_)
    · replace H := if_t hc14 H
      refine wc_region ?_
      refine wd (does_as_i rfl) ?_
      refine wl_nil ?_
      refine wc_seq (wc_region ?_)
      refine wd (does_mv_i rfl) ?_
      refine wd (does_ne rfl rfl) ?_
      refine wl_nil ?_
      refine wc_if rfl (fun hc15 => ?_) (fun hc15 => ?_)
      · replace H := if_t hc15 H
        refine wc_seq (wc_region ?_)
        refine wd (does_mv_i rfl) ?_
        replace S : St A N w w12 [oT none none, oT a4 r11.1, oB b9 T_Nd (Nd.C (at_ Nd.z a0 i5)), oT none none] [fS 4 Nd.C s_0 a0] := S.add (Ext.refl _) (oT.nil _) (fun _ x => x.elim)
        refine wd (does_as_p rfl) ?_
        refine wd (does_as_i rfl) ?_
        refine wl_nil ?_
        refine wc_ret ?_
        refine ⟨_, (rets2 (retOne_tmp rfl) (retOne_tmp rfl)), ?_⟩
        replace S : St A N w w12 [oT none none] [] := S.arr [0] []
        obtain rfl := Option.some.inj H
        obtain rfl := e5
        obtain rfl := aft_r Ho5
        exact ⟨none, rfl, S⟩
      replace H := if_f hc15 H
      refine wc_skip ?_
      refine wc_region ?_
      refine wd (does_addc q5_i rfl (c := i5 + 1) rfl (by omega) (by omega)) ?_
      refine wd (does_mv_i rfl) ?_
      refine wl_nil ?_
      replace S : St A N w w12 [oT a4 r11.1, oT none none] [fS 4 Nd.C s_0 a0] := S.arr [0, 2] [0]
      obtain rfl := Option.some.inj H
      exact ⟨rfl, (((((((((((((((((((((((((((Dif.self _ _ _).upd rfl _).upd rfl _).upd rfl _).upd rfl _).upd rfl _).upd rfl _).upd rfl _).upd rfl _).upd rfl _).upd rfl _).upd rfl _).upd rfl _).upd rfl _).upd rfl _).upd rfl _).upd rfl _).upd rfl _).upd rfl _).upd rfl _).upd rfl _).upd rfl _).upd rfl _).upd rfl _).upd rfl _).upd rfl _).upd rfl _), (m5, i5 + 1, r11.1), ⟨(by dsimp only; omega), (by dsimp only; omega), e5, rfl, S⟩, by dsimp only; omega⟩
    · replace H := if_f hc14 H
      refine wc_skip ?_
      refine wc_seq (wc_region ?_)
      refine wd (does_mv_i rfl) ?_
      refine wd (does_ne rfl rfl) ?_
      refine wl_nil ?_
      refine wc_if rfl (fun hc16 => ?_) (fun hc16 => ?_)
      · replace H := if_t hc16 H
        refine wc_seq (wc_region ?_)
        refine wd (does_mv_i rfl) ?_
        replace S : St A N w w12 [oT none none, oT a4 r11.1, oB b9 T_Nd (Nd.C (at_ Nd.z a0 i5)), oT none none] [fS 4 Nd.C s_0 a0] := S.add (Ext.refl _) (oT.nil _) (fun _ x => x.elim)
        refine wd (does_as_p rfl) ?_
        refine wd (does_as_i rfl) ?_
        refine wl_nil ?_
        refine wc_ret ?_
        refine ⟨_, (rets2 (retOne_tmp rfl) (retOne_tmp rfl)), ?_⟩
        replace S : St A N w w12 [oT none none] [] := S.arr [0] []
        obtain rfl := Option.some.inj H
        obtain rfl := e5
        obtain rfl := aft_r Ho5
        exact ⟨none, rfl, S⟩
      replace H := if_f hc16 H
      refine wc_skip ?_
      refine wc_region ?_
      refine wd (does_addc q5_i rfl (c := i5 + 1) rfl (by omega) (by omega)) ?_
      refine wd (does_mv_i rfl) ?_
      refine wl_nil ?_
      replace S : St A N w w12 [oT a4 r11.1, oT none none] [fS 4 Nd.C s_0 a0] := S.arr [0, 2] [0]
      obtain rfl := Option.some.inj H
      exact ⟨rfl, ((((((((((((((((((((((((((Dif.self _ _ _).upd rfl _).upd rfl _).upd rfl _).upd rfl _).upd rfl _).upd rfl _).upd rfl _).upd rfl _).upd rfl _).upd rfl _).upd rfl _).upd rfl _).upd rfl _).upd rfl _).upd rfl _).upd rfl _).upd rfl _).upd rfl _).upd rfl _).upd rfl _).upd rfl _).upd rfl _).upd rfl _).upd rfl _).upd rfl _), (m5, i5 + 1, r11.1), ⟨(by dsimp only; omega), (by dsimp only; omega), e5, rfl, S⟩, by dsimp only; omega⟩
  rintro g17 u18 ⟨s5, rfl, S⟩
  have H := Ho5
  dsimp only [aft] at H
  refine wc_seq (wc_region ?_)
  refine wd (does_mv_p rfl) ?_
  refine wd (does_as_p rfl) ?_
  refine wd (does_as_i rfl) ?_
  refine wl_nil ?_
  refine wc_ret ?_
  refine ⟨_, (rets2 (retOne_tmp rfl) (retOne_tmp rfl)), ?_⟩
  replace S : St A N w u18 [oT a4 s5] [] := S.arr [0] []
  obtain rfl := Option.some.inj H
  exact ⟨a4, rfl, S⟩
theorem ref09_Seqs_st {A : Nat → Prop} {N : Oth} {w : World} {a0 : List Sq} {s_0 : SlV} {a1 : List Sq} {s_1 : SlV} (S : St A N w w [] [fS 17 Sq.C s_0 a0, fS 17 Sq.C s_1 a1]) {r : Bool} (H : ref09_Seqs.f a0 a1 = some r) :
    Calls PP F_ref09_Seqs #[s_0.v, s_1.v] w fun e w' => ∃ v, e = .returned v ∧ (v = .bool r ∧ St A N w w' [] []) := by
  unfold ref09_Seqs.f at H
  refine calls_of_wc (n := 26) fn_ref09_Seqs rfl rfl (by simp) ?_
  refine wc_seq (wc_region ?_)
  refine wd (does_as_b rfl) ?_
  refine wl_nil ?_
  refine wc_seq (wc_seq (wc_region ?_))
  refine wd (does_mv_l rfl) ?_
  refine wd (does_lenR sl_L_api_Seq rfl (S.rd 0)) ?_
  refine wd (does_mv_l rfl) ?_
  refine wd (does_lenR sl_L_api_Seq rfl (S.rd 1)) ?_
  refine wd (does_ne rfl rfl) ?_
  refine wl_nil ?_
  refine wc_if rfl (fun hc1 => ?_) (fun hc1 => ?_)
  · replace H := if_t hc1 H
    refine wc_seq (wc_region ?_)
    refine wd (does_as_b rfl) ?_
    refine wl_nil ?_
    refine wc_ret ?_
    refine ⟨_, (rets1 (retOne_tmp rfl)), ?_⟩
    replace S : St A N w w [] [] := S.arr [] []
    obtain rfl := Option.some.inj H
    exact ⟨rfl, S⟩
  replace H := if_f hc1 H
  refine wc_skip ?_
  refine wc_seq (wc_seq (wc_region ?_))
  refine wd (does_as_i rfl) ?_
  refine wl_nil ?_
  obtain ⟨o2, e2, Ho2⟩ := bind_ex H
  clear H
  refine wc_cutq [4, 5, 11, 12, 13, 14, 15, 16, 17, 18, 19, 20, 21, 22, 23, 24, 25] (fun fr W => ∃ s2 : Unit, o2 = .inl s2 ∧ St A N w W [] [fS 17 Sq.C s_0 a0, fS 17 Sq.C s_1 a1]) ?_ ?_
  · refine wc_block ?_
    refine wc_loopm (α := Nat × Int × Unit) [4, 5, 11, 12, 13, 14, 15, 16, 17, 18, 19, 20, 21, 22, 23, 24, 25] (fun x fr W => (x.1 : Int) = (a0.length : Int) - x.2.1 ∧ 0 ≤ x.2.1 ∧ forN (fun i s => ref09_Seqs.b0 a1 a0 i) x.1 x.2.1 x.2.2 = some o2 ∧ fr 5 = .int .i64 x.2.1 ∧ St A N w W [] [fS 17 Sq.C s_0 a0, fS 17 Sq.C s_1 a1]) (fun x => x.1) (((a0.length : Int) - 0).toNat, 0, ()) ⟨(by dsimp only; have hle := Int.natCast_nonneg (a0.length); omega), (Int.le_refl _), (by dsimp only; exact e2), rfl, S⟩ ?_
    rintro ⟨m2, i2, _⟩ g2 u2 ⟨hm2, hl2, e2, q2_i, S⟩
    try dsimp only at hm2
    try dsimp only at hl2
    try dsimp only at e2
    try dsimp only at S
    try dsimp only at q2_i
    refine wc_seq (wc_seq (wc_region ?_))
    refine wd (does_mv_i q2_i) ?_
    refine wd (does_mv_l rfl) ?_
    refine wd (does_lenR sl_L_api_Seq rfl (S.rd 0)) ?_
    refine wd (does_lt rfl rfl) ?_
    refine wl_nil ?_
    refine wc_if rfl (fun hc3 => ?_) (fun hc3 => ?_)
    rotate_left
    · refine wc_exit ?_
      have hge : (a0.length : Int) ≤ i2 := Int.not_lt.1 (of_decide_eq_false hc3)
      obtain rfl : m2 = 0 := by omega
      replace e2 := forN_0 e2
      exact ⟨rfl, (((((Dif.self _ _ _).upd rfl _).upd rfl _).upd rfl _).upd rfl _), (), e2, S⟩
    refine wc_skip ?_
    have hlt2 : i2 < (a0.length : Int) := of_decide_eq_true hc3
    obtain ⟨m2, rfl⟩ : ∃ m, m2 = m + 1 := ⟨m2 - 1, by omega⟩
    obtain ⟨q2, H, e2⟩ := forN_s e2
    unfold ref09_Seqs.b0 at H
    try dsimp only at H
    have hb2 := (S.len 0)
    refine wc_seq ?_
    refine wc_block ?_
    refine wc_seq ?_
    refine wc_quiet 8 (Ext u2) hmix (by kernel_rfl) (by kernel_rfl) (Ext.drawn _) ?_
    refine wq_does (fun v K => does_mv_l rfl) ?_
    refine wq_does (fun v K => does_mv_i q2_i) ?_
    refine wq_does (fun v K => does_indexR sl_L_api_Seq rfl rfl ((S.ext K).rd 0) (And.intro (show 0 ≤ i2 by omega) (show i2 < (a0.length : Int) from hlt2)).1 (And.intro (show 0 ≤ i2 by omega) (show i2 < (a0.length : Int) from hlt2)).2) ?_
    refine wq_does (fun v K => does_load_agg ag_Sq rfl (((S.ext K).rd 0).at (at_some Sq.z (And.intro (show 0 ≤ i2 by omega) (show i2 < (a0.length : Int) from hlt2)))) (Sq.len _)) ?_
    refine wq_does (fun v K => does_mv_l rfl) ?_
    refine wq_does (fun v K => does_mv_i q2_i) ?_
    obtain ⟨hi5, H⟩ := chk_ex H
    refine wq_does (fun v K => does_indexR sl_L_api_Seq rfl rfl ((S.ext K).rd 1) (inb_ex hi5).1 (inb_ex hi5).2) ?_
    refine wq_does (fun v K => does_load_agg ag_Sq rfl (((S.ext K).rd 1).at (at_some Sq.z (inb_ex hi5))) (Sq.len _)) ?_
    refine wq_nil fun w6 K => ?_
    replace S := S.ext K
    clear K
    refine wd (does_nev eg_Sq (eq_Sq _ _) (by decide) rfl rfl) ?_
    refine wl_nil ?_
    refine wc_if rfl (fun hc7 => ?_) (fun hc7 => ?_)
    · replace H := if_t hc7 H
      refine wc_seq (wc_region ?_)
      refine wd (does_as_b rfl) ?_
      refine wl_nil ?_
      refine wc_ret ?_
      refine ⟨_, (rets1 (retOne_tmp rfl)), ?_⟩
      replace S : St A N w w6 [] [] := S.arr [] []
      obtain rfl := Option.some.inj H
      obtain rfl := e2
      obtain rfl := aft_r Ho2
      exact ⟨rfl, S⟩
    replace H := if_f hc7 H
    refine wc_skip ?_
    refine wc_region ?_
    refine wd (does_mv_i q2_i) ?_
    refine wd (does_addc rfl rfl (c := i2 + 1) rfl (by omega) (by omega)) ?_
    refine wd (does_as_i rfl) ?_
    refine wl_nil ?_
    obtain rfl := Option.some.inj H
    exact ⟨rfl, (((((((((((((((((Dif.self _ _ _).upd rfl _).upd rfl _).upd rfl _).upd rfl _).upd rfl _).upd rfl _).upd rfl _).upd rfl _).upd rfl _).upd rfl _).upd rfl _).upd rfl _).upd rfl _).upd rfl _).upd rfl _).upd rfl _), (m2, i2 + 1, ()), ⟨(by dsimp only; omega), (by dsimp only; omega), e2, rfl, S⟩, by dsimp only; omega⟩
  rintro g8 u9 ⟨s2, rfl, S⟩
  have H := Ho2
  dsimp only [aft] at H
  refine wc_seq (wc_region ?_)
  refine wd (does_as_b rfl) ?_
  refine wl_nil ?_
  refine wc_ret ?_
  refine ⟨_, (rets1 (retOne_tmp rfl)), ?_⟩
  replace S : St A N w u9 [] [] := S.arr [] []
  obtain rfl := Option.some.inj H
  exact ⟨rfl, S⟩
theorem law09_set_st {A : Nat → Prop} {N : Oth} {w : World} {a0 : List Int} {s_0 : SlV} (S : St A N w w [] [fS 1 IC s_0 a0]) {r : Bits} (H : law09_set.f a0 = some r) :
    Calls PP F_law09_set #[s_0.v] w fun e w' => ∃ v, e = .returned v ∧ (v = .agg (Bits.C r).toArray ∧ St A N w w' [] []) := by
  unfold law09_set.f at H
  refine calls_of_wc (n := 11) fn_law09_set rfl rfl (by simp) ?_
  refine wc_seq (wc_region ?_)
  refine wl_alloc ze_Bits (by decide) fun b2 w1 hw1 => ?_
  replace S : St A N w w1 [oB b2 T_Bits (Bits.C Bits.z)] [fS 1 IC s_0 a0] := S.new hw1
  refine wl_nil ?_
  refine wc_seq (wc_region ?_)
  refine wd (does_mv_l rfl) ?_
  obtain ⟨r3, er3, H⟩ := bind_ex H
  obtain ⟨B5, MB5, SB5, back⟩ := S.calln 0 ((.z 0 rfl .nil))
  refine wl_call (does_call ca_ref05_Of) (by decide) (ref05_Of_st SB5 er3) ?_
  rintro _ w4 ⟨rfl, S2⟩
  replace S : St A N w w4 [oB b2 T_Bits (Bits.C Bits.z)] [fS 1 IC s_0 a0] := back _ _ _ _ S2 rfl
  clear back S2 SB5
  refine wd (does_mv_t rfl) ?_
  refine wd (does_extract rfl rfl) ?_
  refine wd (does_extract rfl rfl) ?_
  refine wl_alloc ze_Bits (by decide) fun b7 w6 hw6 => ?_
  replace S : St A N w w6 [oB b7 T_Bits (Bits.C Bits.z), oB b2 T_Bits (Bits.C Bits.z)] [fS 1 IC s_0 a0] := S.new hw6
  refine wl_store_agg ag_Bits rfl rfl (S.blk 0) (Bits.len _) (by rw [Bits.len]; decide) (Bits.one _) (store_all (Bits.len _)) fun w8 B hw8 zw8 => ?_
  replace S : St A N w w8 [oB b7 T_Bits (Bits.C r3.1), oB b2 T_Bits (Bits.C Bits.z)] [fS 1 IC s_0 a0] := S.store 0 B hw8
  clear B
  refine wd (does_as_i rfl) ?_
  refine wl_nil ?_
  refine wc_seq (wc_region ?_)
  refine wd (does_load_agg ag_Bits rfl ((S.blk 0).all _ (Bits.len _)) (Bits.len _)) ?_
  refine wl_store_agg ag_Bits rfl rfl (S.blk 1) (Bits.len _) (by rw [Bits.len]; decide) (Bits.one _) (store_all (Bits.len _)) fun w9 B hw9 zw9 => ?_
  replace S : St A N w w9 [oB b2 T_Bits (Bits.C r3.1), oB b7 T_Bits (Bits.C r3.1)] [fS 1 IC s_0 a0] := S.store 1 B hw9
  clear B
  refine wl_nil ?_
  refine wc_ret ?_
  refine ⟨_, (rets1 (retOne_agg ag_Bits rfl ((S.blk 0).all _ (Bits.len _)) (Bits.len _))), ?_⟩
  replace S : St A N w w9 [] [] := S.arr [] []
  obtain rfl := Option.some.inj H
  exact ⟨rfl, S⟩
theorem law09_heads_st {A : Nat → Prop} {N : Oth} {w : World}  (S : St A N w w [] [oTz]) {r : Bool} (H : law09_heads.f  = some r) :
    Calls PP F_law09_heads #[] w fun e w' => ∃ v, e = .returned v ∧ (v = .bool r ∧ St A N w w' [] []) := by
  unfold law09_heads.f at H
  refine calls_of_wc (n := 143) fn_law09_heads rfl rfl (by simp) ?_
  refine wc_seq (wc_region ?_)
  refine wd (does_as_b rfl) ?_
  refine wl_nil ?_
  refine wc_seq (wc_region ?_)
  refine wd (does_build bu_Nd (Bld.one rfl rfl (by rw [Nd.len]; decide) (Nd.set_kind _ _) (Bld.one rfl rfl (by rw [Nd.len]; decide) (Nd.set_name _ _) Bld.nil))) ?_
  refine wd (does_build bu_Nd (Bld.one rfl rfl (by rw [Nd.len]; decide) (Nd.set_kind _ _) (Bld.one rfl rfl (by rw [Nd.len]; decide) (Nd.set_name _ _) Bld.nil))) ?_
  refine wd (does_build bu_Nd (Bld.one rfl rfl (by rw [Nd.len]; decide) (Nd.set_kind _ _) Bld.nil)) ?_
  refine wd (does_build bu_Nd (Bld.one rfl rfl (by rw [Nd.len]; decide) (Nd.set_kind _ _) (Bld.one rfl rfl (by rw [Nd.len]; decide) (Nd.set_l _ _) (Bld.one rfl rfl (by rw [Nd.len]; decide) (Nd.set_r _ _) Bld.nil)))) ?_
  refine wd (does_build bu_Nd (Bld.one rfl rfl (by rw [Nd.len]; decide) (Nd.set_kind _ _) (Bld.one rfl rfl (by rw [Nd.len]; decide) (Nd.set_l _ _) (Bld.one rfl rfl (by rw [Nd.len]; decide) (Nd.set_r _ _) Bld.nil)))) ?_
  refine wd (does_build bu_Nd (Bld.one rfl rfl (by rw [Nd.len]; decide) (Nd.set_kind _ _) (Bld.one rfl rfl (by rw [Nd.len]; decide) (Nd.set_l _ _) (Bld.one rfl rfl (by rw [Nd.len]; decide) (Nd.set_r _ _) Bld.nil)))) ?_
  refine wl_lits (C := Nd.C) (l := [{ Nd.z with kind := 1, name := (⟨#[112]⟩ : ByteArray) }, { Nd.z with kind := 1, name := (⟨#[113]⟩ : ByteArray) }, { Nd.z with kind := 2 }, { Nd.z with kind := 5, l := 0, r := 1 }, { Nd.z with kind := 3, l := 0, r := 1 }, { Nd.z with kind := 4, l := 0, r := 1 }]) (vs := [.agg (Nd.C ({ Nd.z with kind := 1, name := (⟨#[112]⟩ : ByteArray) })).toArray, .agg (Nd.C ({ Nd.z with kind := 1, name := (⟨#[113]⟩ : ByteArray) })).toArray, .agg (Nd.C ({ Nd.z with kind := 2 })).toArray, .agg (Nd.C ({ Nd.z with kind := 5, l := 0, r := 1 })).toArray, .agg (Nd.C ({ Nd.z with kind := 3, l := 0, r := 1 })).toArray, .agg (Nd.C ({ Nd.z with kind := 4, l := 0, r := 1 })).toArray]) sl_L_api_Node el_Nd.zero rfl rfl (fun a _ => Nd.len a) (by decide) rfl (by decide) fun b2 w1 s3 hBw1 hw1 => ?_
  replace S : St A N w w1 [oS T_Nd 4 Nd.C s3 ([{ Nd.z with kind := 1, name := (⟨#[112]⟩ : ByteArray) }, { Nd.z with kind := 1, name := (⟨#[113]⟩ : ByteArray) }, { Nd.z with kind := 2 }, { Nd.z with kind := 5, l := 0, r := 1 }, { Nd.z with kind := 3, l := 0, r := 1 }, { Nd.z with kind := 4, l := 0, r := 1 }])] [oTz] := S.lit hBw1 hw1 (by simp)
  obtain ⟨r4, er4, H⟩ := bind_ex H
  obtain ⟨B6, MB6, SB6, back⟩ := S.calln 0 ((.s 0 rfl .nil))
  refine wl_call (does_call ca_formula_From) (by decide) (formula_From_st SB6 er4) ?_
  rintro _ w5 ⟨a7, rfl, S2⟩
  replace S : St A N w w5 [oT a7 r4.1, oS T_Nd 4 Nd.C s3 ([{ Nd.z with kind := 1, name := (⟨#[112]⟩ : ByteArray) }, { Nd.z with kind := 1, name := (⟨#[113]⟩ : ByteArray) }, { Nd.z with kind := 2 }, { Nd.z with kind := 5, l := 0, r := 1 }, { Nd.z with kind := 3, l := 0, r := 1 }, { Nd.z with kind := 4, l := 0, r := 1 }])] [oTz] := back _ _ _ _ S2 rfl
  clear back S2 SB6
  refine wd (does_mv_t rfl) ?_
  refine wd (does_extract rfl rfl) ?_
  refine wd (does_extract rfl rfl) ?_
  refine wd (does_as_p rfl) ?_
  refine wd (does_as_i rfl) ?_
  refine wl_nil ?_
  refine wc_seq (wc_region ?_)
  refine wd (does_mv_p rfl) ?_
  refine wl_lits (C := IC) (l := [0, 3]) (vs := [.int .i64 0, .int .i64 3]) sl_L_int el_int.zero rfl rfl (fun _ _ => rfl) (by decide) rfl (by decide) fun b9 w8 s10 hBw8 hw8 => ?_
  replace S : St A N w w8 [oS T_int 1 IC s10 ([0, 3]), oT a7 r4.1, oS T_Nd 4 Nd.C s3 ([{ Nd.z with kind := 1, name := (⟨#[112]⟩ : ByteArray) }, { Nd.z with kind := 1, name := (⟨#[113]⟩ : ByteArray) }, { Nd.z with kind := 2 }, { Nd.z with kind := 5, l := 0, r := 1 }, { Nd.z with kind := 3, l := 0, r := 1 }, { Nd.z with kind := 4, l := 0, r := 1 }])] [oTz] := S.lit hBw8 hw8 (by simp)
  obtain ⟨r11, er11, H⟩ := bind_ex H
  obtain ⟨B13, MB13, SB13, back⟩ := S.calln 0 ((.s 0 rfl .nil))
  refine wl_call (does_call ca_law09_set) (by decide) (law09_set_st SB13 er11) ?_
  rintro _ w12 ⟨rfl, S2⟩
  replace S : St A N w w12 [oS T_int 1 IC s10 ([0, 3]), oT a7 r4.1, oS T_Nd 4 Nd.C s3 ([{ Nd.z with kind := 1, name := (⟨#[112]⟩ : ByteArray) }, { Nd.z with kind := 1, name := (⟨#[113]⟩ : ByteArray) }, { Nd.z with kind := 2 }, { Nd.z with kind := 5, l := 0, r := 1 }, { Nd.z with kind := 3, l := 0, r := 1 }, { Nd.z with kind := 4, l := 0, r := 1 }])] [oTz] := back _ _ _ _ S2 rfl
  clear back S2 SB13
  refine wd (does_build bu_Sq (Bld.step rfl (congrArg Value.cells rfl) (Bits.len _) (by rw [Sq.len]; decide) (Sq.put_left _ _) (Bld.one rfl rfl (by rw [Sq.len]; decide) (Sq.set_goal _ _) Bld.nil))) ?_
  obtain ⟨r14, er14, H⟩ := bind_ex H
  obtain ⟨B16, MB16, SB16, back⟩ := S.calln 0 ((.o 1 rfl (.z 0 rfl .nil)))
  refine wl_call (does_call ca_rule_Apply) (by decide) (rule_Apply_st SB16 er14) ?_
  rintro _ w15 ⟨rfl, S2⟩
  replace S : St A N w w15 [oS T_int 1 IC s10 ([0, 3]), oT a7 r4.1, oS T_Nd 4 Nd.C s3 ([{ Nd.z with kind := 1, name := (⟨#[112]⟩ : ByteArray) }, { Nd.z with kind := 1, name := (⟨#[113]⟩ : ByteArray) }, { Nd.z with kind := 2 }, { Nd.z with kind := 5, l := 0, r := 1 }, { Nd.z with kind := 3, l := 0, r := 1 }, { Nd.z with kind := 4, l := 0, r := 1 }])] [oTz] := back _ _ _ _ S2 rfl
  clear back S2 SB16
  refine wd (does_mv_t rfl) ?_
  refine wd (does_extract rfl rfl) ?_
  refine wd (does_extract rfl rfl) ?_
  refine wd (does_extract rfl rfl) ?_
  refine wd (does_as_i rfl) ?_
  refine wd (does_as_i rfl) ?_
  refine wd (does_as_i rfl) ?_
  refine wl_nil ?_
  refine wc_seq (wc_region ?_)
  refine wd (does_mv_p rfl) ?_
  refine wl_lits (C := IC) (l := [0, 3]) (vs := [.int .i64 0, .int .i64 3]) sl_L_int el_int.zero rfl rfl (fun _ _ => rfl) (by decide) rfl (by decide) fun b18 w17 s19 hBw17 hw17 => ?_
  replace S : St A N w w17 [oS T_int 1 IC s19 ([0, 3]), oS T_int 1 IC s10 ([0, 3]), oT a7 r4.1, oS T_Nd 4 Nd.C s3 ([{ Nd.z with kind := 1, name := (⟨#[112]⟩ : ByteArray) }, { Nd.z with kind := 1, name := (⟨#[113]⟩ : ByteArray) }, { Nd.z with kind := 2 }, { Nd.z with kind := 5, l := 0, r := 1 }, { Nd.z with kind := 3, l := 0, r := 1 }, { Nd.z with kind := 4, l := 0, r := 1 }])] [oTz] := S.lit hBw17 hw17 (by simp)
  obtain ⟨r20, er20, H⟩ := bind_ex H
  obtain ⟨B22, MB22, SB22, back⟩ := S.calln 0 ((.s 0 rfl .nil))
  refine wl_call (does_call ca_law09_set) (by decide) (law09_set_st SB22 er20) ?_
  rintro _ w21 ⟨rfl, S2⟩
  replace S : St A N w w21 [oS T_int 1 IC s19 ([0, 3]), oS T_int 1 IC s10 ([0, 3]), oT a7 r4.1, oS T_Nd 4 Nd.C s3 ([{ Nd.z with kind := 1, name := (⟨#[112]⟩ : ByteArray) }, { Nd.z with kind := 1, name := (⟨#[113]⟩ : ByteArray) }, { Nd.z with kind := 2 }, { Nd.z with kind := 5, l := 0, r := 1 }, { Nd.z with kind := 3, l := 0, r := 1 }, { Nd.z with kind := 4, l := 0, r := 1 }])] [oTz] := back _ _ _ _ S2 rfl
  clear back S2 SB22
  refine wd (does_build bu_Sq (Bld.step rfl (congrArg Value.cells rfl) (Bits.len _) (by rw [Sq.len]; decide) (Sq.put_left _ _) (Bld.one rfl rfl (by rw [Sq.len]; decide) (Sq.set_goal _ _) Bld.nil))) ?_
  refine wd (does_mv_i rfl) ?_
  refine wd (does_mv_i rfl) ?_
  obtain ⟨r23, er23, H⟩ := bind_ex H
  replace S : St A N w w21 [oT a7 r4.1, oS T_int 1 IC s19 ([0, 3]), oS T_int 1 IC s10 ([0, 3]), oS T_Nd 4 Nd.C s3 ([{ Nd.z with kind := 1, name := (⟨#[112]⟩ : ByteArray) }, { Nd.z with kind := 1, name := (⟨#[113]⟩ : ByteArray) }, { Nd.z with kind := 2 }, { Nd.z with kind := 5, l := 0, r := 1 }, { Nd.z with kind := 3, l := 0, r := 1 }, { Nd.z with kind := 4, l := 0, r := 1 }])] [oTz] := S.front 2
  obtain ⟨B25, MB25, SB25, back⟩ := S.calln 1 ((.z 0 rfl .nil))
  refine wl_call (does_call ca_rule_Premises) (by decide) (rule_Premises_st SB25 er23) ?_
  rintro _ w24 ⟨s26, rfl, S2⟩
  replace S : St A N w w24 [oT a7 r23.1, oS T_Sq 17 Sq.C s26 r23.2.1, oS T_int 1 IC s19 ([0, 3]), oS T_int 1 IC s10 ([0, 3]), oS T_Nd 4 Nd.C s3 ([{ Nd.z with kind := 1, name := (⟨#[112]⟩ : ByteArray) }, { Nd.z with kind := 1, name := (⟨#[113]⟩ : ByteArray) }, { Nd.z with kind := 2 }, { Nd.z with kind := 5, l := 0, r := 1 }, { Nd.z with kind := 3, l := 0, r := 1 }, { Nd.z with kind := 4, l := 0, r := 1 }])] [oTz] := back _ _ _ _ S2 rfl
  clear back S2 SB25
  refine wd (does_mv_t rfl) ?_
  refine wd (does_extract rfl rfl) ?_
  refine wd (does_extract rfl rfl) ?_
  refine wd (does_as_l rfl) ?_
  refine wd (does_as_i rfl) ?_
  refine wl_nil ?_
  refine wc_seq (wc_region ?_)
  refine wd (does_mv_p rfl) ?_
  refine wd (does_build bu_Sq (Bld.one rfl rfl (by rw [Sq.len]; decide) (Sq.set_goal _ _) Bld.nil)) ?_
  obtain ⟨r27, er27, H⟩ := bind_ex H
  obtain ⟨B29, MB29, SB29, back⟩ := S.calln 0 ((.o 0 rfl (.z 0 rfl .nil)))
  refine wl_call (does_call ca_rule_Choices) (by decide) (rule_Choices_st SB29 er27) ?_
  rintro _ w28 ⟨s30, s31, rfl, S2⟩
  replace S : St A N w w28 [oS T_api_Rule 1 IC s30 r27.1, oS T_int 1 IC s31 r27.2.1, oT a7 r23.1, oS T_Sq 17 Sq.C s26 r23.2.1, oS T_int 1 IC s19 ([0, 3]), oS T_int 1 IC s10 ([0, 3]), oS T_Nd 4 Nd.C s3 ([{ Nd.z with kind := 1, name := (⟨#[112]⟩ : ByteArray) }, { Nd.z with kind := 1, name := (⟨#[113]⟩ : ByteArray) }, { Nd.z with kind := 2 }, { Nd.z with kind := 5, l := 0, r := 1 }, { Nd.z with kind := 3, l := 0, r := 1 }, { Nd.z with kind := 4, l := 0, r := 1 }])] [oTz] := back _ _ _ _ S2 rfl
  clear back S2 SB29
  refine wd (does_mv_t rfl) ?_
  refine wd (does_extract rfl rfl) ?_
  refine wd (does_extract rfl rfl) ?_
  refine wd (does_extract rfl rfl) ?_
  refine wd (does_as_l rfl) ?_
  refine wd (does_as_l rfl) ?_
  refine wd (does_as_i rfl) ?_
  refine wl_nil ?_
  refine wc_seq (wc_region ?_)
  refine wd (does_mv_p rfl) ?_
  refine wl_lits (C := IC) (l := [2, 4]) (vs := [.int .i64 2, .int .i64 4]) sl_L_int el_int.zero rfl rfl (fun _ _ => rfl) (by decide) rfl (by decide) fun b33 w32 s34 hBw32 hw32 => ?_
  replace S : St A N w w32 [oS T_int 1 IC s34 ([2, 4]), oS T_api_Rule 1 IC s30 r27.1, oS T_int 1 IC s31 r27.2.1, oT a7 r23.1, oS T_Sq 17 Sq.C s26 r23.2.1, oS T_int 1 IC s19 ([0, 3]), oS T_int 1 IC s10 ([0, 3]), oS T_Nd 4 Nd.C s3 ([{ Nd.z with kind := 1, name := (⟨#[112]⟩ : ByteArray) }, { Nd.z with kind := 1, name := (⟨#[113]⟩ : ByteArray) }, { Nd.z with kind := 2 }, { Nd.z with kind := 5, l := 0, r := 1 }, { Nd.z with kind := 3, l := 0, r := 1 }, { Nd.z with kind := 4, l := 0, r := 1 }])] [oTz] := S.lit hBw32 hw32 (by simp)
  obtain ⟨r35, er35, H⟩ := bind_ex H
  obtain ⟨B37, MB37, SB37, back⟩ := S.calln 0 ((.s 0 rfl .nil))
  refine wl_call (does_call ca_law09_set) (by decide) (law09_set_st SB37 er35) ?_
  rintro _ w36 ⟨rfl, S2⟩
  replace S : St A N w w36 [oS T_int 1 IC s34 ([2, 4]), oS T_api_Rule 1 IC s30 r27.1, oS T_int 1 IC s31 r27.2.1, oT a7 r23.1, oS T_Sq 17 Sq.C s26 r23.2.1, oS T_int 1 IC s19 ([0, 3]), oS T_int 1 IC s10 ([0, 3]), oS T_Nd 4 Nd.C s3 ([{ Nd.z with kind := 1, name := (⟨#[112]⟩ : ByteArray) }, { Nd.z with kind := 1, name := (⟨#[113]⟩ : ByteArray) }, { Nd.z with kind := 2 }, { Nd.z with kind := 5, l := 0, r := 1 }, { Nd.z with kind := 3, l := 0, r := 1 }, { Nd.z with kind := 4, l := 0, r := 1 }])] [oTz] := back _ _ _ _ S2 rfl
  clear back S2 SB37
  refine wd (does_build bu_Sq (Bld.step rfl (congrArg Value.cells rfl) (Bits.len _) (by rw [Sq.len]; decide) (Sq.put_left _ _) Bld.nil)) ?_
  obtain ⟨r38, er38, H⟩ := bind_ex H
  obtain ⟨B40, MB40, SB40, back⟩ := S.calln 0 ((.o 3 rfl (.z 0 rfl .nil)))
  refine wl_call (does_call ca_rule_Fits) (by decide) (rule_Fits_st SB40 er38) ?_
  rintro _ w39 ⟨rfl, S2⟩
  replace S : St A N w w39 [oS T_int 1 IC s34 ([2, 4]), oS T_api_Rule 1 IC s30 r27.1, oS T_int 1 IC s31 r27.2.1, oT a7 r23.1, oS T_Sq 17 Sq.C s26 r23.2.1, oS T_int 1 IC s19 ([0, 3]), oS T_int 1 IC s10 ([0, 3]), oS T_Nd 4 Nd.C s3 ([{ Nd.z with kind := 1, name := (⟨#[112]⟩ : ByteArray) }, { Nd.z with kind := 1, name := (⟨#[113]⟩ : ByteArray) }, { Nd.z with kind := 2 }, { Nd.z with kind := 5, l := 0, r := 1 }, { Nd.z with kind := 3, l := 0, r := 1 }, { Nd.z with kind := 4, l := 0, r := 1 }])] [oTz] := back _ _ _ _ S2 rfl
  clear back S2 SB40
  refine wd (does_mv_t rfl) ?_
  refine wd (does_extract rfl rfl) ?_
  refine wd (does_extract rfl rfl) ?_
  refine wd (does_as_b rfl) ?_
  refine wd (does_as_i rfl) ?_
  refine wl_nil ?_
  refine wc_seq (wc_region ?_)
  refine wd (does_mv_p rfl) ?_
  refine wd (does_build bu_Sq (Bld.one rfl rfl (by rw [Sq.len]; decide) (Sq.set_goal _ _) Bld.nil)) ?_
  obtain ⟨r41, er41, H⟩ := bind_ex H
  replace S : St A N w w39 [oT a7 r23.1, oS T_int 1 IC s34 ([2, 4]), oS T_api_Rule 1 IC s30 r27.1, oS T_int 1 IC s31 r27.2.1, oS T_Sq 17 Sq.C s26 r23.2.1, oS T_int 1 IC s19 ([0, 3]), oS T_int 1 IC s10 ([0, 3]), oS T_Nd 4 Nd.C s3 ([{ Nd.z with kind := 1, name := (⟨#[112]⟩ : ByteArray) }, { Nd.z with kind := 1, name := (⟨#[113]⟩ : ByteArray) }, { Nd.z with kind := 2 }, { Nd.z with kind := 5, l := 0, r := 1 }, { Nd.z with kind := 3, l := 0, r := 1 }, { Nd.z with kind := 4, l := 0, r := 1 }])] [oTz] := S.front 3
  obtain ⟨B43, MB43, SB43, back⟩ := S.calln 1 ((.z 0 rfl .nil))
  refine wl_call (does_call ca_rule_Premises) (by decide) (rule_Premises_st SB43 er41) ?_
  rintro _ w42 ⟨s44, rfl, S2⟩
  replace S : St A N w w42 [oT a7 r41.1, oS T_Sq 17 Sq.C s44 r41.2.1, oS T_int 1 IC s34 ([2, 4]), oS T_api_Rule 1 IC s30 r27.1, oS T_int 1 IC s31 r27.2.1, oS T_Sq 17 Sq.C s26 r23.2.1, oS T_int 1 IC s19 ([0, 3]), oS T_int 1 IC s10 ([0, 3]), oS T_Nd 4 Nd.C s3 ([{ Nd.z with kind := 1, name := (⟨#[112]⟩ : ByteArray) }, { Nd.z with kind := 1, name := (⟨#[113]⟩ : ByteArray) }, { Nd.z with kind := 2 }, { Nd.z with kind := 5, l := 0, r := 1 }, { Nd.z with kind := 3, l := 0, r := 1 }, { Nd.z with kind := 4, l := 0, r := 1 }])] [oTz] := back _ _ _ _ S2 rfl
  clear back S2 SB43
  refine wd (does_mv_t rfl) ?_
  refine wd (does_extract rfl rfl) ?_
  refine wd (does_extract rfl rfl) ?_
  refine wd (does_as_l rfl) ?_
  refine wd (does_as_i rfl) ?_
  refine wl_nil ?_
  refine wc_seq (wc_region ?_)
  refine wd (does_mv_p rfl) ?_
  refine wd (does_build bu_Sq (Bld.one rfl rfl (by rw [Sq.len]; decide) (Sq.set_goal _ _) Bld.nil)) ?_
  obtain ⟨r45, er45, H⟩ := bind_ex H
  obtain ⟨B47, MB47, SB47, back⟩ := S.calln 0 ((.o 0 rfl (.z 0 rfl .nil)))
  refine wl_call (does_call ca_rule_Apply) (by decide) (rule_Apply_st SB47 er45) ?_
  rintro _ w46 ⟨rfl, S2⟩
  replace S : St A N w w46 [oT a7 r41.1, oS T_Sq 17 Sq.C s44 r41.2.1, oS T_int 1 IC s34 ([2, 4]), oS T_api_Rule 1 IC s30 r27.1, oS T_int 1 IC s31 r27.2.1, oS T_Sq 17 Sq.C s26 r23.2.1, oS T_int 1 IC s19 ([0, 3]), oS T_int 1 IC s10 ([0, 3]), oS T_Nd 4 Nd.C s3 ([{ Nd.z with kind := 1, name := (⟨#[112]⟩ : ByteArray) }, { Nd.z with kind := 1, name := (⟨#[113]⟩ : ByteArray) }, { Nd.z with kind := 2 }, { Nd.z with kind := 5, l := 0, r := 1 }, { Nd.z with kind := 3, l := 0, r := 1 }, { Nd.z with kind := 4, l := 0, r := 1 }])] [oTz] := back _ _ _ _ S2 rfl
  clear back S2 SB47
  refine wd (does_mv_t rfl) ?_
  refine wd (does_extract rfl rfl) ?_
  refine wd (does_extract rfl rfl) ?_
  refine wd (does_extract rfl rfl) ?_
  refine wd (does_as_i rfl) ?_
  refine wd (does_as_i rfl) ?_
  refine wd (does_as_i rfl) ?_
  refine wl_nil ?_
  refine wc_seq (wc_region ?_)
  refine wd (does_mv_i rfl) ?_
  refine wd (does_eq rfl rfl) ?_
  refine wd (does_mv_b rfl) ?_
  refine wl_guard (j := 2) (pol := true) rfl rfl rfl (by decide) (fun hg => does_mv_i rfl) (by decide) ?_
  refine wl_guard (j := 2) (pol := true) rfl rfl rfl (by decide) (fun hg => does_eq (gv_yes hg) rfl) (by decide) ?_
  refine wd (does_and rfl (fun hp => (gv_yes (and_1 hp)))) ?_
  refine wd (does_mv_b rfl) ?_
  refine wl_guard (j := 6) (pol := true) rfl rfl rfl (by decide) (fun hg => does_mv_i rfl) (by decide) ?_
  refine wl_guard (j := 6) (pol := true) rfl rfl rfl (by decide) (fun hg => does_eq (gv_yes hg) rfl) (by decide) ?_
  refine wd (does_and rfl (fun hp => (gv_yes (and_1 hp)))) ?_
  refine wd (does_mv_b rfl) ?_
  refine wl_guard (j := 10) (pol := true) rfl rfl rfl (by decide) (fun hg => does_mv_i rfl) (by decide) ?_
  refine wl_guard (j := 10) (pol := true) rfl rfl rfl (by decide) (fun hg => does_eq (gv_yes hg) rfl) (by decide) ?_
  refine wd (does_and rfl (fun hp => (gv_yes (and_1 hp)))) ?_
  refine wd (does_mv_b rfl) ?_
  refine wl_guard (j := 14) (pol := true) rfl rfl rfl (by decide) (fun hg => does_mv_i rfl) (by decide) ?_
  refine wl_guard (j := 14) (pol := true) rfl rfl rfl (by decide) (fun hg => does_eq (gv_yes hg) rfl) (by decide) ?_
  refine wd (does_and rfl (fun hp => (gv_yes (and_1 hp)))) ?_
  refine wd (does_mv_b rfl) ?_
  refine wl_guard (j := 18) (pol := true) rfl rfl rfl (by decide) (fun hg => does_mv_i rfl) (by decide) ?_
  refine wl_guard (j := 18) (pol := true) rfl rfl rfl (by decide) (fun hg => does_eq (gv_yes hg) rfl) (by decide) ?_
  refine wd (does_and rfl (fun hp => (gv_yes (and_1 hp)))) ?_
  refine wd (does_mv_b rfl) ?_
  refine wl_guard (j := 22) (pol := true) rfl rfl rfl (by decide) (fun hg => does_mv_i rfl) (by decide) ?_
  refine wl_guard (j := 22) (pol := true) rfl rfl rfl (by decide) (fun hg => does_eq (gv_yes hg) rfl) (by decide) ?_
  refine wd (does_and rfl (fun hp => (gv_yes (and_1 hp)))) ?_
  refine wd (does_mv_b rfl) ?_
  refine wl_guard (j := 26) (pol := true) rfl rfl rfl (by decide) (fun hg => does_mv_l rfl) (by decide) ?_
  obtain ⟨hg48, H⟩ := chk_ex H
  refine wl_gon (j := 26) (pol := true) rfl rfl rfl (by decide) (by simpa using hg48) ?_
  refine wl_lits (C := IC) (l := [0, 1]) (vs := [.int .i64 0, .int .i64 1]) sl_L_int el_int.zero rfl rfl (fun _ _ => rfl) (by decide) rfl (by decide) fun b50 w49 s51 hBw49 hw49 => ?_
  replace S : St A N w w49 [oS T_int 1 IC s51 ([0, 1]), oT a7 r41.1, oS T_Sq 17 Sq.C s44 r41.2.1, oS T_int 1 IC s34 ([2, 4]), oS T_api_Rule 1 IC s30 r27.1, oS T_int 1 IC s31 r27.2.1, oS T_Sq 17 Sq.C s26 r23.2.1, oS T_int 1 IC s19 ([0, 3]), oS T_int 1 IC s10 ([0, 3]), oS T_Nd 4 Nd.C s3 ([{ Nd.z with kind := 1, name := (⟨#[112]⟩ : ByteArray) }, { Nd.z with kind := 1, name := (⟨#[113]⟩ : ByteArray) }, { Nd.z with kind := 2 }, { Nd.z with kind := 5, l := 0, r := 1 }, { Nd.z with kind := 3, l := 0, r := 1 }, { Nd.z with kind := 4, l := 0, r := 1 }])] [oTz] := S.lit hBw49 hw49 (by simp)
  obtain ⟨r52, er52, H⟩ := bind_ex H
  refine wl_gcall (j := 26) (pol := true) rfl rfl rfl (by decide) (fun hg => does_callg ca_law09_set (cons2 rfl rfl)) (by decide) (fun hg => (have ⟨M, SS⟩ := S.lend ((.s 0 rfl .nil)); quiet (law09_set_st SS (if_t (by simpa using hg) er52)) (fun v w' h => ⟨h.1, _, _, h.2⟩))) fun w53 hw53 => ?_
  replace S := S.ext hw53
  refine wl_guard (j := 26) (pol := true) rfl rfl rfl (by decide) (fun hg => does_buildv (vs := [(0, .agg (Bits.C r52).toArray), (1, .int .i64 1)]) bu_Sq (consP (gv_yes hg) (consP rfl rfl)) (Bld.step rfl rfl (Bits.len _) (by rw [Sq.len]; decide) (Sq.put_left _ _) (Bld.one rfl rfl (by rw [Sq.len]; decide) (Sq.set_goal _ _) Bld.nil))) (by decide) ?_
  obtain ⟨hg54, H⟩ := chk_ex H
  refine wl_gon (j := 26) (pol := true) rfl rfl rfl (by decide) (by simpa using hg54) ?_
  refine wl_lits (C := Sq.C) (l := [(⟨r52, 1⟩ : Sq)]) (vs := [.agg (Sq.C (⟨r52, 1⟩ : Sq)).toArray]) sl_L_api_Seq el_Sq.zero (consP (gv_yes (by simpa using hg54)) rfl) rfl (fun a _ => Sq.len a) (by decide) rfl (by decide) fun b56 w55 s57 hBw55 hw55 => ?_
  replace S : St A N w w55 [oS T_Sq 17 Sq.C s57 ([(⟨r52, 1⟩ : Sq)]), oS T_int 1 IC s51 ([0, 1]), oT a7 r41.1, oS T_Sq 17 Sq.C s44 r41.2.1, oS T_int 1 IC s34 ([2, 4]), oS T_api_Rule 1 IC s30 r27.1, oS T_int 1 IC s31 r27.2.1, oS T_Sq 17 Sq.C s26 r23.2.1, oS T_int 1 IC s19 ([0, 3]), oS T_int 1 IC s10 ([0, 3]), oS T_Nd 4 Nd.C s3 ([{ Nd.z with kind := 1, name := (⟨#[112]⟩ : ByteArray) }, { Nd.z with kind := 1, name := (⟨#[113]⟩ : ByteArray) }, { Nd.z with kind := 2 }, { Nd.z with kind := 5, l := 0, r := 1 }, { Nd.z with kind := 3, l := 0, r := 1 }, { Nd.z with kind := 4, l := 0, r := 1 }])] [oTz] := S.lit hBw55 hw55 (by simp)
  obtain ⟨r58, er58, H⟩ := bind_ex H
  refine wl_gcall (j := 26) (pol := true) rfl rfl rfl (by decide) (fun hg => does_callg ca_ref09_Seqs (cons2 (gv_yes hg) (cons2 rfl rfl))) (by decide) (fun hg => (have ⟨M, SS⟩ := S.lend ((.s 7 rfl (.s 0 rfl .nil))); quiet (ref09_Seqs_st SS (if_t (by simpa using hg) er58)) (fun v w' h => ⟨h.1, _, _, h.2⟩))) fun w59 hw59 => ?_
  replace S := S.ext hw59
  refine wd (does_and rfl (fun hp => (gv_yes (and_1 hp)))) ?_
  refine wd (does_mv_b rfl) ?_
  refine wl_guard (j := 34) (pol := true) rfl rfl rfl (by decide) (fun hg => does_mv_l rfl) (by decide) ?_
  refine wl_guard (j := 34) (pol := true) rfl rfl rfl (by decide) (fun hg => does_lenR sl_L_api_Rule (gv_yes hg) (S.rdO 5)) (by decide) ?_
  refine wl_guard (j := 34) (pol := true) rfl rfl rfl (by decide) (fun hg => does_eq (gv_yes hg) rfl) (by decide) ?_
  refine wd (does_and rfl (fun hp => (gv_yes (and_1 hp)))) ?_
  refine wd (does_mv_b rfl) ?_
  refine wl_guard (j := 39) (pol := true) rfl rfl rfl (by decide) (fun hg => does_mv_l rfl) (by decide) ?_
  refine wl_guard (j := 39) (pol := true) rfl rfl rfl (by decide) (fun hg => does_lenR sl_L_int (gv_yes hg) (S.rdO 6)) (by decide) ?_
  refine wl_guard (j := 39) (pol := true) rfl rfl rfl (by decide) (fun hg => does_eq (gv_yes hg) rfl) (by decide) ?_
  refine wd (does_and rfl (fun hp => (gv_yes (and_1 hp)))) ?_
  refine wd (does_mv_b rfl) ?_
  refine wl_guard (j := 44) (pol := true) rfl rfl rfl (by decide) (fun hg => does_mv_l rfl) (by decide) ?_
  obtain ⟨hi60, H⟩ := chk_g H
  refine wl_guard (j := 44) (pol := true) rfl rfl rfl (by decide) (fun hg => does_indexR sl_L_api_Rule (gv_yes hg) rfl (S.rdO 5) (inb_ex (hi60 (by simpa using hg))).1 (inb_ex (hi60 (by simpa using hg))).2) (by decide) ?_
  refine wl_guard (j := 44) (pol := true) rfl rfl rfl (by decide) (fun hg => does_load on_api_Rule (gv_yes hg) ((S.rdO 5).one (at_some (0 : Int) (inb_ex (hi60 (by simpa using hg)))) rfl)) (by decide) ?_
  refine wl_guard (j := 44) (pol := true) rfl rfl rfl (by decide) (fun hg => does_eq (gv_yes hg) rfl) (by decide) ?_
  refine wd (does_and rfl (fun hp => (gv_yes (and_1 hp)))) ?_
  refine wd (does_mv_b rfl) ?_
  refine wl_guard (j := 50) (pol := true) rfl rfl rfl (by decide) (fun hg => does_mv_l rfl) (by decide) ?_
  obtain ⟨hi61, H⟩ := chk_g H
  refine wl_guard (j := 50) (pol := true) rfl rfl rfl (by decide) (fun hg => does_indexR sl_L_int (gv_yes hg) rfl (S.rdO 6) (inb_ex (hi61 (by simpa using hg))).1 (inb_ex (hi61 (by simpa using hg))).2) (by decide) ?_
  refine wl_guard (j := 50) (pol := true) rfl rfl rfl (by decide) (fun hg => does_load on_int (gv_yes hg) ((S.rdO 6).one (at_some (0 : Int) (inb_ex (hi61 (by simpa using hg)))) rfl)) (by decide) ?_
  refine wl_guard (j := 50) (pol := true) rfl rfl rfl (by decide) (fun hg => does_eq (gv_yes hg) rfl) (by decide) ?_
  refine wd (does_and rfl (fun hp => (gv_yes (and_1 hp)))) ?_
  refine wd (does_mv_b rfl) ?_
  refine wl_guard (j := 56) (pol := true) rfl rfl rfl (by decide) (fun hg => does_mv_b rfl) (by decide) ?_
  refine wd (does_and rfl (fun hp => (gv_yes (and_1 hp)))) ?_
  refine wd (does_mv_b rfl) ?_
  refine wl_guard (j := 59) (pol := true) rfl rfl rfl (by decide) (fun hg => does_mv_i rfl) (by decide) ?_
  refine wl_guard (j := 59) (pol := true) rfl rfl rfl (by decide) (fun hg => does_eq (gv_yes hg) rfl) (by decide) ?_
  refine wd (does_and rfl (fun hp => (gv_yes (and_1 hp)))) ?_
  refine wd (does_mv_b rfl) ?_
  refine wl_guard (j := 63) (pol := true) rfl rfl rfl (by decide) (fun hg => does_mv_i rfl) (by decide) ?_
  refine wl_guard (j := 63) (pol := true) rfl rfl rfl (by decide) (fun hg => does_eq (gv_yes hg) rfl) (by decide) ?_
  refine wd (does_and rfl (fun hp => (gv_yes (and_1 hp)))) ?_
  refine wd (does_as_b rfl) ?_
  refine wl_nil ?_
  refine wc_ret ?_
  refine ⟨_, (rets1 (retOne_tmp rfl)), ?_⟩
  replace S : St A N w w59 [] [] := S.arr [] []
  obtain rfl := Option.some.inj H
  exact ⟨rfl, S⟩
end Go.Proofs.YtjjkhjieegmphaaDoor
end
section
namespace Go.Proofs.YtjjkhjieegmphaaDoor
open Gw Go.RowKit
set_option linter.unusedVariables false
set_option linter.unusedSimpArgs false

theorem ref03_T_Has_st {A : Nat → Prop} {N : Oth} {w : World} {a0 : Tb} {a_0 : Option Addr} {a1 : Int} (S : St A N w w [] [oR a_0 a0]) {r : Bool} (H : ref03_T_Has.f a0 a1 = some r) :
    Calls PP F_ref03_T_Has #[.pointer a_0, .int .i64 a1] w fun e w' => ∃ v, e = .returned v ∧ (v = .bool r ∧ St A N w w' [] []) := by
  unfold ref03_T_Has.f at H
  refine calls_of_wc (n := 16) fn_ref03_T_Has rfl rfl (by simp) ?_
  refine wc_seq (wc_region ?_)
  refine wd (does_as_b rfl) ?_
  refine wl_nil ?_
  refine wc_seq (wc_region ?_)
  refine wd (does_mv_i rfl) ?_
  refine wd (does_ge rfl rfl) ?_
  refine wd (does_mv_b rfl) ?_
  refine wl_guard (j := 2) (pol := true) rfl rfl rfl (by decide) (fun hg => does_mv_i rfl) (by decide) ?_
  refine wl_guard (j := 2) (pol := true) rfl rfl rfl (by decide) (fun hg => does_mv_p rfl) (by decide) ?_
  obtain ⟨ht1, H⟩ := chk_ex H
  obtain ⟨p2, s3, hp4, S⟩ := S.seeR 0 ht1
  replace S : St A N w w [] [oB p2 T_RTab (RTab.C ⟨s3⟩), fS 4 Nd.C s3 (a0.getD []), oR a_0 a0] := S
  refine wl_guard (j := 2) (pol := true) rfl rfl rfl (by decide) (fun hg => does_nilCheck (((gv_yes hg) : _ = Value.pointer a_0).trans (congrArg Value.pointer hp4))) (by decide) ?_
  refine wl_guard (j := 2) (pol := true) rfl rfl rfl (by decide) (fun hg => does_fieldAddr fl_RTab_n (gv_yes hg) (o' := 0) rfl) (by decide) ?_
  refine wl_guard (j := 2) (pol := true) rfl rfl rfl (by decide) (fun hg => does_load on_L_api_Node (gv_yes hg) ((S.blkZ 0).cell (RTab.get_n _))) (by decide) ?_
  refine wl_guard (j := 2) (pol := true) rfl rfl rfl (by decide) (fun hg => does_lenR sl_L_api_Node (gv_yes hg) (S.rd 1)) (by decide) ?_
  refine wl_guard (j := 2) (pol := true) rfl rfl rfl (by decide) (fun hg => does_lt (gv_yes hg) (gv_yes hg)) (by decide) ?_
  refine wd (does_and rfl (fun hp => (gv_yes (and_1 hp)))) ?_
  refine wd (does_as_b rfl) ?_
  replace S : St A N w w [] [oR a_0 a0] := S.zs [2]
  refine wl_nil ?_
  refine wc_ret ?_
  refine ⟨_, (rets1 (retOne_tmp rfl)), ?_⟩
  replace S : St A N w w [] [] := S.arr [] []
  obtain rfl := Option.some.inj H
  exact ⟨rfl, S⟩
theorem ref03_T_Find_st {A : Nat → Prop} {N : Oth} {w : World} {a0 : Tb} {a_0 : Option Addr} {a1 : Nd} (S : St A N w w [] [oR a_0 a0]) {r : Int × Bool} (H : ref03_T_Find.f a0 a1 = some r) :
    Calls PP F_ref03_T_Find #[.pointer a_0, .agg (Nd.C a1).toArray] w fun e w' => ∃ v, e = .returned v ∧ (v = .tuple #[.int .i64 r.1, .bool r.2] ∧ St A N w w' [] []) := by
  unfold ref03_T_Find.f at H
  refine calls_of_wc (n := 26) fn_ref03_T_Find rfl rfl (by simp) ?_
  refine wc_seq (wc_region ?_)
  refine wl_box_agg rfl (by decide) fun b2 w1 hw1 => ?_
  replace S : St A N w w1 [oB b2 T_Nd (Nd.C a1)] [oR a_0 a0] := S.new hw1
  refine wd (does_as_i rfl) ?_
  refine wd (does_as_b rfl) ?_
  refine wl_nil ?_
  refine wc_seq (wc_seq (wc_region ?_))
  refine wd (does_as_i rfl) ?_
  refine wl_nil ?_
  obtain ⟨ht3, H⟩ := chk_ex H
  obtain ⟨o4, e4, Ho4⟩ := bind_ex H
  clear H
  refine wc_cutq [4, 5, 6, 7, 8, 9, 10, 11, 12, 13, 14, 15, 16, 17, 18, 19, 20, 21, 22, 23, 24, 25] (fun fr W => ∃ s4 : Unit, o4 = .inl s4 ∧ St A N w W [oB b2 T_Nd (Nd.C a1)] [oR a_0 a0]) ?_ ?_
  · refine wc_block ?_
    refine wc_loopm (α := Nat × Int × Unit) [4, 5, 6, 7, 8, 9, 10, 11, 12, 13, 14, 15, 16, 17, 18, 19, 20, 21, 22, 23, 24, 25] (fun x fr W => (x.1 : Int) = ((a0.getD []).length : Int) - x.2.1 ∧ 0 ≤ x.2.1 ∧ forN (fun i s => ref03_T_Find.b0 a0 a1 i) x.1 x.2.1 x.2.2 = some o4 ∧ fr 6 = .int .i64 x.2.1 ∧ St A N w W [oB b2 T_Nd (Nd.C a1)] [oR a_0 a0]) (fun x => x.1) ((((a0.getD []).length : Int) - 0).toNat, 0, ()) ⟨(by dsimp only; have hle := Int.natCast_nonneg ((a0.getD []).length); omega), (Int.le_refl _), (by dsimp only; exact e4), rfl, S⟩ ?_
    rintro ⟨m4, i4, _⟩ g4 u4 ⟨hm4, hl4, e4, q4_i, S⟩
    try dsimp only at hm4
    try dsimp only at hl4
    try dsimp only at e4
    try dsimp only at S
    try dsimp only at q4_i
    refine wc_seq (wc_seq (wc_region ?_))
    refine wd (does_mv_i q4_i) ?_
    refine wd (does_mv_p rfl) ?_
    obtain ⟨p5, s6, hp7, S⟩ := S.seeR 0 ht3
    replace S : St A N w u4 [oB b2 T_Nd (Nd.C a1)] [oB p5 T_RTab (RTab.C ⟨s6⟩), fS 4 Nd.C s6 (a0.getD []), oR a_0 a0] := S
    refine wd (does_nilCheck (congrArg Value.pointer hp7)) ?_
    refine wd (does_fieldAddr fl_RTab_n rfl (o' := 0) rfl) ?_
    refine wd (does_load on_L_api_Node rfl ((S.blkZ 0).cell (RTab.get_n _))) ?_
    refine wd (does_lenR sl_L_api_Node rfl (S.rd 1)) ?_
    refine wd (does_lt rfl rfl) ?_
    replace S : St A N w u4 [oB b2 T_Nd (Nd.C a1)] [oR a_0 a0] := S.zs [2]
    refine wl_nil ?_
    refine wc_if rfl (fun hc8 => ?_) (fun hc8 => ?_)
    rotate_left
    · refine wc_exit ?_
      have hge : ((a0.getD []).length : Int) ≤ i4 := Int.not_lt.1 (of_decide_eq_false hc8)
      obtain rfl : m4 = 0 := by omega
      replace e4 := forN_0 e4
      exact ⟨rfl, ((((((((Dif.self _ _ _).upd rfl _).upd rfl _).upd rfl _).upd rfl _).upd rfl _).upd rfl _).upd rfl _), (), e4, S⟩
    refine wc_skip ?_
    have hlt4 : i4 < ((a0.getD []).length : Int) := of_decide_eq_true hc8
    obtain ⟨m4, rfl⟩ : ∃ m, m4 = m + 1 := ⟨m4 - 1, by omega⟩
    obtain ⟨q4, H, e4⟩ := forN_s e4
    unfold ref03_T_Find.b0 at H
    try dsimp only at H
    have hb4 := (S.lenRZ 0)
    refine wc_seq ?_
    refine wc_block ?_
    refine wc_seq ?_
    refine wc_quiet 8 (Ext u4) hmix (by kernel_rfl) (by kernel_rfl) (Ext.drawn _) ?_
    refine wq_does (fun v K => does_mv_p rfl) ?_
    obtain ⟨p9, s10, hp11, S⟩ := S.seeR 0 ht3
    replace S : St A N w u4 [oB b2 T_Nd (Nd.C a1)] [oB p9 T_RTab (RTab.C ⟨s10⟩), fS 4 Nd.C s10 (a0.getD []), oR a_0 a0] := S
    refine wq_does (fun v K => does_nilCheck (congrArg Value.pointer hp11)) ?_
    refine wq_does (fun v K => does_fieldAddr fl_RTab_n rfl (o' := 0) rfl) ?_
    refine wq_does (fun v K => does_load on_L_api_Node rfl (((S.ext K).blkZ 0).cell (RTab.get_n _))) ?_
    refine wq_does (fun v K => does_mv_i q4_i) ?_
    refine wq_does (fun v K => does_indexR sl_L_api_Node rfl rfl ((S.ext K).rd 1) (And.intro (show 0 ≤ i4 by omega) (show i4 < ((a0.getD []).length : Int) from hlt4)).1 (And.intro (show 0 ≤ i4 by omega) (show i4 < ((a0.getD []).length : Int) from hlt4)).2) ?_
    refine wq_does (fun v K => does_load_agg ag_Nd rfl (((S.ext K).rd 1).at (at_some Nd.z (And.intro (show 0 ≤ i4 by omega) (show i4 < ((a0.getD []).length : Int) from hlt4)))) (Nd.len _)) ?_
    refine wq_does (fun v K => does_load_agg ag_Nd rfl (((S.ext K).blk 0).all _ (Nd.len _)) (Nd.len _)) ?_
    refine wq_nil fun w13 K => ?_
    replace S := S.ext K
    clear K
    refine wd (does_eqv eg_Nd (eq_Nd _ _) (by decide) rfl rfl) ?_
    replace S : St A N w w13 [oB b2 T_Nd (Nd.C a1)] [oR a_0 a0] := S.zs [2]
    refine wl_nil ?_
    refine wc_if rfl (fun hc14 => ?_) (fun hc14 => ?_)
    · replace H := if_t hc14 H
      refine wc_seq (wc_region ?_)
      refine wd (does_mv_i q4_i) ?_
      refine wd (does_as_i rfl) ?_
      refine wd (does_as_b rfl) ?_
      refine wl_nil ?_
      refine wc_ret ?_
      refine ⟨_, (rets2 (retOne_tmp rfl) (retOne_tmp rfl)), ?_⟩
      replace S : St A N w w13 [] [] := S.arr [] []
      obtain rfl := Option.some.inj H
      obtain rfl := e4
      obtain rfl := aft_r Ho4
      exact ⟨rfl, S⟩
    replace H := if_f hc14 H
    refine wc_skip ?_
    refine wc_region ?_
    refine wd (does_mv_i q4_i) ?_
    refine wd (does_addc rfl rfl (c := i4 + 1) rfl (by omega) (by omega)) ?_
    refine wd (does_as_i rfl) ?_
    refine wl_nil ?_
    obtain rfl := Option.some.inj H
    exact ⟨rfl, ((((((((((((((((((((Dif.self _ _ _).upd rfl _).upd rfl _).upd rfl _).upd rfl _).upd rfl _).upd rfl _).upd rfl _).upd rfl _).upd rfl _).upd rfl _).upd rfl _).upd rfl _).upd rfl _).upd rfl _).upd rfl _).upd rfl _).upd rfl _).upd rfl _).upd rfl _), (m4, i4 + 1, ()), ⟨(by dsimp only; omega), (by dsimp only; omega), e4, rfl, S⟩, by dsimp only; omega⟩
  rintro g15 u16 ⟨s4, rfl, S⟩
  have H := Ho4
  dsimp only [aft] at H
  refine wc_seq (wc_region ?_)
  refine wd (does_as_i rfl) ?_
  refine wd (does_as_b rfl) ?_
  refine wl_nil ?_
  refine wc_ret ?_
  refine ⟨_, (rets2 (retOne_tmp rfl) (retOne_tmp rfl)), ?_⟩
  replace S : St A N w u16 [] [] := S.arr [] []
  obtain rfl := Option.some.inj H
  exact ⟨rfl, S⟩
theorem ref03_T_Put_st {A : Nat → Prop} {N : Oth} {w : World} {a0 : Tb} {a_0 : Option Addr} {a1 : Nd} (S : St A N w w [oR a_0 a0] []) {r : Tb × Int × Int} (H : ref03_T_Put.f a0 a1 = some r) :
    Calls PP F_ref03_T_Put #[.pointer a_0, .agg (Nd.C a1).toArray] w fun e w' => ∃ v, e = .returned v ∧ (v = .tuple #[.int .i64 r.2.1, .int .i64 r.2.2] ∧ St A N w w' [oR a_0 r.1] []) := by
  unfold ref03_T_Put.f at H
  refine calls_of_wc (n := 90) fn_ref03_T_Put rfl rfl (by simp) ?_
  refine wc_seq (wc_region ?_)
  refine wl_box_agg rfl (by decide) fun b2 w1 hw1 => ?_
  replace S : St A N w w1 [oB b2 T_Nd (Nd.C a1), oR a_0 a0] [] := S.new hw1
  refine wd (does_as_i rfl) ?_
  refine wd (does_as_i rfl) ?_
  refine wl_nil ?_
  refine wc_seq (wc_seq (wc_region ?_))
  refine wd (does_fieldAddr fl_Nd_kind rfl (o' := 0) rfl) ?_
  refine wd (does_load on_api_Kind rfl ((S.blk 0).cell (Nd.get_kind _))) ?_
  refine wl_nil ?_
  obtain ⟨o3, e3, Ho3⟩ := bind_ex H
  replace H := e3; clear e3
  refine wc_cutq [4, 5, 10, 11, 12, 13, 14, 15, 16, 17, 18, 19, 20, 21, 22, 23, 24, 25, 26, 27, 28, 29, 30, 31, 32, 33, 34, 35, 36, 37, 38, 39, 40, 41, 42, 43, 44, 45, 46, 47, 48, 49, 50, 51, 52, 53, 54, 55, 56, 57, 58, 59] (fun fr W => ∃ s3 : Tb, o3 = .inl s3 ∧ St A N w W [oB b2 T_Nd (Nd.C a1), oR a_0 s3] []) ?_ ?_
  · refine wc_block ?_
    refine wc_seq (wc_region ?_)
    refine wd (does_eq rfl rfl) ?_
    refine wd (does_as_b rfl) ?_
    refine wl_nil ?_
    refine wc_if rfl (fun hc4 => ?_) (fun hc4 => ?_)
    · replace H := if_t hc4 H
      refine wc_seq (wc_seq (wc_region ?_))
      refine wd (does_fieldAddr fl_Nd_l rfl (o' := 2) rfl) ?_
      refine wd (does_load on_int rfl ((S.blk 0).cell (Nd.get_l _))) ?_
      refine wd (does_ne rfl rfl) ?_
      refine wd (does_mv_b rfl) ?_
      refine wl_guard (j := 3) (pol := false) rfl rfl rfl (by decide) (fun hg => does_fieldAddr fl_Nd_r rfl (o' := 3) rfl) (by decide) ?_
      refine wl_guard (j := 3) (pol := false) rfl rfl rfl (by decide) (fun hg => does_load on_int (gv_yes hg) ((S.blk 0).cell (Nd.get_r _))) (by decide) ?_
      refine wl_guard (j := 3) (pol := false) rfl rfl rfl (by decide) (fun hg => does_ne (gv_yes hg) rfl) (by decide) ?_
      refine wd (does_or rfl (fun hp => (gv_yes (and_1 hp)))) ?_
      refine wl_nil ?_
      refine wc_if rfl (fun hc5 => ?_) (fun hc5 => ?_)
      · replace H := if_t hc5 H
        refine wc_seq (wc_region ?_)
        refine wd (does_as_i rfl) ?_
        refine wd (does_as_i rfl) ?_
        refine wl_nil ?_
        refine wc_ret ?_
        refine ⟨_, (rets2 (retOne_tmp rfl) (retOne_tmp rfl)), ?_⟩
        replace S : St A N w w1 [oR a_0 a0] [] := S.arr [1] []
        obtain rfl := Option.some.inj H
        obtain rfl := aft_r Ho3
        exact ⟨rfl, S⟩
      replace H := if_f hc5 H
      refine wc_skip ?_
      refine wc_seq (wc_region ?_)
      refine wd (does_fieldAddr fl_Nd_name rfl (o' := 1) rfl) ?_
      refine wd (does_load on_string rfl ((S.blk 0).cell (Nd.get_name _))) ?_
      obtain ⟨r6, er6, H⟩ := bind_ex H
      obtain ⟨B8, MB8, SB8, back⟩ := S.calln 0 ((.nil))
      refine wl_call (does_call ca_ref03_Word) (by decide) (ref03_Word_st SB8 er6) ?_
      rintro _ w7 ⟨rfl, S2⟩
      replace S : St A N w w7 [oB b2 T_Nd (Nd.C a1), oR a_0 a0] [] := back _ _ _ _ S2 rfl
      clear back S2 SB8
      refine wd (does_not rfl) ?_
      refine wl_nil ?_
      refine wc_if rfl (fun hc9 => ?_) (fun hc9 => ?_)
      · replace H := if_t hc9 H
        refine wc_seq (wc_region ?_)
        refine wd (does_as_i rfl) ?_
        refine wd (does_as_i rfl) ?_
        refine wl_nil ?_
        refine wc_ret ?_
        refine ⟨_, (rets2 (retOne_tmp rfl) (retOne_tmp rfl)), ?_⟩
        replace S : St A N w w7 [oR a_0 a0] [] := S.arr [1] []
        obtain rfl := Option.some.inj H
        obtain rfl := aft_r Ho3
        exact ⟨rfl, S⟩
      replace H := if_f hc9 H
      refine wc_skip ?_
      obtain rfl := Option.some.inj H
      exact ⟨rfl, (((((((((((((((Dif.refl _ _).upd rfl _).upd rfl _).upd rfl _).upd rfl _).upd rfl _).upd rfl _).upd rfl _).upd rfl _).upd rfl _).upd rfl _).upd rfl _).upd rfl _).upd rfl _).upd rfl _), a0, rfl, S⟩
    · replace H := if_f hc4 H
      refine wc_seq (wc_region ?_)
      refine wd (does_eq rfl rfl) ?_
      refine wd (does_as_b rfl) ?_
      refine wl_nil ?_
      refine wc_if rfl (fun hc10 => ?_) (fun hc10 => ?_)
      · replace H := if_t hc10 H
        refine wc_seq (wc_region ?_)
        refine wd (does_fieldAddr fl_Nd_name rfl (o' := 1) rfl) ?_
        refine wd (does_load on_string rfl ((S.blk 0).cell (Nd.get_name _))) ?_
        refine wd (does_nes rfl rfl) ?_
        refine wd (does_mv_b rfl) ?_
        refine wl_guard (j := 3) (pol := false) rfl rfl rfl (by decide) (fun hg => does_fieldAddr fl_Nd_l rfl (o' := 2) rfl) (by decide) ?_
        refine wl_guard (j := 3) (pol := false) rfl rfl rfl (by decide) (fun hg => does_load on_int (gv_yes hg) ((S.blk 0).cell (Nd.get_l _))) (by decide) ?_
        refine wl_guard (j := 3) (pol := false) rfl rfl rfl (by decide) (fun hg => does_ne (gv_yes hg) rfl) (by decide) ?_
        refine wd (does_or rfl (fun hp => (gv_yes (and_1 hp)))) ?_
        refine wd (does_mv_b rfl) ?_
        refine wl_guard (j := 8) (pol := false) rfl rfl rfl (by decide) (fun hg => does_fieldAddr fl_Nd_r rfl (o' := 3) rfl) (by decide) ?_
        refine wl_guard (j := 8) (pol := false) rfl rfl rfl (by decide) (fun hg => does_load on_int (gv_yes hg) ((S.blk 0).cell (Nd.get_r _))) (by decide) ?_
        refine wl_guard (j := 8) (pol := false) rfl rfl rfl (by decide) (fun hg => does_ne (gv_yes hg) rfl) (by decide) ?_
        refine wd (does_or rfl (fun hp => (gv_yes (and_1 hp)))) ?_
        refine wl_nil ?_
        refine wc_if rfl (fun hc11 => ?_) (fun hc11 => ?_)
        · replace H := if_t hc11 H
          refine wc_seq (wc_region ?_)
          refine wd (does_as_i rfl) ?_
          refine wd (does_as_i rfl) ?_
          refine wl_nil ?_
          refine wc_ret ?_
          refine ⟨_, (rets2 (retOne_tmp rfl) (retOne_tmp rfl)), ?_⟩
          replace S : St A N w w1 [oR a_0 a0] [] := S.arr [1] []
          obtain rfl := Option.some.inj H
          obtain rfl := aft_r Ho3
          exact ⟨rfl, S⟩
        replace H := if_f hc11 H
        refine wc_skip ?_
        obtain rfl := Option.some.inj H
        exact ⟨rfl, ((((((((((((((((((Dif.refl _ _).upd rfl _).upd rfl _).upd rfl _).upd rfl _).upd rfl _).upd rfl _).upd rfl _).upd rfl _).upd rfl _).upd rfl _).upd rfl _).upd rfl _).upd rfl _).upd rfl _).upd rfl _).upd rfl _).upd rfl _), a0, rfl, S⟩
      · replace H := if_f hc10 H
        refine wc_seq (wc_seq (wc_region ?_))
        refine wd (does_eq rfl rfl) ?_
        refine wd (does_as_b rfl) ?_
        refine wl_nil ?_
        obtain ⟨o12, e12, Ho12⟩ := bind_ex H
        replace H := e12; clear e12
        refine wc_cutq [39, 41, 42] (fun fr W => fr 39 = .bool o12 ∧ St A N w W [oB b2 T_Nd (Nd.C a1), oR a_0 a0] []) ?_ ?_
        · refine wc_if rfl (fun hc13 => ?_) (fun hc13 => ?_)
          · replace H := if_t hc13 H
            refine wc_skip ?_
            obtain rfl := Option.some.inj H
            exact ⟨rfl, (Dif.refl _ _), rfl, S⟩
          · replace H := if_f hc13 H
            refine wc_seq (wc_region ?_)
            refine wd (does_eq rfl rfl) ?_
            refine wd (does_as_b rfl) ?_
            refine wl_nil ?_
            refine wc_if rfl (fun hc14 => ?_) (fun hc14 => ?_)
            · replace H := if_t hc14 H
              refine wc_skip ?_
              obtain rfl := Option.some.inj H
              exact ⟨rfl, (((Dif.refl _ _).upd rfl _).upd rfl _), rfl, S⟩
            · replace H := if_f hc14 H
              refine wc_region ?_
              refine wd (does_eq rfl rfl) ?_
              refine wd (does_as_b rfl) ?_
              refine wl_nil ?_
              obtain rfl := Option.some.inj H
              exact ⟨rfl, (((((Dif.refl _ _).upd rfl _).upd rfl _).upd rfl _).upd rfl _), rfl, S⟩
        rintro g15 u16 ⟨p12_39, S⟩
        have H := Ho12
        refine wc_if p12_39 (fun hc17 => ?_) (fun hc17 => ?_)
        rotate_left
        · replace H := if_f hc17 H
          refine wc_seq (wc_region ?_)
          refine wd (does_as_i rfl) ?_
          refine wd (does_as_i rfl) ?_
          refine wl_nil ?_
          refine wc_ret ?_
          refine ⟨_, (rets2 (retOne_tmp rfl) (retOne_tmp rfl)), ?_⟩
          replace S : St A N w u16 [oR a_0 a0] [] := S.arr [1] []
          obtain rfl := Option.some.inj H
          obtain rfl := aft_r Ho3
          exact ⟨rfl, S⟩
        replace H := if_t hc17 H
        refine wc_seq (wc_region ?_)
        refine wd (does_fieldAddr fl_Nd_name rfl (o' := 1) rfl) ?_
        refine wd (does_load on_string rfl ((S.blk 0).cell (Nd.get_name _))) ?_
        refine wd (does_nes rfl rfl) ?_
        refine wd (does_mv_b rfl) ?_
        refine wl_guard (j := 3) (pol := false) rfl rfl rfl (by decide) (fun hg => does_mv_p rfl) (by decide) ?_
        refine wl_guard (j := 3) (pol := false) rfl rfl rfl (by decide) (fun hg => does_fieldAddr fl_Nd_l rfl (o' := 2) rfl) (by decide) ?_
        refine wl_guard (j := 3) (pol := false) rfl rfl rfl (by decide) (fun hg => does_load on_int (gv_yes hg) ((S.blk 0).cell (Nd.get_l _))) (by decide) ?_
        obtain ⟨r18, er18, H⟩ := bind_ex H
        refine wl_gcall (j := 3) (pol := false) rfl rfl rfl (by decide) (fun hg => does_callg ca_ref03_T_Has (cons2 (gv_yes hg) (cons2 (gv_yes hg) rfl))) (by decide) (fun hg => (have ⟨M, SS⟩ := S.lend ((.o 1 rfl .nil)); quiet (ref03_T_Has_st SS (if_t (by simpa using hg) er18)) (fun v w' h => ⟨h.1, _, _, h.2⟩))) fun w19 hw19 => ?_
        replace S := S.ext hw19
        refine wl_guard (j := 3) (pol := false) rfl rfl rfl (by decide) (fun hg => does_not (gv_yes hg)) (by decide) ?_
        refine wd (does_or rfl (fun hp => (gv_yes (and_1 hp)))) ?_
        refine wd (does_mv_b rfl) ?_
        refine wl_guard (j := 10) (pol := false) rfl rfl rfl (by decide) (fun hg => does_mv_p rfl) (by decide) ?_
        refine wl_guard (j := 10) (pol := false) rfl rfl rfl (by decide) (fun hg => does_fieldAddr fl_Nd_r rfl (o' := 3) rfl) (by decide) ?_
        refine wl_guard (j := 10) (pol := false) rfl rfl rfl (by decide) (fun hg => does_load on_int (gv_yes hg) ((S.blk 0).cell (Nd.get_r _))) (by decide) ?_
        obtain ⟨r20, er20, H⟩ := bind_ex H
        refine wl_gcall (j := 10) (pol := false) rfl rfl rfl (by decide) (fun hg => does_callg ca_ref03_T_Has (cons2 (gv_yes hg) (cons2 (gv_yes hg) rfl))) (by decide) (fun hg => (have ⟨M, SS⟩ := S.lend ((.o 1 rfl .nil)); quiet (ref03_T_Has_st SS (if_t (by simpa using hg) er20)) (fun v w' h => ⟨h.1, _, _, h.2⟩))) fun w21 hw21 => ?_
        replace S := S.ext hw21
        refine wl_guard (j := 10) (pol := false) rfl rfl rfl (by decide) (fun hg => does_not (gv_yes hg)) (by decide) ?_
        refine wd (does_or rfl (fun hp => (gv_yes (and_1 hp)))) ?_
        refine wl_nil ?_
        refine wc_if rfl (fun hc22 => ?_) (fun hc22 => ?_)
        · replace H := if_t hc22 H
          refine wc_seq (wc_region ?_)
          refine wd (does_as_i rfl) ?_
          refine wd (does_as_i rfl) ?_
          refine wl_nil ?_
          refine wc_ret ?_
          refine ⟨_, (rets2 (retOne_tmp rfl) (retOne_tmp rfl)), ?_⟩
          replace S : St A N w w21 [oR a_0 a0] [] := S.arr [1] []
          obtain rfl := Option.some.inj H
          obtain rfl := aft_r Ho3
          exact ⟨rfl, S⟩
        replace H := if_f hc22 H
        refine wc_skip ?_
        obtain rfl := Option.some.inj H
        exact ⟨rfl, (((((((((((((((((((((((((Dif.refl _ _).upd rfl _).upd rfl _).upd rfl _).upd rfl _).upd rfl _).upd rfl _).mask rfl _).upd rfl _).upd rfl _).upd rfl _).upd rfl _).upd rfl _).upd rfl _).upd rfl _).upd rfl _).upd rfl _).upd rfl _).upd rfl _).upd rfl _).upd rfl _).upd rfl _).upd rfl _).upd rfl _).upd rfl _), a0, rfl, S⟩
  rintro g23 u24 ⟨s3, rfl, S⟩
  have H := Ho3
  dsimp only [aft] at H
  refine wc_seq (wc_region ?_)
  refine wd (does_mv_p rfl) ?_
  refine wd (does_load_agg ag_Nd rfl ((S.blk 0).all _ (Nd.len _)) (Nd.len _)) ?_
  obtain ⟨r25, er25, H⟩ := bind_ex H
  obtain ⟨B27, MB27, SB27, back⟩ := S.calln 0 ((.o 1 rfl .nil))
  refine wl_call (does_call ca_ref03_T_Find) (by decide) (ref03_T_Find_st SB27 er25) ?_
  rintro _ w26 ⟨rfl, S2⟩
  replace S : St A N w w26 [oB b2 T_Nd (Nd.C a1), oR a_0 s3] [] := back _ _ _ _ S2 rfl
  clear back S2 SB27
  refine wd (does_mv_t rfl) ?_
  refine wd (does_extract rfl rfl) ?_
  refine wd (does_extract rfl rfl) ?_
  refine wd (does_as_i rfl) ?_
  refine wd (does_as_b rfl) ?_
  refine wl_nil ?_
  refine wc_seq (wc_seq (wc_region ?_))
  refine wd (does_mv_b rfl) ?_
  refine wl_nil ?_
  refine wc_if rfl (fun hc28 => ?_) (fun hc28 => ?_)
  · replace H := if_t hc28 H
    refine wc_seq (wc_region ?_)
    refine wd (does_mv_i rfl) ?_
    refine wd (does_as_i rfl) ?_
    refine wd (does_as_i rfl) ?_
    refine wl_nil ?_
    refine wc_ret ?_
    refine ⟨_, (rets2 (retOne_tmp rfl) (retOne_tmp rfl)), ?_⟩
    replace S : St A N w w26 [oR a_0 s3] [] := S.arr [1] []
    obtain rfl := Option.some.inj H
    exact ⟨rfl, S⟩
  replace H := if_f hc28 H
  refine wc_skip ?_
  refine wc_seq (wc_seq (wc_region ?_))
  refine wd (does_mv_p rfl) ?_
  obtain ⟨ht29, H⟩ := chk_ex H
  obtain ⟨p30, s31, hp32, S⟩ := S.openR 1 ht29
  replace S : St A N w w26 [oB p30 T_RTab (RTab.C ⟨s31⟩), oS T_Nd 4 Nd.C s31 (s3.getD []), oB b2 T_Nd (Nd.C a1)] [] := S
  refine wd (does_nilCheck (congrArg Value.pointer hp32)) ?_
  refine wd (does_fieldAddr fl_RTab_n rfl (o' := 0) rfl) ?_
  refine wd (does_load on_L_api_Node rfl ((S.blk 0).cell (RTab.get_n _))) ?_
  refine wd (does_lenR sl_L_api_Node rfl (S.rdO 1)) ?_
  refine wd (does_ge rfl rfl) ?_
  replace S : St A N w w26 [oS T_Nd 4 Nd.C s31 (s3.getD []), oB p30 T_RTab (RTab.C ⟨s31⟩), oB b2 T_Nd (Nd.C a1)] [] := S.front 1
  replace S : St A N w w26 [oB p30 T_RTab (RTab.C ⟨s31⟩), oS T_Nd 4 Nd.C s31 (s3.getD []), oB b2 T_Nd (Nd.C a1)] [] := S.front 1
  replace S : St A N w w26 [oR a_0 (some (s3.getD [])), oB b2 T_Nd (Nd.C a1)] [] := S.shutR hp32
  refine wl_nil ?_
  refine wc_if rfl (fun hc33 => ?_) (fun hc33 => ?_)
  · replace H := if_t hc33 H
    refine wc_seq (wc_region ?_)
    refine wd (does_as_i rfl) ?_
    refine wd (does_as_i rfl) ?_
    refine wl_nil ?_
    refine wc_ret ?_
    refine ⟨_, (rets2 (retOne_tmp rfl) (retOne_tmp rfl)), ?_⟩
    replace S : St A N w w26 [oR a_0 (some (s3.getD []))] [] := S.arr [0] []
    obtain rfl := Option.some.inj H
    exact ⟨rfl, S⟩
  replace H := if_f hc33 H
  refine wc_skip ?_
  refine wc_seq ?_
  obtain ⟨p34, s35, hp36, S⟩ := S.openR 0 rfl
  replace S : St A N w w26 [oB p34 T_RTab (RTab.C ⟨s35⟩), oS T_Nd 4 Nd.C s35 (s3.getD []), oB b2 T_Nd (Nd.C a1)] [] := S
  obtain ⟨ha37, H⟩ := chk_ex H
  have ha37 := of_decide_eq_true ha37
  have hSO := S.sl 1
  have hSlt := hSO.lt
  have SH : ∀ v, Chg s35.fp w26 v → St A (N.or s35.fp) w v [oB p34 T_RTab (RTab.C ⟨s35⟩), oB b2 T_Nd (Nd.C a1)] [] := fun v hc => S.away 1 (hc := hc)
  refine wc_draw 8 ⟨fun L v => Chg s35.fp w26 v ∧ (L 7 = false → Ext w26 v), fun L a b => Chg s35.fp a b ∧ (L 7 = true → Ext a b), fun i v u => match i with
    | 0 => v = Value.pointer a_0
    | 1 => v = Value.pointer a_0
    | 2 => v = Value.pointer (some ⟨p34, 0, none⟩)
    | 3 => v = Value.pointer (some ⟨p34, 0, none⟩)
    | 4 => v = s35.v
    | 5 => v = Value.agg (Nd.C a1).toArray
    | 6 => ∃ b sl, v = SlV.v sl ∧ sl = ⟨some ⟨b, 0, none⟩, 1, 1⟩ ∧ Blk u b T_Nd (Nd.C a1) ∧ ¬ s35.fp b
    | 7 => ∃ s', v = SlV.v s' ∧ Own u 0 T_Nd 4 s' (((s3.getD []) ++ [a1]).map Nd.C) ∧ ∀ i, s'.fp i → s35.fp i ∨ w26.heap.size ≤ i
    | _ => True⟩ hmix (by kernel_rfl) ?_ ⟨(Ext.drawn _).mono (fun _ _ x => x.elim), fun _ => Ext.drawn _⟩ ⟨?_, ?_, ?_, ?_, ?_, ?_, ?_, ?_, trivial⟩ ?_
  · intro L i v a b hLi hle hv
    match i, hLi, hv with
    | 0, _, hv => exact hv
    | 1, _, hv => exact hv
    | 2, _, hv => exact hv
    | 3, _, hv => exact hv
    | 4, _, hv => exact hv
    | 5, _, hv => exact hv
    | 6, _, ⟨b, sl, e1, e2, hb, hn⟩ => exact ⟨b, sl, e1, e2, hb.chg hle.1 hn, hn⟩
    | 7, hLi, ⟨s', e1, ho, hg⟩ => exact ⟨s', e1, ho.ext (hle.2 hLi), hg⟩
    | _ + 8, _, _ => exact trivial
  · rintro L g v hL hT 
    refine wl_does (does_mv_p rfl) (by decide) (wl_nil (ob ⟨hT.1, fun h => hT.2 h⟩ ⟨Chg.refl _ _, fun _ => Ext.refl _⟩ rfl))
  · rintro L g v hL hT 
    refine wl_does (does_mv_p rfl) (by decide) (wl_nil (ob ⟨hT.1, fun h => hT.2 h⟩ ⟨Chg.refl _ _, fun _ => Ext.refl _⟩ rfl))
  · rintro L g v hL hT hv1
    refine wl_does (does_nilCheck ((hv1 : _ = Value.pointer a_0).trans (congrArg Value.pointer hp36))) (by decide) (wl_nil (ob ⟨hT.1, fun h => hT.2 h⟩ ⟨Chg.refl _ _, fun _ => Ext.refl _⟩ rfl))
  · rintro L g v hL hT hv2
    refine wl_does (does_fieldAddr fl_RTab_n hv2 (o' := 0) rfl) (by decide) (wl_nil (ob ⟨hT.1, fun h => hT.2 h⟩ ⟨Chg.refl _ _, fun _ => Ext.refl _⟩ rfl))
  · rintro L g v hL hT hv3
    refine wl_does (does_load on_L_api_Node hv3 (((SH v hT.1).blk 0).cell (RTab.get_n _))) (by decide) (wl_nil (ob ⟨hT.1, fun h => hT.2 h⟩ ⟨Chg.refl _ _, fun _ => Ext.refl _⟩ rfl))
  · rintro L g v hL hT 
    refine wl_does (does_load_agg ag_Nd rfl (((SH v hT.1).blk 1).all _ (Nd.len _)) (Nd.len _)) (by decide) (wl_nil (ob ⟨hT.1, fun h => hT.2 h⟩ ⟨Chg.refl _ _, fun _ => Ext.refl _⟩ rfl))
  · rintro L g v hL hT hv5
    refine wl_lit1 sl_L_api_Node el_Nd.zero hv5 rfl (Nd.len _) (by decide) (by decide) fun b v' sl hn hq => wl_nil (ob ⟨hT.1.thenExt hn.ext, fun h => (hT.2 h).trans hn.ext⟩ ⟨hn.ext.mono (fun _ _ x => x.elim), fun _ => hn.ext⟩ ⟨b, sl, rfl, hq, hn.blk, fun e => by have := hSlt _ e; have := hn.at_; have := hT.1.size; omega⟩)
  · rintro L g v hL hT hv4 ⟨b, sl, hv6, hq, hb, hnb⟩
    refine wl_push (C := Nd.C) sl_L_api_Node el_Nd hv4 hv6 (hSO.ext (hT.2 hL)) hb hq (Nd.len _) (Nd.one _) ha37 (by omega) (by decide) fun s' v' ho hc hg => wl_nil (ob ⟨hT.1.trans hc, fun h => (by cases h)⟩ ⟨hc, fun h => (by rw [hL] at h; cases h)⟩ ⟨s', rfl, ho, fun i e => (hg i e).imp id (fun h => Nat.le_trans hT.1.size h)⟩)
  rintro L g w38 hLm hT hv40_0 hv40_1 hv40_2 hv40_3 hv40_4 hv40_5 ⟨b, sl, hv40_6, hq, hb, hnb⟩ ⟨s39, hv40_7, O, gO⟩
  replace S : St A N w w38 [oS T_Nd 4 Nd.C s39 ((s3.getD []) ++ [a1]), oB p34 T_RTab (RTab.C ⟨s35⟩), oB b2 T_Nd (Nd.C a1)] [] := S.push 1 O (by rw [List.length_append, List.length_singleton]; omega) hT.1 gO
  clear O gO SH hSO hSlt
  refine wd (does_nilCheck ((hv40_0 : _ = Value.pointer a_0).trans (congrArg Value.pointer hp36))) ?_
  refine wd (does_fieldAddr fl_RTab_n rfl (o' := 0) rfl) ?_
  refine wl_store on_L_api_Node rfl hv40_7 (S.blk 1) (by rw [RTab.len]; decide) (SlV.one _ _ rfl) (RTab.set_n _ _) fun w41 B hw41 zw41 => ?_
  replace S : St A N w w41 [oB p34 T_RTab (RTab.C ⟨s39⟩), oS T_Nd 4 Nd.C s39 ((s3.getD []) ++ [a1]), oB b2 T_Nd (Nd.C a1)] [] := S.store 1 B hw41
  clear B
  replace S : St A N w w41 [oS T_Nd 4 Nd.C s39 ((s3.getD []) ++ [a1]), oB p34 T_RTab (RTab.C ⟨s39⟩), oB b2 T_Nd (Nd.C a1)] [] := S.front 1
  replace S : St A N w w41 [oB p34 T_RTab (RTab.C ⟨s39⟩), oS T_Nd 4 Nd.C s39 ((s3.getD []) ++ [a1]), oB b2 T_Nd (Nd.C a1)] [] := S.front 1
  replace S : St A N w w41 [oR a_0 (some ((s3.getD []) ++ [a1])), oB b2 T_Nd (Nd.C a1)] [] := S.shutR hp36
  refine wl_nil ?_
  refine wc_seq (wc_region ?_)
  refine wd (does_mv_p rfl) ?_
  obtain ⟨p42, s43, hp44, S⟩ := S.openR 0 rfl
  replace S : St A N w w41 [oB p42 T_RTab (RTab.C ⟨s43⟩), oS T_Nd 4 Nd.C s43 ((s3.getD []) ++ [a1]), oB b2 T_Nd (Nd.C a1)] [] := S
  refine wd (does_nilCheck (congrArg Value.pointer hp44)) ?_
  refine wd (does_fieldAddr fl_RTab_n rfl (o' := 0) rfl) ?_
  refine wd (does_load on_L_api_Node rfl ((S.blk 0).cell (RTab.get_n _))) ?_
  refine wd (does_lenR sl_L_api_Node rfl (S.rdO 1)) ?_
  refine wd (does_sub rfl rfl) ?_
  refine wd (does_as_i rfl) ?_
  refine wd (does_as_i rfl) ?_
  replace S : St A N w w41 [oS T_Nd 4 Nd.C s43 ((s3.getD []) ++ [a1]), oB p42 T_RTab (RTab.C ⟨s43⟩), oB b2 T_Nd (Nd.C a1)] [] := S.front 1
  replace S : St A N w w41 [oB p42 T_RTab (RTab.C ⟨s43⟩), oS T_Nd 4 Nd.C s43 ((s3.getD []) ++ [a1]), oB b2 T_Nd (Nd.C a1)] [] := S.front 1
  replace S : St A N w w41 [oR a_0 (some ((s3.getD []) ++ [a1])), oB b2 T_Nd (Nd.C a1)] [] := S.shutR hp44
  refine wl_nil ?_
  refine wc_ret ?_
  refine ⟨_, (rets2 (retOne_tmp rfl) (retOne_tmp rfl)), ?_⟩
  replace S : St A N w w41 [oR a_0 (some ((s3.getD []) ++ [a1]))] [] := S.arr [0] []
  obtain rfl := Option.some.inj H
  exact ⟨rfl, S⟩
theorem ref09_Right_st {A : Nat → Prop} {N : Oth} {w : World} {a0 : Tb} {a_0 : Option Addr} {a1 : Sq} (S : St A N w w [] [oR a_0 a0]) {r : Bool} (H : ref09_Right.f a0 a1 = some r) :
    Calls PP F_ref09_Right #[.pointer a_0, .agg (Sq.C a1).toArray] w fun e w' => ∃ v, e = .returned v ∧ (v = .bool r ∧ St A N w w' [] []) := by
  unfold ref09_Right.f at H
  refine calls_of_wc (n := 27) fn_ref09_Right rfl rfl (by simp) ?_
  refine wc_seq (wc_region ?_)
  refine wl_box_agg rfl (by decide) fun b2 w1 hw1 => ?_
  replace S : St A N w w1 [oB b2 T_Sq (Sq.C a1)] [oR a_0 a0] := S.new hw1
  refine wd (does_as_b rfl) ?_
  refine wl_nil ?_
  refine wc_seq (wc_region ?_)
  refine wd (does_fieldAddr fl_Sq_left rfl (o' := 0) rfl) ?_
  refine wd (does_load_agg ag_Bits rfl ((S.blk 0).cells (Sq.sub_left _)) (Bits.len _)) ?_
  obtain ⟨r3, er3, H⟩ := bind_ex H
  obtain ⟨B5, MB5, SB5, back⟩ := S.calln 0 ((.nil))
  refine wl_call (does_call ca_ref05_List) (by decide) (ref05_List_st SB5 er3) ?_
  rintro _ w4 ⟨s6, rfl, S2⟩
  replace S : St A N w w4 [oS T_int 1 IC s6 r3, oB b2 T_Sq (Sq.C a1)] [oR a_0 a0] := back _ _ _ _ S2 rfl
  clear back S2 SB5
  refine wd (does_as_l rfl) ?_
  refine wl_nil ?_
  refine wc_seq (wc_seq (wc_region ?_))
  refine wd (does_as_i rfl) ?_
  refine wl_nil ?_
  obtain ⟨o7, e7, Ho7⟩ := bind_ex H
  clear H
  refine wc_cutq [4, 6, 10, 11, 12, 13, 14, 15, 16, 17, 18, 19, 20, 21, 22] (fun fr W => ∃ s7 : Unit, o7 = .inl s7 ∧ St A N w W [oS T_int 1 IC s6 r3, oB b2 T_Sq (Sq.C a1)] [oR a_0 a0]) ?_ ?_
  · refine wc_block ?_
    refine wc_loopm (α := Nat × Int × Unit) [4, 6, 10, 11, 12, 13, 14, 15, 16, 17, 18, 19, 20, 21, 22] (fun x fr W => (x.1 : Int) = (r3.length : Int) - x.2.1 ∧ 0 ≤ x.2.1 ∧ forN (fun i s => ref09_Right.b0 a0 r3 i) x.1 x.2.1 x.2.2 = some o7 ∧ fr 6 = .int .i64 x.2.1 ∧ St A N w W [oS T_int 1 IC s6 r3, oB b2 T_Sq (Sq.C a1)] [oR a_0 a0]) (fun x => x.1) (((r3.length : Int) - 0).toNat, 0, ()) ⟨(by dsimp only; have hle := Int.natCast_nonneg (r3.length); omega), (Int.le_refl _), (by dsimp only; exact e7), rfl, S⟩ ?_
    rintro ⟨m7, i7, _⟩ g7 u7 ⟨hm7, hl7, e7, q7_i, S⟩
    try dsimp only at hm7
    try dsimp only at hl7
    try dsimp only at e7
    try dsimp only at S
    try dsimp only at q7_i
    refine wc_seq (wc_seq (wc_region ?_))
    refine wd (does_mv_i q7_i) ?_
    refine wd (does_mv_l rfl) ?_
    refine wd (does_lenR sl_L_int rfl (S.rdO 0)) ?_
    refine wd (does_lt rfl rfl) ?_
    refine wl_nil ?_
    refine wc_if rfl (fun hc8 => ?_) (fun hc8 => ?_)
    rotate_left
    · refine wc_exit ?_
      have hge : (r3.length : Int) ≤ i7 := Int.not_lt.1 (of_decide_eq_false hc8)
      obtain rfl : m7 = 0 := by omega
      replace e7 := forN_0 e7
      exact ⟨rfl, (((((Dif.self _ _ _).upd rfl _).upd rfl _).upd rfl _).upd rfl _), (), e7, S⟩
    refine wc_skip ?_
    have hlt7 : i7 < (r3.length : Int) := of_decide_eq_true hc8
    obtain ⟨m7, rfl⟩ : ∃ m, m7 = m + 1 := ⟨m7 - 1, by omega⟩
    obtain ⟨q7, H, e7⟩ := forN_s e7
    unfold ref09_Right.b0 at H
    try dsimp only at H
    have hb7 := (S.lenO 0)
    refine wc_seq ?_
    refine wc_block ?_
    refine wc_seq (wc_region ?_)
    refine wd (does_mv_p rfl) ?_
    refine wd (does_mv_l rfl) ?_
    refine wd (does_mv_i q7_i) ?_
    refine wd (does_indexR sl_L_int rfl rfl (S.rdO 0) (And.intro (show 0 ≤ i7 by omega) (show i7 < (r3.length : Int) from hlt7)).1 (And.intro (show 0 ≤ i7 by omega) (show i7 < (r3.length : Int) from hlt7)).2) ?_
    refine wd (does_load on_int rfl ((S.rdO 0).one (at_some (0 : Int) (And.intro (show 0 ≤ i7 by omega) (show i7 < (r3.length : Int) from hlt7))) rfl)) ?_
    obtain ⟨r10, er10, H⟩ := bind_ex H
    obtain ⟨B12, MB12, SB12, back⟩ := S.calln 0 ((.z 0 rfl .nil))
    refine wl_call (does_call ca_ref03_T_Has) (by decide) (ref03_T_Has_st SB12 er10) ?_
    rintro _ w11 ⟨rfl, S2⟩
    replace S : St A N w w11 [oS T_int 1 IC s6 r3, oB b2 T_Sq (Sq.C a1)] [oR a_0 a0] := back _ _ _ _ S2 rfl
    clear back S2 SB12
    refine wd (does_not rfl) ?_
    refine wl_nil ?_
    refine wc_if rfl (fun hc13 => ?_) (fun hc13 => ?_)
    · replace H := if_t hc13 H
      refine wc_seq (wc_region ?_)
      refine wd (does_as_b rfl) ?_
      refine wl_nil ?_
      refine wc_ret ?_
      refine ⟨_, (rets1 (retOne_tmp rfl)), ?_⟩
      replace S : St A N w w11 [] [] := S.arr [] []
      obtain rfl := Option.some.inj H
      obtain rfl := e7
      obtain rfl := aft_r Ho7
      exact ⟨rfl, S⟩
    replace H := if_f hc13 H
    refine wc_skip ?_
    refine wc_region ?_
    refine wd (does_mv_i q7_i) ?_
    refine wd (does_addc rfl rfl (c := i7 + 1) rfl (by omega) (by omega)) ?_
    refine wd (does_as_i rfl) ?_
    refine wl_nil ?_
    obtain rfl := Option.some.inj H
    exact ⟨rfl, (((((((((((((((Dif.self _ _ _).upd rfl _).upd rfl _).upd rfl _).upd rfl _).upd rfl _).upd rfl _).upd rfl _).upd rfl _).upd rfl _).upd rfl _).upd rfl _).upd rfl _).upd rfl _).upd rfl _), (m7, i7 + 1, ()), ⟨(by dsimp only; omega), (by dsimp only; omega), e7, rfl, S⟩, by dsimp only; omega⟩
  rintro g14 u15 ⟨s7, rfl, S⟩
  have H := Ho7
  dsimp only [aft] at H
  refine wc_seq (wc_region ?_)
  refine wd (does_mv_p rfl) ?_
  refine wd (does_fieldAddr fl_Sq_goal rfl (o' := 16) rfl) ?_
  refine wd (does_load on_int rfl ((S.blk 1).cell (Sq.get_goal _))) ?_
  obtain ⟨r16, er16, H⟩ := bind_ex H
  obtain ⟨B18, MB18, SB18, back⟩ := S.calln 0 ((.z 0 rfl .nil))
  refine wl_call (does_call ca_ref03_T_Has) (by decide) (ref03_T_Has_st SB18 er16) ?_
  rintro _ w17 ⟨rfl, S2⟩
  replace S : St A N w w17 [oS T_int 1 IC s6 r3, oB b2 T_Sq (Sq.C a1)] [oR a_0 a0] := back _ _ _ _ S2 rfl
  clear back S2 SB18
  refine wd (does_as_b rfl) ?_
  refine wl_nil ?_
  refine wc_ret ?_
  refine ⟨_, (rets1 (retOne_tmp rfl)), ?_⟩
  replace S : St A N w w17 [] [] := S.arr [] []
  obtain rfl := Option.some.inj H
  exact ⟨rfl, S⟩
theorem ref03_From_st {A : Nat → Prop} {N : Oth} {w : World} {a0 : List Nd} {s_0 : SlV} (S : St A N w w [] [fS 4 Nd.C s_0 a0]) {r : Tb × Int} (H : ref03_From.f a0 = some r) :
    Calls PP F_ref03_From #[s_0.v] w fun e w' => ∃ v, e = .returned v ∧ (∃ ao0 : Option Addr, v = .tuple #[.pointer ao0, .int .i64 r.2] ∧ St A N w w' [oR ao0 r.1] []) := by
  unfold ref03_From.f at H
  refine calls_of_wc (n := 32) fn_ref03_From rfl rfl (by simp) ?_
  refine wc_seq (wc_region ?_)
  replace S : St A N w w [oR none none] [fS 4 Nd.C s_0 a0] := S.add (Ext.refl _) (oR.nil _) (fun _ x => x.elim)
  refine wd (does_as_p rfl) ?_
  refine wd (does_as_i rfl) ?_
  refine wl_nil ?_
  refine wc_seq (wc_region ?_)
  refine wd (does_build bu_RTab Bld.nil) ?_
  refine wl_box_agg rfl (by decide) fun b2 w1 hw1 => ?_
  replace S : St A N w w1 [oR (some ⟨b2, 0, none⟩) (some []), oR none none] [fS 4 Nd.C s_0 a0] := ((S.nil T_Nd 4 Nd.C).new hw1).shutR rfl
  refine wd (does_as_p rfl) ?_
  refine wl_nil ?_
  refine wc_seq (wc_seq (wc_region ?_))
  refine wd (does_as_i rfl) ?_
  refine wl_nil ?_
  obtain ⟨o3, e3, Ho3⟩ := bind_ex H
  clear H
  refine wc_cutq [2, 3, 5, 6, 7, 10, 11, 12, 13, 14, 15, 16, 17, 18, 19, 20, 21, 22, 23, 24, 25, 26, 27, 28, 29, 30] (fun fr W => ∃ s3 : Tb, o3 = .inl s3 ∧ St A N w W [oR (some ⟨b2, 0, none⟩) s3, oR none none] [fS 4 Nd.C s_0 a0]) ?_ ?_
  · refine wc_block ?_
    refine wc_loopm (α := Nat × Int × Tb) [2, 3, 5, 6, 7, 10, 11, 12, 13, 14, 15, 16, 17, 18, 19, 20, 21, 22, 23, 24, 25, 26, 27, 28, 29, 30] (fun x fr W => (x.1 : Int) = (a0.length : Int) - x.2.1 ∧ 0 ≤ x.2.1 ∧ forN (fun i s => ref03_From.b0 a0 i s) x.1 x.2.1 x.2.2 = some o3 ∧ fr 5 = .int .i64 x.2.1 ∧ St A N w W [oR (some ⟨b2, 0, none⟩) (x.2.2), oR none none] [fS 4 Nd.C s_0 a0]) (fun x => x.1) (((a0.length : Int) - 0).toNat, 0, (some [])) ⟨(by dsimp only; have hle := Int.natCast_nonneg (a0.length); omega), (Int.le_refl _), (by dsimp only; exact e3), rfl, S⟩ ?_
    rintro ⟨m3, i3, x3_0⟩ g3 u3 ⟨hm3, hl3, e3, q3_i, S⟩
    try dsimp only at hm3
    try dsimp only at hl3
    try dsimp only at e3
    try dsimp only at S
    try dsimp only at q3_i
    refine wc_seq (wc_seq (wc_region ?_))
    refine wd (does_mv_i q3_i) ?_
    refine wd (does_mv_l rfl) ?_
    refine wd (does_lenR sl_L_api_Node rfl (S.rd 0)) ?_
    refine wd (does_lt rfl rfl) ?_
    refine wl_nil ?_
    refine wc_if rfl (fun hc4 => ?_) (fun hc4 => ?_)
    rotate_left
    · refine wc_exit ?_
      have hge : (a0.length : Int) ≤ i3 := Int.not_lt.1 (of_decide_eq_false hc4)
      obtain rfl : m3 = 0 := by omega
      replace e3 := forN_0 e3
      exact ⟨rfl, (((((Dif.self _ _ _).upd rfl _).upd rfl _).upd rfl _).upd rfl _), x3_0, e3, S⟩
    refine wc_skip ?_
    have hlt3 : i3 < (a0.length : Int) := of_decide_eq_true hc4
    obtain ⟨m3, rfl⟩ : ∃ m, m3 = m + 1 := ⟨m3 - 1, by omega⟩
    obtain ⟨q3, H, e3⟩ := forN_s e3
    unfold ref03_From.b0 at H
    try dsimp only at H
    have hb3 := (S.len 0)
    refine wc_seq ?_
    refine wc_block ?_
    refine wc_seq (wc_region ?_)
    refine wd (does_mv_p rfl) ?_
    refine wd (does_mv_l rfl) ?_
    refine wd (does_mv_i q3_i) ?_
    refine wd (does_indexR sl_L_api_Node rfl rfl (S.rd 0) (And.intro (show 0 ≤ i3 by omega) (show i3 < (a0.length : Int) from hlt3)).1 (And.intro (show 0 ≤ i3 by omega) (show i3 < (a0.length : Int) from hlt3)).2) ?_
    refine wd (does_load_agg ag_Nd rfl ((S.rd 0).at (at_some Nd.z (And.intro (show 0 ≤ i3 by omega) (show i3 < (a0.length : Int) from hlt3)))) (Nd.len _)) ?_
    obtain ⟨r6, er6, H⟩ := bind_ex H
    obtain ⟨B8, MB8, SB8, back⟩ := S.calln 1 ((.nil))
    refine wl_call (does_call ca_ref03_T_Put) (by decide) (ref03_T_Put_st SB8 er6) ?_
    rintro _ w7 ⟨rfl, S2⟩
    replace S : St A N w w7 [oR (some ⟨b2, 0, none⟩) r6.1, oR none none] [fS 4 Nd.C s_0 a0] := back _ _ _ _ S2 rfl
    clear back S2 SB8
    refine wd (does_mv_t rfl) ?_
    refine wd (does_extract rfl rfl) ?_
    refine wd (does_extract rfl rfl) ?_
    refine wd (does_as_i rfl) ?_
    refine wd (does_as_i rfl) ?_
    refine wl_nil ?_
    refine wc_seq (wc_seq (wc_region ?_))
    refine wd (does_mv_i rfl) ?_
    refine wd (does_ne rfl rfl) ?_
    refine wl_nil ?_
    refine wc_if rfl (fun hc9 => ?_) (fun hc9 => ?_)
    · replace H := if_t hc9 H
      refine wc_seq (wc_region ?_)
      refine wd (does_mv_i rfl) ?_
      replace S : St A N w w7 [oR none none, oR (some ⟨b2, 0, none⟩) r6.1, oR none none] [fS 4 Nd.C s_0 a0] := S.add (Ext.refl _) (oR.nil _) (fun _ x => x.elim)
      refine wd (does_as_p rfl) ?_
      refine wd (does_as_i rfl) ?_
      refine wl_nil ?_
      refine wc_ret ?_
      refine ⟨_, (rets2 (retOne_tmp rfl) (retOne_tmp rfl)), ?_⟩
      replace S : St A N w w7 [oR none none] [] := S.arr [0] []
      obtain rfl := Option.some.inj H
      obtain rfl := e3
      obtain rfl := aft_r Ho3
      exact ⟨none, rfl, S⟩
    replace H := if_f hc9 H
    refine wc_skip ?_
    refine wc_seq (wc_region ?_)
    refine wd (does_mv_i rfl) ?_
    refine wd (does_mv_i q3_i) ?_
    refine wd (does_ne rfl rfl) ?_
    refine wl_nil ?_
    refine wc_if rfl (fun hc10 => ?_) (fun hc10 => ?_)
    · replace H := if_t hc10 H
      refine wc_seq (wc_region ?_)
      replace S : St A N w w7 [oR none none, oR (some ⟨b2, 0, none⟩) r6.1, oR none none] [fS 4 Nd.C s_0 a0] := S.add (Ext.refl _) (oR.nil _) (fun _ x => x.elim)
      refine wd (does_as_p rfl) ?_
      refine wd (does_as_i rfl) ?_
      refine wl_nil ?_
      refine wc_ret ?_
      refine ⟨_, (rets2 (retOne_tmp rfl) (retOne_tmp rfl)), ?_⟩
      replace S : St A N w w7 [oR none none] [] := S.arr [0] []
      obtain rfl := Option.some.inj H
      obtain rfl := e3
      obtain rfl := aft_r Ho3
      exact ⟨none, rfl, S⟩
    replace H := if_f hc10 H
    refine wc_skip ?_
    refine wc_region ?_
    refine wd (does_mv_i q3_i) ?_
    refine wd (does_addc rfl rfl (c := i3 + 1) rfl (by omega) (by omega)) ?_
    refine wd (does_as_i rfl) ?_
    refine wl_nil ?_
    obtain rfl := Option.some.inj H
    exact ⟨rfl, ((((((((((((((((((((((((Dif.self _ _ _).upd rfl _).upd rfl _).upd rfl _).upd rfl _).upd rfl _).upd rfl _).upd rfl _).upd rfl _).upd rfl _).upd rfl _).upd rfl _).upd rfl _).upd rfl _).upd rfl _).upd rfl _).upd rfl _).upd rfl _).upd rfl _).upd rfl _).upd rfl _).upd rfl _).upd rfl _).upd rfl _), (m3, i3 + 1, r6.1), ⟨(by dsimp only; omega), (by dsimp only; omega), e3, rfl, S⟩, by dsimp only; omega⟩
  rintro g11 u12 ⟨s3, rfl, S⟩
  have H := Ho3
  dsimp only [aft] at H
  refine wc_seq (wc_region ?_)
  refine wd (does_mv_p rfl) ?_
  refine wd (does_as_p rfl) ?_
  refine wd (does_as_i rfl) ?_
  refine wl_nil ?_
  refine wc_ret ?_
  refine ⟨_, (rets2 (retOne_tmp rfl) (retOne_tmp rfl)), ?_⟩
  replace S : St A N w u12 [oR (some ⟨b2, 0, none⟩) s3] [] := S.arr [0] []
  obtain rfl := Option.some.inj H
  exact ⟨(some ⟨b2, 0, none⟩), rfl, S⟩
theorem law03_Both_st {A : Nat → Prop} {N : Oth} {w : World} {a0 : List Nd} {s_0 : SlV} (S : St A N w w [] [fS 4 Nd.C s_0 a0]) {r : Tb × Tb × Bool} (H : law03_Both.f a0 = some r) :
    Calls PP F_law03_Both #[s_0.v] w fun e w' => ∃ v, e = .returned v ∧ (∃ ao0 : Option Addr, ∃ ao1 : Option Addr, v = .tuple #[.pointer ao0, .pointer ao1, .bool r.2.2] ∧ St A N w w' [oT ao0 r.1, oR ao1 r.2.1] []) := by
  unfold law03_Both.f at H
  refine calls_of_wc (n := 27) fn_law03_Both rfl rfl (by simp) ?_
  refine wc_seq (wc_region ?_)
  replace S : St A N w w [oT none none] [fS 4 Nd.C s_0 a0] := S.add (Ext.refl _) (oT.nil _) (fun _ x => x.elim)
  refine wd (does_as_p rfl) ?_
  replace S : St A N w w [oR none none, oT none none] [fS 4 Nd.C s_0 a0] := S.add (Ext.refl _) (oR.nil _) (fun _ x => x.elim)
  refine wd (does_as_p rfl) ?_
  refine wd (does_as_b rfl) ?_
  refine wl_nil ?_
  refine wc_seq (wc_region ?_)
  refine wl_lits (C := Nd.C) (l := ([] : List Nd)) (vs := []) sl_L_api_Node el_Nd.zero rfl rfl (fun a _ => Nd.len a) (by decide) rfl (by decide) fun b2 w1 s3 hBw1 hw1 => ?_
  replace S : St A N w w1 [oS T_Nd 4 Nd.C s3 ([] : List Nd), oR none none, oT none none] [fS 4 Nd.C s_0 a0] := S.lit hBw1 hw1 (by simp)
  refine wd (does_mv_l rfl) ?_
  obtain ⟨ha6, H⟩ := chk_ex H
  have ha6 := of_decide_eq_true ha6
  refine wl_appendm (C := Nd.C) sl_L_api_Node el_Nd rfl rfl (S.sl 0) (S.rd 0) Nd.one ha6 (by omega) (by decide) fun s5 w4 O hw4 gw4 => ?_
  replace S : St A N w w4 [oS T_Nd 4 Nd.C s5 (([] : List Nd) ++ a0), oR none none, oT none none] [fS 4 Nd.C s_0 a0] := S.push 0 O (by first | (simp; done) | (simp; omega)) hw4 gw4
  clear O
  refine wd (does_as_l rfl) ?_
  refine wl_nil ?_
  refine wc_seq (wc_region ?_)
  refine wd (does_mv_l rfl) ?_
  obtain ⟨r7, er7, H⟩ := bind_ex H
  obtain ⟨B9, MB9, SB9, back⟩ := S.calln 0 ((.z 0 rfl .nil))
  refine wl_call (does_call ca_ref03_From) (by decide) (ref03_From_st SB9 er7) ?_
  rintro _ w8 ⟨a10, rfl, S2⟩
  replace S : St A N w w8 [oR a10 r7.1, oS T_Nd 4 Nd.C s5 (([] : List Nd) ++ a0), oR none none, oT none none] [fS 4 Nd.C s_0 a0] := back _ _ _ _ S2 rfl
  clear back S2 SB9
  refine wd (does_mv_t rfl) ?_
  refine wd (does_extract rfl rfl) ?_
  refine wd (does_extract rfl rfl) ?_
  refine wd (does_as_p rfl) ?_
  refine wd (does_as_i rfl) ?_
  refine wl_nil ?_
  refine wc_seq (wc_seq (wc_region ?_))
  refine wd (does_mv_i rfl) ?_
  refine wd (does_ne rfl rfl) ?_
  refine wl_nil ?_
  refine wc_if rfl (fun hc11 => ?_) (fun hc11 => ?_)
  · replace H := if_t hc11 H
    refine wc_seq (wc_region ?_)
    replace S : St A N w w8 [oT none none, oR a10 r7.1, oS T_Nd 4 Nd.C s5 (([] : List Nd) ++ a0), oR none none, oT none none] [fS 4 Nd.C s_0 a0] := S.add (Ext.refl _) (oT.nil _) (fun _ x => x.elim)
    refine wd (does_as_p rfl) ?_
    replace S : St A N w w8 [oR none none, oT none none, oR a10 r7.1, oS T_Nd 4 Nd.C s5 (([] : List Nd) ++ a0), oR none none, oT none none] [fS 4 Nd.C s_0 a0] := S.add (Ext.refl _) (oR.nil _) (fun _ x => x.elim)
    refine wd (does_as_p rfl) ?_
    refine wd (does_as_b rfl) ?_
    refine wl_nil ?_
    refine wc_ret ?_
    refine ⟨_, (rets3 (retOne_tmp rfl) (retOne_tmp rfl) (retOne_tmp rfl)), ?_⟩
    replace S : St A N w w8 [oT none none, oR none none] [] := S.arr [1, 0] []
    obtain rfl := Option.some.inj H
    exact ⟨none, none, rfl, S⟩
  replace H := if_f hc11 H
  refine wc_skip ?_
  refine wc_seq (wc_region ?_)
  refine wd (does_mv_l rfl) ?_
  obtain ⟨r12, er12, H⟩ := bind_ex H
  obtain ⟨B14, MB14, SB14, back⟩ := S.calln 0 ((.s 1 rfl .nil))
  refine wl_call (does_call ca_formula_From) (by decide) (formula_From_st SB14 er12) ?_
  rintro _ w13 ⟨a15, rfl, S2⟩
  replace S : St A N w w13 [oT a15 r12.1, oR a10 r7.1, oS T_Nd 4 Nd.C s5 (([] : List Nd) ++ a0), oR none none, oT none none] [fS 4 Nd.C s_0 a0] := back _ _ _ _ S2 rfl
  clear back S2 SB14
  refine wd (does_mv_t rfl) ?_
  refine wd (does_extract rfl rfl) ?_
  refine wd (does_extract rfl rfl) ?_
  refine wd (does_as_p rfl) ?_
  refine wd (does_as_i rfl) ?_
  refine wl_nil ?_
  refine wc_seq (wc_region ?_)
  refine wd (does_mv_p rfl) ?_
  refine wd (does_mv_p rfl) ?_
  refine wd (does_as_p rfl) ?_
  refine wd (does_as_p rfl) ?_
  refine wd (does_as_b rfl) ?_
  refine wl_nil ?_
  refine wc_ret ?_
  refine ⟨_, (rets3 (retOne_tmp rfl) (retOne_tmp rfl) (retOne_tmp rfl)), ?_⟩
  replace S : St A N w w13 [oT a15 r12.1, oR a10 r7.1] [] := S.arr [0, 1] []
  obtain rfl := Option.some.inj H
  exact ⟨a15, a10, rfl, S⟩
end Go.Proofs.YtjjkhjieegmphaaDoor
end
section
namespace Go.Proofs.YtjjkhjieegmphaaDoor
open Gw Go.RowKit
set_option linter.unusedVariables false
set_option linter.unusedSimpArgs false

theorem ref09_Less_st {A : Nat → Prop} {N : Oth} {w : World} {a0 : List Int} {s_0 : SlV} {a1 : List Int} {s_1 : SlV} (S : St A N w w [] [fS 1 (ic .u64) s_0 a0, fS 1 (ic .u64) s_1 a1]) {k : Nat} {r : Bool} (H : ref09_Less.f k a0 a1 = some r) :
    Calls PP F_ref09_Less #[s_0.v, s_1.v] w fun e w' => ∃ v, e = .returned v ∧ (v = .bool r ∧ St A N w w' [] []) := by
  unfold ref09_Less.f at H
  refine calls_of_wc (n := 41) fn_ref09_Less rfl rfl (by simp) ?_
  refine wc_seq (wc_region ?_)
  refine wd (does_as_b rfl) ?_
  refine wl_nil ?_
  refine wc_seq (wc_seq (wc_region ?_))
  refine wd (does_as_i rfl) ?_
  refine wl_nil ?_
  obtain ⟨o1, e1, Ho1⟩ := bind_ex H
  clear H
  refine wc_cutq [4, 5, 6, 7, 8, 9, 10, 11, 12, 13, 14, 15, 16, 17, 18, 19, 20, 21, 22, 23, 24, 25, 26, 27, 28, 29, 30, 31, 32, 33, 34, 35] (fun fr W => ∃ s1 : Int, o1 = .inl s1 ∧ fr 5 = .int .i64 s1 ∧ St A N w W [] [fS 1 (ic .u64) s_0 a0, fS 1 (ic .u64) s_1 a1]) ?_ ?_
  · refine wc_block ?_
    refine wc_loopm (α := Nat × Int) [4, 5, 6, 7, 8, 9, 10, 11, 12, 13, 14, 15, 16, 17, 18, 19, 20, 21, 22, 23, 24, 25, 26, 27, 28, 29, 30, 31, 32, 33, 34, 35] (fun x fr W => iter (fun s => ref09_Less.b0 a0 a1 s) x.1 x.2 = some o1 ∧ fr 5 = .int .i64 (x.2) ∧ St A N w W [] [fS 1 (ic .u64) s_0 a0, fS 1 (ic .u64) s_1 a1]) (fun x => x.1) (k, 0) ⟨(by dsimp only; exact e1), rfl, S⟩ ?_
    rintro ⟨m1, x1_0⟩ g1 u1 ⟨e1, q1_5, S⟩
    try dsimp only at e1
    try dsimp only at S
    try dsimp only at q1_5
    obtain ⟨m1, rfl⟩ : ∃ m, m1 = m + 1 := ⟨m1 - 1, by cases m1 with | zero => cases e1 | succ m => rfl⟩
    obtain ⟨q1, H, e1⟩ := iter_s e1
    unfold ref09_Less.b0 at H
    try dsimp only at H
    refine wc_seq (wc_seq (wc_region ?_))
    refine wd (does_mv_i q1_5) ?_
    refine wd (does_mv_l rfl) ?_
    refine wd (does_lenR sl_L_uint64 rfl (S.rd 0)) ?_
    refine wd (does_lt rfl rfl) ?_
    refine wd (does_mv_b rfl) ?_
    refine wl_guard (j := 4) (pol := true) rfl rfl rfl (by decide) (fun hg => does_mv_i q1_5) (by decide) ?_
    refine wl_guard (j := 4) (pol := true) rfl rfl rfl (by decide) (fun hg => does_mv_l rfl) (by decide) ?_
    refine wl_guard (j := 4) (pol := true) rfl rfl rfl (by decide) (fun hg => does_lenR sl_L_uint64 (gv_yes hg) (S.rd 1)) (by decide) ?_
    refine wl_guard (j := 4) (pol := true) rfl rfl rfl (by decide) (fun hg => does_lt (gv_yes hg) (gv_yes hg)) (by decide) ?_
    refine wd (does_and rfl (fun hp => (gv_yes (and_1 hp)))) ?_
    refine wl_nil ?_
    refine wc_if rfl (fun hc2 => ?_) (fun hc2 => ?_)
    rotate_left
    · replace H := if_f hc2 H
      refine wc_exit ?_
      obtain rfl := Option.some.inj H
      exact ⟨rfl, (((((((((((Dif.self _ _ _).upd rfl _).upd rfl _).upd rfl _).upd rfl _).upd rfl _).upd rfl _).upd rfl _).upd rfl _).upd rfl _).upd rfl _), x1_0, e1, q1_5, S⟩
    replace H := if_t hc2 H
    refine wc_skip ?_
    refine wc_seq ?_
    refine wc_block ?_
    refine wc_seq ?_
    refine wc_quiet 8 (Ext u1) hmix (by kernel_rfl) (by kernel_rfl) (Ext.drawn _) ?_
    refine wq_does (fun v K => does_mv_l rfl) ?_
    refine wq_does (fun v K => does_mv_i q1_5) ?_
    obtain ⟨hi3, H⟩ := chk_ex H
    refine wq_does (fun v K => does_indexR sl_L_uint64 rfl rfl ((S.ext K).rd 0) (inb_ex hi3).1 (inb_ex hi3).2) ?_
    refine wq_does (fun v K => does_load on_uint64 rfl (((S.ext K).rd 0).one (at_some (0 : Int) (inb_ex hi3)) rfl)) ?_
    refine wq_does (fun v K => does_mv_l rfl) ?_
    refine wq_does (fun v K => does_mv_i q1_5) ?_
    obtain ⟨hi4, H⟩ := chk_ex H
    refine wq_does (fun v K => does_indexR sl_L_uint64 rfl rfl ((S.ext K).rd 1) (inb_ex hi4).1 (inb_ex hi4).2) ?_
    refine wq_does (fun v K => does_load on_uint64 rfl (((S.ext K).rd 1).one (at_some (0 : Int) (inb_ex hi4)) rfl)) ?_
    refine wq_nil fun w5 K => ?_
    replace S := S.ext K
    clear K
    refine wd (does_ne rfl rfl) ?_
    refine wl_nil ?_
    refine wc_if rfl (fun hc6 => ?_) (fun hc6 => ?_)
    · replace H := if_t hc6 H
      refine wc_seq ?_
      refine wc_quiet 8 (Ext w5) hmix (by kernel_rfl) (by kernel_rfl) (Ext.drawn _) ?_
      refine wq_does (fun v K => does_mv_l rfl) ?_
      refine wq_does (fun v K => does_mv_i q1_5) ?_
      obtain ⟨hi7, H⟩ := chk_ex H
      refine wq_does (fun v K => does_indexR sl_L_uint64 rfl rfl ((S.ext K).rd 0) (inb_ex hi7).1 (inb_ex hi7).2) ?_
      refine wq_does (fun v K => does_load on_uint64 rfl (((S.ext K).rd 0).one (at_some (0 : Int) (inb_ex hi7)) rfl)) ?_
      refine wq_does (fun v K => does_mv_l rfl) ?_
      refine wq_does (fun v K => does_mv_i q1_5) ?_
      obtain ⟨hi8, H⟩ := chk_ex H
      refine wq_does (fun v K => does_indexR sl_L_uint64 rfl rfl ((S.ext K).rd 1) (inb_ex hi8).1 (inb_ex hi8).2) ?_
      refine wq_does (fun v K => does_load on_uint64 rfl (((S.ext K).rd 1).one (at_some (0 : Int) (inb_ex hi8)) rfl)) ?_
      refine wq_nil fun w9 K => ?_
      replace S := S.ext K
      clear K
      refine wd (does_lt rfl rfl) ?_
      refine wd (does_as_b rfl) ?_
      refine wl_nil ?_
      refine wc_ret ?_
      refine ⟨_, (rets1 (retOne_tmp rfl)), ?_⟩
      replace S : St A N w w9 [] [] := S.arr [] []
      obtain rfl := Option.some.inj H
      obtain rfl := e1
      obtain rfl := aft_r Ho1
      exact ⟨rfl, S⟩
    replace H := if_f hc6 H
    refine wc_skip ?_
    refine wc_region ?_
    refine wd (does_mv_i q1_5) ?_
    refine wd (does_add rfl rfl) ?_
    refine wd (does_as_i rfl) ?_
    refine wl_nil ?_
    obtain rfl := Option.some.inj H
    exact ⟨rfl, (((((((((((((((((((((((Dif.self _ _ _).upd rfl _).upd rfl _).upd rfl _).upd rfl _).upd rfl _).upd rfl _).upd rfl _).upd rfl _).upd rfl _).upd rfl _).upd rfl _).upd rfl _).upd rfl _).upd rfl _).upd rfl _).upd rfl _).upd rfl _).upd rfl _).upd rfl _).upd rfl _).upd rfl _).upd rfl _), (m1, IntKind.i64.wrap (x1_0 + 1)), ⟨e1, rfl, S⟩, by dsimp only; omega⟩
  rintro g10 u11 ⟨s1, rfl, p1_5, S⟩
  have H := Ho1
  dsimp only [aft] at H
  refine wc_seq (wc_region ?_)
  refine wd (does_mv_l rfl) ?_
  refine wd (does_lenR sl_L_uint64 rfl (S.rd 0)) ?_
  refine wd (does_mv_l rfl) ?_
  refine wd (does_lenR sl_L_uint64 rfl (S.rd 1)) ?_
  refine wd (does_lt rfl rfl) ?_
  refine wd (does_as_b rfl) ?_
  refine wl_nil ?_
  refine wc_ret ?_
  refine ⟨_, (rets1 (retOne_tmp rfl)), ?_⟩
  replace S : St A N w u11 [] [] := S.arr [] []
  obtain rfl := Option.some.inj H
  exact ⟨rfl, S⟩
theorem ref09_Weights_st {A : Nat → Prop} {N : Oth} {w : World} {a0 : Tb} {a_0 : Option Addr} {a1 : Sq} (S : St A N w w [] [oR a_0 a0]) {k : Nat} {r : List Int} (H : ref09_Weights.f k a0 a1 = some r) :
    Calls PP F_ref09_Weights #[.pointer a_0, .agg (Sq.C a1).toArray] w fun e w' => ∃ v, e = .returned v ∧ (∃ so0 : SlV, v = so0.v ∧ St A N w w' [oS T_uint64 1 (ic .u64) so0 r] []) := by
  unfold ref09_Weights.f at H
  refine calls_of_wc (n := 130) fn_ref09_Weights rfl rfl (by simp) ?_
  refine wc_seq (wc_region ?_)
  refine wl_box_agg rfl (by decide) fun b2 w1 hw1 => ?_
  replace S : St A N w w1 [oB b2 T_Sq (Sq.C a1)] [oR a_0 a0] := S.new hw1
  refine wd (does_as_nil) ?_
  refine wl_nil ?_
  refine wc_seq (wc_region ?_)
  refine wd (does_mv_p rfl) ?_
  obtain ⟨ht3, H⟩ := chk_ex H
  obtain ⟨p4, s5, hp6, S⟩ := S.seeR 0 ht3
  replace S : St A N w w1 [oB b2 T_Sq (Sq.C a1)] [oB p4 T_RTab (RTab.C ⟨s5⟩), fS 4 Nd.C s5 (a0.getD []), oR a_0 a0] := S
  refine wd (does_nilCheck (congrArg Value.pointer hp6)) ?_
  refine wd (does_fieldAddr fl_RTab_n rfl (o' := 0) rfl) ?_
  refine wd (does_load on_L_api_Node rfl ((S.blkZ 0).cell (RTab.get_n _))) ?_
  refine wd (does_lenR sl_L_api_Node rfl (S.rd 1)) ?_
  obtain ⟨hm10, H⟩ := chk_ex H
  have hm10 := of_decide_eq_true hm10
  refine wl_make1 (C := (ic .u64)) (z := (0 : Int)) sl_L_uint64 el_uint64 zv_uint64 rfl rfl rfl rfl hm10.1 (by omega) hm10.2 (by decide) fun b8 w7 s9 hBw7 hw7 => ?_
  replace S : St A N w w7 [oS T_uint64 1 (ic .u64) s9 (List.replicate (((a0.getD []).length : Int)).toNat (0 : Int)), oB b2 T_Sq (Sq.C a1)] [oB p4 T_RTab (RTab.C ⟨s5⟩), fS 4 Nd.C s5 (a0.getD []), oR a_0 a0] := S.lit hBw7 hw7 (by rw [List.length_replicate]; omega)
  refine wd (does_as_l rfl) ?_
  replace S : St A N w w7 [oS T_uint64 1 (ic .u64) s9 (List.replicate (((a0.getD []).length : Int)).toNat (0 : Int)), oB b2 T_Sq (Sq.C a1)] [oR a_0 a0] := S.zs [2]
  refine wl_nil ?_
  refine wc_seq (wc_seq (wc_region ?_))
  refine wd (does_as_i rfl) ?_
  refine wl_nil ?_
  obtain ⟨o11, e11, Ho11⟩ := bind_ex H
  clear H
  refine wc_cutq [6, 7, 8, 19, 20, 21, 22, 23, 24, 25, 26, 27, 28, 29, 30, 31, 32, 33, 34, 35, 36, 37, 38, 39, 40, 41, 42, 43, 44, 45, 46, 47, 48, 49, 50, 51, 52, 53, 54, 55, 56, 57, 58, 59, 60, 61, 62, 63, 64, 65] (fun fr W => St A N w W [oS T_uint64 1 (ic .u64) s9 o11, oB b2 T_Sq (Sq.C a1)] [oR a_0 a0]) ?_ ?_
  · refine wc_block ?_
    refine wc_loopm (α := Nat × Int × (List Int)) [6, 7, 8, 19, 20, 21, 22, 23, 24, 25, 26, 27, 28, 29, 30, 31, 32, 33, 34, 35, 36, 37, 38, 39, 40, 41, 42, 43, 44, 45, 46, 47, 48, 49, 50, 51, 52, 53, 54, 55, 56, 57, 58, 59, 60, 61, 62, 63, 64, 65] (fun x fr W => (x.1 : Int) = ((a0.getD []).length : Int) - x.2.1 ∧ 0 ≤ x.2.1 ∧ forS (fun i s => ref09_Weights.b0 a0 i s) x.1 x.2.1 x.2.2 = some o11 ∧ fr 6 = .int .i64 x.2.1 ∧ St A N w W [oS T_uint64 1 (ic .u64) s9 (x.2.2), oB b2 T_Sq (Sq.C a1)] [oR a_0 a0]) (fun x => x.1) ((((a0.getD []).length : Int) - 0).toNat, 0, List.replicate (((a0.getD []).length : Int)).toNat (0 : Int)) ⟨(by dsimp only; have hle := Int.natCast_nonneg ((a0.getD []).length); omega), (Int.le_refl _), (by dsimp only; exact e11), rfl, S⟩ ?_
    rintro ⟨m11, i11, x11_0⟩ g11 u11 ⟨hm11, hl11, e11, q11_i, S⟩
    try dsimp only at hm11
    try dsimp only at hl11
    try dsimp only at e11
    try dsimp only at S
    try dsimp only at q11_i
    refine wc_seq (wc_seq (wc_region ?_))
    refine wd (does_mv_i q11_i) ?_
    refine wd (does_mv_p rfl) ?_
    obtain ⟨p12, s13, hp14, S⟩ := S.seeR 0 ht3
    replace S : St A N w u11 [oS T_uint64 1 (ic .u64) s9 x11_0, oB b2 T_Sq (Sq.C a1)] [oB p12 T_RTab (RTab.C ⟨s13⟩), fS 4 Nd.C s13 (a0.getD []), oR a_0 a0] := S
    refine wd (does_nilCheck (congrArg Value.pointer hp14)) ?_
    refine wd (does_fieldAddr fl_RTab_n rfl (o' := 0) rfl) ?_
    refine wd (does_load on_L_api_Node rfl ((S.blkZ 0).cell (RTab.get_n _))) ?_
    refine wd (does_lenR sl_L_api_Node rfl (S.rd 1)) ?_
    refine wd (does_lt rfl rfl) ?_
    replace S : St A N w u11 [oS T_uint64 1 (ic .u64) s9 x11_0, oB b2 T_Sq (Sq.C a1)] [oR a_0 a0] := S.zs [2]
    refine wl_nil ?_
    refine wc_if rfl (fun hc15 => ?_) (fun hc15 => ?_)
    rotate_left
    · refine wc_exit ?_
      have hge : ((a0.getD []).length : Int) ≤ i11 := Int.not_lt.1 (of_decide_eq_false hc15)
      obtain rfl : m11 = 0 := by omega
      replace e11 := forS_0 e11
      obtain rfl := e11
      exact ⟨rfl, ((((((((Dif.self _ _ _).upd rfl _).upd rfl _).upd rfl _).upd rfl _).upd rfl _).upd rfl _).upd rfl _), S⟩
    refine wc_skip ?_
    have hlt11 : i11 < ((a0.getD []).length : Int) := of_decide_eq_true hc15
    obtain ⟨m11, rfl⟩ : ∃ m, m11 = m + 1 := ⟨m11 - 1, by omega⟩
    obtain ⟨q11, H, e11⟩ := forS_s e11
    unfold ref09_Weights.b0 at H
    try dsimp only at H
    have hb11 := (S.lenRZ 0)
    refine wc_seq ?_
    refine wc_block ?_
    refine wc_seq (wc_region ?_)
    refine wd (does_mv_p rfl) ?_
    obtain ⟨p16, s17, hp18, S⟩ := S.seeR 0 ht3
    replace S : St A N w u11 [oS T_uint64 1 (ic .u64) s9 x11_0, oB b2 T_Sq (Sq.C a1)] [oB p16 T_RTab (RTab.C ⟨s17⟩), fS 4 Nd.C s17 (a0.getD []), oR a_0 a0] := S
    refine wd (does_nilCheck (congrArg Value.pointer hp18)) ?_
    refine wd (does_fieldAddr fl_RTab_n rfl (o' := 0) rfl) ?_
    refine wd (does_load on_L_api_Node rfl ((S.blkZ 0).cell (RTab.get_n _))) ?_
    refine wd (does_mv_i q11_i) ?_
    refine wd (does_indexR sl_L_api_Node rfl rfl (S.rd 1) (And.intro (show 0 ≤ i11 by omega) (show i11 < ((a0.getD []).length : Int) from hlt11)).1 (And.intro (show 0 ≤ i11 by omega) (show i11 < ((a0.getD []).length : Int) from hlt11)).2) ?_
    refine wd (does_load_agg ag_Nd rfl ((S.rd 1).at (at_some Nd.z (And.intro (show 0 ≤ i11 by omega) (show i11 < ((a0.getD []).length : Int) from hlt11)))) (Nd.len _)) ?_
    refine wl_alloc ze_Nd (by decide) fun b21 w20 hw20 => ?_
    replace S : St A N w w20 [oB b21 T_Nd (Nd.C Nd.z), oS T_uint64 1 (ic .u64) s9 x11_0, oB b2 T_Sq (Sq.C a1)] [oB p16 T_RTab (RTab.C ⟨s17⟩), fS 4 Nd.C s17 (a0.getD []), oR a_0 a0] := S.new hw20
    refine wl_store_agg ag_Nd rfl rfl (S.blk 0) (Nd.len _) (by rw [Nd.len]; decide) (Nd.one _) (store_all (Nd.len _)) fun w22 B hw22 zw22 => ?_
    replace S : St A N w w22 [oB b21 T_Nd (Nd.C (at_ Nd.z (a0.getD []) i11)), oS T_uint64 1 (ic .u64) s9 x11_0, oB b2 T_Sq (Sq.C a1)] [oB p16 T_RTab (RTab.C ⟨s17⟩), fS 4 Nd.C s17 (a0.getD []), oR a_0 a0] := S.store 0 B hw22
    clear B
    replace S : St A N w w22 [oB b21 T_Nd (Nd.C (at_ Nd.z (a0.getD []) i11)), oS T_uint64 1 (ic .u64) s9 x11_0, oB b2 T_Sq (Sq.C a1)] [oR a_0 a0] := S.zs [2]
    refine wl_nil ?_
    refine wc_seq (wc_region ?_)
    refine wd (does_mv_l rfl) ?_
    refine wd (does_mv_i q11_i) ?_
    obtain ⟨hi23, H⟩ := chk_ex H
    refine wd (does_indexR sl_L_uint64 rfl rfl (S.rdO 1) (inb_ex hi23).1 (inb_ex hi23).2) ?_
    refine wl_store1 (C := (ic .u64)) (a := 1) on_uint64 rfl rfl (S.sl 1) (inb_ex hi23) rfl rfl fun w24 O hw24 => ?_
    have hlw24 := S.lenO 1
    replace S : St A N w w24 [oS T_uint64 1 (ic .u64) s9 (x11_0.set (i11).toNat 1), oB b21 T_Nd (Nd.C (at_ Nd.z (a0.getD []) i11)), oB b2 T_Sq (Sq.C a1)] [oR a_0 a0] := S.push 1 O (by rw [List.length_set]; exact hlw24) hw24 (fun i hi => .inl hi)
    clear O
    refine wl_nil ?_
    refine wc_seq (wc_region ?_)
    refine wd (does_fieldAddr fl_Nd_kind rfl (o' := 0) rfl) ?_
    refine wd (does_load on_api_Kind rfl ((S.blk 1).cell (Nd.get_kind _))) ?_
    refine wd (does_ne rfl rfl) ?_
    refine wd (does_mv_b rfl) ?_
    refine wl_guard (j := 3) (pol := true) rfl rfl rfl (by decide) (fun hg => does_fieldAddr fl_Nd_kind rfl (o' := 0) rfl) (by decide) ?_
    refine wl_guard (j := 3) (pol := true) rfl rfl rfl (by decide) (fun hg => does_load on_api_Kind (gv_yes hg) ((S.blk 1).cell (Nd.get_kind _))) (by decide) ?_
    refine wl_guard (j := 3) (pol := true) rfl rfl rfl (by decide) (fun hg => does_ne (gv_yes hg) rfl) (by decide) ?_
    refine wd (does_and rfl (fun hp => (gv_yes (and_1 hp)))) ?_
    refine wl_nil ?_
    refine wc_if rfl (fun hc25 => ?_) (fun hc25 => ?_)
    · replace H := if_t hc25 H
      refine wc_seq (wc_region ?_)
      refine wd (does_as_i rfl) ?_
      refine wl_nil ?_
      refine wc_seq (wc_seq (wc_region ?_))
      refine wd (does_fieldAddr fl_Nd_kind rfl (o' := 0) rfl) ?_
      refine wd (does_load on_api_Kind rfl ((S.blk 1).cell (Nd.get_kind _))) ?_
      refine wd (does_eq rfl rfl) ?_
      refine wl_nil ?_
      obtain ⟨o26, e26, Ho26⟩ := bind_ex H
      replace H := e26; clear e26
      refine wc_cutq [8] (fun fr W => fr 8 = .int .u64 o26.1 ∧ St A N w W [oS T_uint64 1 (ic .u64) s9 o26.2, oB b21 T_Nd (Nd.C (at_ Nd.z (a0.getD []) i11)), oB b2 T_Sq (Sq.C a1)] [oR a_0 a0]) ?_ ?_
      · refine wc_if rfl (fun hc27 => ?_) (fun hc27 => ?_)
        · replace H := if_t hc27 H
          refine wc_region ?_
          refine wd (does_as_i rfl) ?_
          refine wl_nil ?_
          obtain rfl := Option.some.inj H
          exact ⟨rfl, ((Dif.refl _ _).upd rfl _), rfl, S⟩
        · replace H := if_f hc27 H
          refine wc_skip ?_
          obtain rfl := Option.some.inj H
          exact ⟨rfl, (Dif.refl _ _), rfl, S⟩
      rintro g28 u29 ⟨p26_8, S⟩
      have H := Ho26
      refine wc_quiet 16 (Ext u29) hmix (by kernel_rfl) (by kernel_rfl) (Ext.drawn _) ?_
      refine wq_does (fun v K => does_mv_l rfl) ?_
      refine wq_does (fun v K => does_mv_i q11_i) ?_
      refine wq_does (fun v K => does_mv_l rfl) ?_
      refine wq_does (fun v K => does_fieldAddr fl_Nd_l rfl (o' := 2) rfl) ?_
      refine wq_does (fun v K => does_load on_int rfl (((S.ext K).blk 1).cell (Nd.get_l _))) ?_
      obtain ⟨hi30, H⟩ := chk_ex H
      refine wq_does (fun v K => does_indexR sl_L_uint64 rfl rfl ((S.ext K).rdO 0) (inb_ex hi30).1 (inb_ex hi30).2) ?_
      refine wq_does (fun v K => does_load on_uint64 rfl (((S.ext K).rdO 0).one (at_some (0 : Int) (inb_ex hi30)) rfl)) ?_
      refine wq_does (fun v K => does_mv_l rfl) ?_
      refine wq_does (fun v K => does_fieldAddr fl_Nd_r rfl (o' := 3) rfl) ?_
      refine wq_does (fun v K => does_load on_int rfl (((S.ext K).blk 1).cell (Nd.get_r _))) ?_
      obtain ⟨hi31, H⟩ := chk_ex H
      refine wq_does (fun v K => does_indexR sl_L_uint64 rfl rfl ((S.ext K).rdO 0) (inb_ex hi31).1 (inb_ex hi31).2) ?_
      refine wq_does (fun v K => does_load on_uint64 rfl (((S.ext K).rdO 0).one (at_some (0 : Int) (inb_ex hi31)) rfl)) ?_
      refine wq_does (fun v K => does_add rfl rfl) ?_
      refine wq_does (fun v K => does_mv_i p26_8) ?_
      refine wq_does (fun v K => does_add rfl rfl) ?_
      refine wq_does (fun v K => does_min rfl rfl) ?_
      refine wq_nil fun w32 K => ?_
      replace S := S.ext K
      clear K
      obtain ⟨hi33, H⟩ := chk_ex H
      refine wd (does_indexR sl_L_uint64 rfl rfl (S.rdO 0) (inb_ex hi33).1 (inb_ex hi33).2) ?_
      refine wl_store1 (C := (ic .u64)) (a := (if IntKind.u64.wrap ((IntKind.u64.wrap ((at_ (0 : Int) o26.2 ((at_ Nd.z (a0.getD []) i11).l)) + (at_ (0 : Int) o26.2 ((at_ Nd.z (a0.getD []) i11).r)))) + o26.1) < 4611686018427387904 then IntKind.u64.wrap ((IntKind.u64.wrap ((at_ (0 : Int) o26.2 ((at_ Nd.z (a0.getD []) i11).l)) + (at_ (0 : Int) o26.2 ((at_ Nd.z (a0.getD []) i11).r)))) + o26.1) else 4611686018427387904)) on_uint64 rfl rfl (S.sl 0) (inb_ex hi33) rfl rfl fun w34 O hw34 => ?_
      have hlw34 := S.lenO 0
      replace S : St A N w w34 [oS T_uint64 1 (ic .u64) s9 (o26.2.set (i11).toNat (if IntKind.u64.wrap ((IntKind.u64.wrap ((at_ (0 : Int) o26.2 ((at_ Nd.z (a0.getD []) i11).l)) + (at_ (0 : Int) o26.2 ((at_ Nd.z (a0.getD []) i11).r)))) + o26.1) < 4611686018427387904 then IntKind.u64.wrap ((IntKind.u64.wrap ((at_ (0 : Int) o26.2 ((at_ Nd.z (a0.getD []) i11).l)) + (at_ (0 : Int) o26.2 ((at_ Nd.z (a0.getD []) i11).r)))) + o26.1) else 4611686018427387904)), oB b21 T_Nd (Nd.C (at_ Nd.z (a0.getD []) i11)), oB b2 T_Sq (Sq.C a1)] [oR a_0 a0] := S.push 0 O (by rw [List.length_set]; exact hlw34) hw34 (fun i hi => .inl hi)
      clear O
      refine wl_nil ?_
      refine wc_region ?_
      refine wd (does_mv_i q11_i) ?_
      refine wd (does_addc rfl rfl (c := i11 + 1) rfl (by omega) (by omega)) ?_
      refine wd (does_as_i rfl) ?_
      refine wl_nil ?_
      replace S : St A N w w34 [oS T_uint64 1 (ic .u64) s9 (o26.2.set (i11).toNat (if IntKind.u64.wrap ((IntKind.u64.wrap ((at_ (0 : Int) o26.2 ((at_ Nd.z (a0.getD []) i11).l)) + (at_ (0 : Int) o26.2 ((at_ Nd.z (a0.getD []) i11).r)))) + o26.1) < 4611686018427387904 then IntKind.u64.wrap ((IntKind.u64.wrap ((at_ (0 : Int) o26.2 ((at_ Nd.z (a0.getD []) i11).l)) + (at_ (0 : Int) o26.2 ((at_ Nd.z (a0.getD []) i11).r)))) + o26.1) else 4611686018427387904)), oB b2 T_Sq (Sq.C a1)] [oR a_0 a0] := S.arr [0, 2] [0]
      obtain rfl := Option.some.inj H
      exact ⟨rfl, ((((((((((((((((((((((((((((((((((((((((((((((((((((Dif.self _ _ _).upd rfl _).upd rfl _).upd rfl _).upd rfl _).upd rfl _).upd rfl _).upd rfl _).upd rfl _).upd rfl _).upd rfl _).upd rfl _).upd rfl _).upd rfl _).upd rfl _).upd rfl _).upd rfl _).upd rfl _).upd rfl _).upd rfl _).upd rfl _).upd rfl _).upd rfl _).upd rfl _).upd rfl _).upd rfl _).upd rfl _).upd rfl _).upd rfl _).upd rfl _).upd rfl _).mask rfl _).upd rfl _).upd rfl _).upd rfl _).upd rfl _).upd rfl _).upd rfl _).upd rfl _).upd rfl _).upd rfl _).upd rfl _).upd rfl _).upd rfl _).upd rfl _).upd rfl _).upd rfl _).upd rfl _).upd rfl _).upd rfl _).upd rfl _).upd rfl _), (m11, i11 + 1, o26.2.set (i11).toNat (if IntKind.u64.wrap ((IntKind.u64.wrap ((at_ (0 : Int) o26.2 ((at_ Nd.z (a0.getD []) i11).l)) + (at_ (0 : Int) o26.2 ((at_ Nd.z (a0.getD []) i11).r)))) + o26.1) < 4611686018427387904 then IntKind.u64.wrap ((IntKind.u64.wrap ((at_ (0 : Int) o26.2 ((at_ Nd.z (a0.getD []) i11).l)) + (at_ (0 : Int) o26.2 ((at_ Nd.z (a0.getD []) i11).r)))) + o26.1) else 4611686018427387904)), ⟨(by dsimp only; omega), (by dsimp only; omega), e11, rfl, S⟩, by dsimp only; omega⟩
    · replace H := if_f hc25 H
      refine wc_skip ?_
      refine wc_region ?_
      refine wd (does_mv_i q11_i) ?_
      refine wd (does_addc rfl rfl (c := i11 + 1) rfl (by omega) (by omega)) ?_
      refine wd (does_as_i rfl) ?_
      refine wl_nil ?_
      replace S : St A N w w24 [oS T_uint64 1 (ic .u64) s9 (x11_0.set (i11).toNat 1), oB b2 T_Sq (Sq.C a1)] [oR a_0 a0] := S.arr [0, 2] [0]
      obtain rfl := Option.some.inj H
      exact ⟨rfl, ((((((((((((((((((((((((((((((Dif.self _ _ _).upd rfl _).upd rfl _).upd rfl _).upd rfl _).upd rfl _).upd rfl _).upd rfl _).upd rfl _).upd rfl _).upd rfl _).upd rfl _).upd rfl _).upd rfl _).upd rfl _).upd rfl _).upd rfl _).upd rfl _).upd rfl _).upd rfl _).upd rfl _).upd rfl _).upd rfl _).upd rfl _).upd rfl _).upd rfl _).upd rfl _).upd rfl _).upd rfl _).upd rfl _), (m11, i11 + 1, x11_0.set (i11).toNat 1), ⟨(by dsimp only; omega), (by dsimp only; omega), e11, rfl, S⟩, by dsimp only; omega⟩
  rintro g35 u36 S
  have H := Ho11
  refine wc_seq (wc_region ?_)
  refine wd (does_fieldAddr fl_Sq_left rfl (o' := 0) rfl) ?_
  refine wd (does_load_agg ag_Bits rfl ((S.blk 1).cells (Sq.sub_left _)) (Bits.len _)) ?_
  obtain ⟨r37, er37, H⟩ := bind_ex H
  obtain ⟨B39, MB39, SB39, back⟩ := S.calln 0 ((.nil))
  refine wl_call (does_call ca_ref05_List) (by decide) (ref05_List_st SB39 er37) ?_
  rintro _ w38 ⟨s40, rfl, S2⟩
  replace S : St A N w w38 [oS T_int 1 IC s40 r37, oS T_uint64 1 (ic .u64) s9 o11, oB b2 T_Sq (Sq.C a1)] [oR a_0 a0] := back _ _ _ _ S2 rfl
  clear back S2 SB39
  refine wd (does_as_l rfl) ?_
  refine wl_nil ?_
  refine wc_seq (wc_region ?_)
  refine wd (does_mv_l rfl) ?_
  refine wd (does_fieldAddr fl_Sq_goal rfl (o' := 16) rfl) ?_
  refine wd (does_load on_int rfl ((S.blk 2).cell (Sq.get_goal _))) ?_
  refine wl_lits (C := IC) (l := [a1.goal]) (vs := [.int .i64 a1.goal]) sl_L_int el_int.zero rfl rfl (fun _ _ => rfl) (by decide) rfl (by decide) fun b42 w41 s43 hBw41 hw41 => ?_
  replace S : St A N w w41 [oS T_int 1 IC s43 ([a1.goal]), oS T_int 1 IC s40 r37, oS T_uint64 1 (ic .u64) s9 o11, oB b2 T_Sq (Sq.C a1)] [oR a_0 a0] := S.lit hBw41 hw41 (by simp)
  obtain ⟨ha46, H⟩ := chk_ex H
  have ha46 := of_decide_eq_true ha46
  refine wl_appends (C := IC) sl_L_int el_int rfl rfl (S.sl 1) (S.rdO 0) (by simp) (fun a _ v hv => by rw [List.mem_singleton.1 hv]; rfl) ha46 (by omega) (by decide) fun s45 w44 O hw44 gw44 => ?_
  replace S : St A N w w44 [oS T_int 1 IC s45 (r37 ++ [a1.goal]), oS T_int 1 IC s43 ([a1.goal]), oS T_uint64 1 (ic .u64) s9 o11, oB b2 T_Sq (Sq.C a1)] [oR a_0 a0] := S.push 1 O (by first | (simp; done) | (simp; omega)) hw44 gw44
  clear O
  refine wd (does_as_l rfl) ?_
  refine wl_nil ?_
  refine wc_seq (wc_region ?_)
  refine wd (does_as_nil) ?_
  refine wl_nil ?_
  refine wc_seq (wc_seq (wc_region ?_))
  refine wd (does_as_i rfl) ?_
  refine wl_nil ?_
  replace S : St A N w w44 [oS T_uint64 1 (ic .u64) SlV.nil ([] : List Int), oS T_int 1 IC s45 (r37 ++ [a1.goal]), oS T_int 1 IC s43 ([a1.goal]), oS T_uint64 1 (ic .u64) s9 o11, oB b2 T_Sq (Sq.C a1)] [oR a_0 a0] := S.nil T_uint64 1 (ic .u64)
  obtain ⟨o47, e47, Ho47⟩ := bind_ex H
  clear H
  refine wc_cutq [10, 11, 12, 74, 75, 76, 77, 78, 79, 80, 81, 82, 83, 84, 85, 86, 87, 88, 89, 90, 91, 92, 93, 94, 95, 96, 97, 98, 99, 100, 101, 102, 103, 104, 105, 106, 107, 108, 109, 110, 111, 112, 113, 114, 115, 116, 117, 118, 119, 120, 121, 122, 123, 124, 125, 126, 127, 128] (fun fr W => ∃ s48 : SlV, fr 10 = s48.v ∧ St A N w W [oS T_uint64 1 (ic .u64) s48 o47, oS T_int 1 IC s45 (r37 ++ [a1.goal]), oS T_int 1 IC s43 ([a1.goal]), oS T_uint64 1 (ic .u64) s9 o11, oB b2 T_Sq (Sq.C a1)] [oR a_0 a0]) ?_ ?_
  · refine wc_block ?_
    refine wc_loopm (α := Nat × Int × (List Int)) [10, 11, 12, 74, 75, 76, 77, 78, 79, 80, 81, 82, 83, 84, 85, 86, 87, 88, 89, 90, 91, 92, 93, 94, 95, 96, 97, 98, 99, 100, 101, 102, 103, 104, 105, 106, 107, 108, 109, 110, 111, 112, 113, 114, 115, 116, 117, 118, 119, 120, 121, 122, 123, 124, 125, 126, 127, 128] (fun x fr W => (x.1 : Int) = ((r37 ++ [a1.goal]).length : Int) - x.2.1 ∧ 0 ≤ x.2.1 ∧ forS (fun i s => ref09_Weights.b1 r37 a1 o11 k i s) x.1 x.2.1 x.2.2 = some o47 ∧ ∃ s49 : SlV, fr 11 = .int .i64 x.2.1 ∧ fr 10 = s49.v ∧ St A N w W [oS T_uint64 1 (ic .u64) s49 (x.2.2), oS T_int 1 IC s45 (r37 ++ [a1.goal]), oS T_int 1 IC s43 ([a1.goal]), oS T_uint64 1 (ic .u64) s9 o11, oB b2 T_Sq (Sq.C a1)] [oR a_0 a0]) (fun x => x.1) ((((r37 ++ [a1.goal]).length : Int) - 0).toNat, 0, ([] : List Int)) ⟨(by dsimp only; have hle := Int.natCast_nonneg ((r37 ++ [a1.goal]).length); omega), (Int.le_refl _), (by dsimp only; exact e47), SlV.nil, rfl, rfl, S⟩ ?_
    rintro ⟨m47, i47, x47_0⟩ g47 u47 ⟨hm47, hl47, e47, s50, q47_i, q47_10, S⟩
    try dsimp only at hm47
    try dsimp only at hl47
    try dsimp only at e47
    try dsimp only at S
    try dsimp only at q47_i
    try dsimp only at q47_10
    refine wc_seq (wc_seq (wc_region ?_))
    refine wd (does_mv_i q47_i) ?_
    refine wd (does_mv_l rfl) ?_
    refine wd (does_lenR sl_L_int rfl (S.rdO 1)) ?_
    refine wd (does_lt rfl rfl) ?_
    refine wl_nil ?_
    refine wc_if rfl (fun hc51 => ?_) (fun hc51 => ?_)
    rotate_left
    · refine wc_exit ?_
      have hge : ((r37 ++ [a1.goal]).length : Int) ≤ i47 := Int.not_lt.1 (of_decide_eq_false hc51)
      obtain rfl : m47 = 0 := by omega
      replace e47 := forS_0 e47
      obtain rfl := e47
      exact ⟨rfl, (((((Dif.self _ _ _).upd rfl _).upd rfl _).upd rfl _).upd rfl _), s50, q47_10, S⟩
    refine wc_skip ?_
    have hlt47 : i47 < ((r37 ++ [a1.goal]).length : Int) := of_decide_eq_true hc51
    obtain ⟨m47, rfl⟩ : ∃ m, m47 = m + 1 := ⟨m47 - 1, by omega⟩
    obtain ⟨q47, H, e47⟩ := forS_s e47
    unfold ref09_Weights.b1 at H
    try dsimp only at H
    have hb47 := (S.lenO 1)
    refine wc_seq ?_
    refine wc_block ?_
    refine wc_seq (wc_region ?_)
    refine wd (does_mv_l q47_10) ?_
    refine wd (does_lenR sl_L_uint64 rfl (S.rdO 0)) ?_
    refine wd (does_as_i rfl) ?_
    refine wl_nil ?_
    refine wc_seq (wc_region ?_)
    refine wd (does_mv_l q47_10) ?_
    refine wd (does_mv_l rfl) ?_
    refine wd (does_mv_l rfl) ?_
    refine wd (does_mv_i q47_i) ?_
    refine wd (does_indexR sl_L_int rfl rfl (S.rdO 1) (And.intro (show 0 ≤ i47 by omega) (show i47 < ((r37 ++ [a1.goal]).length : Int) from hlt47)).1 (And.intro (show 0 ≤ i47 by omega) (show i47 < ((r37 ++ [a1.goal]).length : Int) from hlt47)).2) ?_
    refine wd (does_load on_int rfl ((S.rdO 1).one (at_some (0 : Int) (And.intro (show 0 ≤ i47 by omega) (show i47 < ((r37 ++ [a1.goal]).length : Int) from hlt47))) rfl)) ?_
    obtain ⟨hi53, H⟩ := chk_ex H
    refine wd (does_indexR sl_L_uint64 rfl rfl (S.rdO 3) (inb_ex hi53).1 (inb_ex hi53).2) ?_
    refine wd (does_load on_uint64 rfl ((S.rdO 3).one (at_some (0 : Int) (inb_ex hi53)) rfl)) ?_
    refine wl_lits (C := (ic .u64)) (l := [at_ (0 : Int) o11 (at_ (0 : Int) (r37 ++ [a1.goal]) i47)]) (vs := [.int .u64 (at_ (0 : Int) o11 (at_ (0 : Int) (r37 ++ [a1.goal]) i47))]) sl_L_uint64 el_uint64.zero rfl rfl (fun _ _ => rfl) (by decide) rfl (by decide) fun b55 w54 s56 hBw54 hw54 => ?_
    replace S : St A N w w54 [oS T_uint64 1 (ic .u64) s56 ([at_ (0 : Int) o11 (at_ (0 : Int) (r37 ++ [a1.goal]) i47)]), oS T_uint64 1 (ic .u64) s50 x47_0, oS T_int 1 IC s45 (r37 ++ [a1.goal]), oS T_int 1 IC s43 ([a1.goal]), oS T_uint64 1 (ic .u64) s9 o11, oB b2 T_Sq (Sq.C a1)] [oR a_0 a0] := S.lit hBw54 hw54 (by simp)
    obtain ⟨ha59, H⟩ := chk_ex H
    have ha59 := of_decide_eq_true ha59
    refine wl_appends (C := (ic .u64)) sl_L_uint64 el_uint64 rfl rfl (S.sl 1) (S.rdO 0) (by simp) (fun a _ v hv => by rw [List.mem_singleton.1 hv]; rfl) ha59 (by omega) (by decide) fun s58 w57 O hw57 gw57 => ?_
    replace S : St A N w w57 [oS T_uint64 1 (ic .u64) s58 (x47_0 ++ [at_ (0 : Int) o11 (at_ (0 : Int) (r37 ++ [a1.goal]) i47)]), oS T_uint64 1 (ic .u64) s56 ([at_ (0 : Int) o11 (at_ (0 : Int) (r37 ++ [a1.goal]) i47)]), oS T_int 1 IC s45 (r37 ++ [a1.goal]), oS T_int 1 IC s43 ([a1.goal]), oS T_uint64 1 (ic .u64) s9 o11, oB b2 T_Sq (Sq.C a1)] [oR a_0 a0] := S.push 1 O (by first | (simp; done) | (simp; omega)) hw57 gw57
    clear O
    refine wd (does_as_l rfl) ?_
    refine wl_nil ?_
    refine wc_seq ?_
    obtain ⟨o60, e60, Ho60⟩ := bind_ex H
    clear H
    refine wc_cutq [12, 92, 93, 94, 95, 96, 97, 98, 99, 100, 101, 102, 103, 104, 105, 106, 107, 108, 109, 110, 111, 112, 113, 114, 115, 116, 117, 118] (fun fr W => ∃ s60 : Int × List Int, o60 = .inl s60 ∧ fr 12 = .int .i64 s60.1 ∧ St A N w W [oS T_uint64 1 (ic .u64) s58 s60.2, oS T_uint64 1 (ic .u64) s56 ([at_ (0 : Int) o11 (at_ (0 : Int) (r37 ++ [a1.goal]) i47)]), oS T_int 1 IC s45 (r37 ++ [a1.goal]), oS T_int 1 IC s43 ([a1.goal]), oS T_uint64 1 (ic .u64) s9 o11, oB b2 T_Sq (Sq.C a1)] [oR a_0 a0]) ?_ ?_
    · refine wc_block ?_
      refine wc_loopm (α := Nat × (Int × List Int)) [12, 92, 93, 94, 95, 96, 97, 98, 99, 100, 101, 102, 103, 104, 105, 106, 107, 108, 109, 110, 111, 112, 113, 114, 115, 116, 117, 118] (fun x fr W => iter (fun s => ref09_Weights.b2 r37 a1 i47 o11 s.1 s.2) x.1 x.2 = some o60 ∧ fr 12 = .int .i64 (x.2.1) ∧ St A N w W [oS T_uint64 1 (ic .u64) s58 (x.2.2), oS T_uint64 1 (ic .u64) s56 ([at_ (0 : Int) o11 (at_ (0 : Int) (r37 ++ [a1.goal]) i47)]), oS T_int 1 IC s45 (r37 ++ [a1.goal]), oS T_int 1 IC s43 ([a1.goal]), oS T_uint64 1 (ic .u64) s9 o11, oB b2 T_Sq (Sq.C a1)] [oR a_0 a0]) (fun x => x.1) (k, ((x47_0.length : Int), x47_0 ++ [at_ (0 : Int) o11 (at_ (0 : Int) (r37 ++ [a1.goal]) i47)])) ⟨(by dsimp only; exact e60), rfl, S⟩ ?_
      rintro ⟨m60, ⟨x60_0, x60_1⟩⟩ g60 u60 ⟨e60, q60_12, S⟩
      try dsimp only at e60
      try dsimp only at S
      try dsimp only at q60_12
      obtain ⟨m60, rfl⟩ : ∃ m, m60 = m + 1 := ⟨m60 - 1, by cases m60 with | zero => cases e60 | succ m => rfl⟩
      obtain ⟨q60, H, e60⟩ := iter_s e60
      unfold ref09_Weights.b2 at H
      try dsimp only at H
      refine wc_seq ?_
      refine wc_seq ?_
      refine wc_quiet 15 (Ext u60) hmix (by kernel_rfl) (by kernel_rfl) (Ext.drawn _) ?_
      refine wq_does (fun v K => does_mv_i q60_12) ?_
      refine wq_does (fun v K => does_gt rfl rfl) ?_
      refine wq_does (fun v K => does_mv_b rfl) ?_
      refine wq_guard (j := 2) (pol := true) rfl rfl rfl (fun hg v K => does_mv_l rfl) ?_
      refine wq_guard (j := 2) (pol := true) rfl rfl rfl (fun hg v K => does_mv_i q60_12) ?_
      refine wq_guard (j := 2) (pol := true) rfl rfl rfl (fun hg v K => does_sub (gv_yes hg) rfl) ?_
      obtain ⟨hi61, H⟩ := chk_g H
      refine wq_guard (j := 2) (pol := true) rfl rfl rfl (fun hg v K => does_indexR sl_L_uint64 (gv_yes hg) (gv_yes hg) ((S.ext K).rdO 0) (inb_ex (hi61 (by simpa using hg))).1 (inb_ex (hi61 (by simpa using hg))).2) ?_
      refine wq_guard (j := 2) (pol := true) rfl rfl rfl (fun hg v K => does_load on_uint64 (gv_yes hg) (((S.ext K).rdO 0).one (at_some (0 : Int) (inb_ex (hi61 (by simpa using hg)))) rfl)) ?_
      refine wq_guard (j := 2) (pol := true) rfl rfl rfl (fun hg v K => does_mv_l rfl) ?_
      refine wq_guard (j := 2) (pol := true) rfl rfl rfl (fun hg v K => does_mv_l rfl) ?_
      refine wq_guard (j := 2) (pol := true) rfl rfl rfl (fun hg v K => does_mv_i q47_i) ?_
      refine wq_guard (j := 2) (pol := true) rfl rfl rfl (fun hg v K => does_indexR sl_L_int (gv_yes hg) (gv_yes hg) ((S.ext K).rdO 2) (And.intro (show 0 ≤ i47 by omega) (show i47 < ((r37 ++ [a1.goal]).length : Int) from hlt47)).1 (And.intro (show 0 ≤ i47 by omega) (show i47 < ((r37 ++ [a1.goal]).length : Int) from hlt47)).2) ?_
      refine wq_guard (j := 2) (pol := true) rfl rfl rfl (fun hg v K => does_load on_int (gv_yes hg) (((S.ext K).rdO 2).one (at_some (0 : Int) (And.intro (show 0 ≤ i47 by omega) (show i47 < ((r37 ++ [a1.goal]).length : Int) from hlt47))) rfl)) ?_
      obtain ⟨hi63, H⟩ := chk_g H
      refine wq_guard (j := 2) (pol := true) rfl rfl rfl (fun hg v K => does_indexR sl_L_uint64 (gv_yes hg) (gv_yes hg) ((S.ext K).rdO 4) (inb_ex (hi63 (by simpa using hg))).1 (inb_ex (hi63 (by simpa using hg))).2) ?_
      refine wq_guard (j := 2) (pol := true) rfl rfl rfl (fun hg v K => does_load on_uint64 (gv_yes hg) (((S.ext K).rdO 4).one (at_some (0 : Int) (inb_ex (hi63 (by simpa using hg)))) rfl)) ?_
      refine wq_nil fun w64 K => ?_
      replace S := S.ext K
      clear K
      refine wl_guard (j := 2) (pol := true) rfl rfl rfl (by decide) (fun hg => does_lt (gv_yes hg) (gv_yes hg)) (by decide) ?_
      refine wd (does_and rfl (fun hp => (gv_yes (and_1 hp)))) ?_
      refine wl_nil ?_
      refine wc_if rfl (fun hc65 => ?_) (fun hc65 => ?_)
      rotate_left
      · replace H := if_f hc65 H
        refine wc_exit ?_
        obtain rfl := Option.some.inj H
        exact ⟨rfl, ((((((((((((((((((Dif.self _ _ _).upd rfl _).upd rfl _).upd rfl _).upd rfl _).upd rfl _).upd rfl _).upd rfl _).upd rfl _).upd rfl _).upd rfl _).upd rfl _).upd rfl _).upd rfl _).upd rfl _).upd rfl _).upd rfl _).upd rfl _), (x60_0, x60_1), e60, q60_12, S⟩
      replace H := if_t hc65 H
      refine wc_skip ?_
      refine wc_block ?_
      refine wc_seq (wc_region ?_)
      refine wd (does_mv_l rfl) ?_
      refine wd (does_mv_i q60_12) ?_
      refine wd (does_mv_l rfl) ?_
      refine wd (does_mv_i q60_12) ?_
      refine wd (does_sub rfl rfl) ?_
      obtain ⟨hi66, H⟩ := chk_ex H
      refine wd (does_indexR sl_L_uint64 rfl rfl (S.rdO 0) (inb_ex hi66).1 (inb_ex hi66).2) ?_
      refine wd (does_load on_uint64 rfl ((S.rdO 0).one (at_some (0 : Int) (inb_ex hi66)) rfl)) ?_
      obtain ⟨hi67, H⟩ := chk_ex H
      refine wd (does_indexR sl_L_uint64 rfl rfl (S.rdO 0) (inb_ex hi67).1 (inb_ex hi67).2) ?_
      refine wl_store1 (C := (ic .u64)) (a := at_ (0 : Int) x60_1 (IntKind.i64.wrap (x60_0 - 1))) on_uint64 rfl rfl (S.sl 0) (inb_ex hi67) rfl rfl fun w68 O hw68 => ?_
      have hlw68 := S.lenO 0
      replace S : St A N w w68 [oS T_uint64 1 (ic .u64) s58 (x60_1.set (x60_0).toNat (at_ (0 : Int) x60_1 (IntKind.i64.wrap (x60_0 - 1)))), oS T_uint64 1 (ic .u64) s56 ([at_ (0 : Int) o11 (at_ (0 : Int) (r37 ++ [a1.goal]) i47)]), oS T_int 1 IC s45 (r37 ++ [a1.goal]), oS T_int 1 IC s43 ([a1.goal]), oS T_uint64 1 (ic .u64) s9 o11, oB b2 T_Sq (Sq.C a1)] [oR a_0 a0] := S.push 0 O (by rw [List.length_set]; exact hlw68) hw68 (fun i hi => .inl hi)
      clear O
      refine wl_nil ?_
      refine wc_region ?_
      refine wd (does_mv_i q60_12) ?_
      refine wd (does_sub rfl rfl) ?_
      refine wd (does_as_i rfl) ?_
      refine wl_nil ?_
      obtain rfl := Option.some.inj H
      exact ⟨rfl, (((((((((((((((((((((((((((((Dif.self _ _ _).upd rfl _).upd rfl _).upd rfl _).upd rfl _).upd rfl _).upd rfl _).upd rfl _).upd rfl _).upd rfl _).upd rfl _).upd rfl _).upd rfl _).upd rfl _).upd rfl _).upd rfl _).upd rfl _).upd rfl _).upd rfl _).upd rfl _).upd rfl _).upd rfl _).upd rfl _).upd rfl _).upd rfl _).upd rfl _).upd rfl _).upd rfl _).upd rfl _), (m60, (IntKind.i64.wrap (x60_0 - 1), x60_1.set (x60_0).toNat (at_ (0 : Int) x60_1 (IntKind.i64.wrap (x60_0 - 1))))), ⟨e60, rfl, S⟩, by dsimp only; omega⟩
    rintro g69 u70 ⟨s60, rfl, p60_12, S⟩
    have H := Ho60
    dsimp only [aft] at H
    refine wc_region ?_
    refine wd (does_mv_l rfl) ?_
    refine wd (does_mv_i p60_12) ?_
    refine wd (does_mv_l rfl) ?_
    refine wd (does_mv_l rfl) ?_
    refine wd (does_mv_i q47_i) ?_
    refine wd (does_indexR sl_L_int rfl rfl (S.rdO 2) (And.intro (show 0 ≤ i47 by omega) (show i47 < ((r37 ++ [a1.goal]).length : Int) from hlt47)).1 (And.intro (show 0 ≤ i47 by omega) (show i47 < ((r37 ++ [a1.goal]).length : Int) from hlt47)).2) ?_
    refine wd (does_load on_int rfl ((S.rdO 2).one (at_some (0 : Int) (And.intro (show 0 ≤ i47 by omega) (show i47 < ((r37 ++ [a1.goal]).length : Int) from hlt47))) rfl)) ?_
    obtain ⟨hi72, H⟩ := chk_ex H
    refine wd (does_indexR sl_L_uint64 rfl rfl (S.rdO 4) (inb_ex hi72).1 (inb_ex hi72).2) ?_
    refine wd (does_load on_uint64 rfl ((S.rdO 4).one (at_some (0 : Int) (inb_ex hi72)) rfl)) ?_
    obtain ⟨hi73, H⟩ := chk_ex H
    refine wd (does_indexR sl_L_uint64 rfl rfl (S.rdO 0) (inb_ex hi73).1 (inb_ex hi73).2) ?_
    refine wl_store1 (C := (ic .u64)) (a := at_ (0 : Int) o11 (at_ (0 : Int) (r37 ++ [a1.goal]) i47)) on_uint64 rfl rfl (S.sl 0) (inb_ex hi73) rfl rfl fun w74 O hw74 => ?_
    have hlw74 := S.lenO 0
    replace S : St A N w w74 [oS T_uint64 1 (ic .u64) s58 (s60.2.set (s60.1).toNat (at_ (0 : Int) o11 (at_ (0 : Int) (r37 ++ [a1.goal]) i47))), oS T_uint64 1 (ic .u64) s56 ([at_ (0 : Int) o11 (at_ (0 : Int) (r37 ++ [a1.goal]) i47)]), oS T_int 1 IC s45 (r37 ++ [a1.goal]), oS T_int 1 IC s43 ([a1.goal]), oS T_uint64 1 (ic .u64) s9 o11, oB b2 T_Sq (Sq.C a1)] [oR a_0 a0] := S.push 0 O (by rw [List.length_set]; exact hlw74) hw74 (fun i hi => .inl hi)
    clear O
    refine wl_nil ?_
    refine wc_region ?_
    refine wd (does_mv_i q47_i) ?_
    refine wd (does_addc rfl rfl (c := i47 + 1) rfl (by omega) (by omega)) ?_
    refine wd (does_as_i rfl) ?_
    refine wl_nil ?_
    replace S : St A N w w74 [oS T_uint64 1 (ic .u64) s58 (s60.2.set (s60.1).toNat (at_ (0 : Int) o11 (at_ (0 : Int) (r37 ++ [a1.goal]) i47))), oS T_int 1 IC s45 (r37 ++ [a1.goal]), oS T_int 1 IC s43 ([a1.goal]), oS T_uint64 1 (ic .u64) s9 o11, oB b2 T_Sq (Sq.C a1)] [oR a_0 a0] := S.arr [0, 2, 3, 4, 5] [0]
    obtain rfl := Option.some.inj H
    exact ⟨rfl, (((((((((((((((((((((((((((((((((Dif.self _ _ _).upd rfl _).upd rfl _).upd rfl _).upd rfl _).upd rfl _).upd rfl _).upd rfl _).upd rfl _).upd rfl _).upd rfl _).upd rfl _).upd rfl _).upd rfl _).upd rfl _).upd rfl _).upd rfl _).upd rfl _).upd rfl _).mask rfl _).upd rfl _).upd rfl _).upd rfl _).upd rfl _).upd rfl _).upd rfl _).upd rfl _).upd rfl _).upd rfl _).upd rfl _).upd rfl _).upd rfl _).upd rfl _), (m47, i47 + 1, s60.2.set (s60.1).toNat (at_ (0 : Int) o11 (at_ (0 : Int) (r37 ++ [a1.goal]) i47))), ⟨(by dsimp only; omega), (by dsimp only; omega), e47, s58, rfl, rfl, S⟩, by dsimp only; omega⟩
  rintro g75 u76 ⟨s48, p47_10, S⟩
  have H := Ho47
  refine wc_seq (wc_region ?_)
  refine wd (does_mv_l p47_10) ?_
  refine wd (does_as_l rfl) ?_
  refine wl_nil ?_
  refine wc_ret ?_
  refine ⟨_, (rets1 (retOne_tmp rfl)), ?_⟩
  replace S : St A N w u76 [oS T_uint64 1 (ic .u64) s48 o47] [] := S.arr [0] []
  obtain rfl := Option.some.inj H
  exact ⟨s48, rfl, S⟩
theorem law09_next_st {A : Nat → Prop} {N : Oth} {w : World} {a0 : Tb} {a_0 : Option Addr} {a1 : Sq} {a2 : Int} (S : St A N w w [oT a_0 a0] [oTz]) {r : Tb × List Sq × Int × Bool} (H : law09_next.f a0 a1 a2 = some r) :
    Calls PP F_law09_next #[.pointer a_0, .agg (Sq.C a1).toArray, .int .i64 a2] w fun e w' => ∃ v, e = .returned v ∧ (∃ so0 : SlV, v = .tuple #[so0.v, .int .i64 r.2.2.1, .bool r.2.2.2] ∧ St A N w w' [oT a_0 r.1, oS T_Sq 17 Sq.C so0 r.2.1] []) := by
  unfold law09_next.f at H
  refine calls_of_wc (n := 77) fn_law09_next rfl rfl (by simp) ?_
  refine wc_seq (wc_region ?_)
  refine wl_box_agg rfl (by decide) fun b2 w1 hw1 => ?_
  replace S : St A N w w1 [oB b2 T_Sq (Sq.C a1), oT a_0 a0] [oTz] := S.new hw1
  refine wd (does_as_nil) ?_
  refine wd (does_as_i rfl) ?_
  refine wd (does_as_b rfl) ?_
  refine wl_nil ?_
  refine wc_seq (wc_region ?_)
  refine wd (does_mv_p rfl) ?_
  refine wd (does_load_agg ag_Sq rfl ((S.blk 0).all _ (Sq.len _)) (Sq.len _)) ?_
  obtain ⟨r3, er3, H⟩ := bind_ex H
  obtain ⟨B5, MB5, SB5, back⟩ := S.calln 0 ((.o 1 rfl (.z 0 rfl .nil)))
  refine wl_call (does_call ca_rule_Apply) (by decide) (rule_Apply_st SB5 er3) ?_
  rintro _ w4 ⟨rfl, S2⟩
  replace S : St A N w w4 [oB b2 T_Sq (Sq.C a1), oT a_0 a0] [oTz] := back _ _ _ _ S2 rfl
  clear back S2 SB5
  refine wd (does_mv_t rfl) ?_
  refine wd (does_extract rfl rfl) ?_
  refine wd (does_extract rfl rfl) ?_
  refine wd (does_extract rfl rfl) ?_
  refine wd (does_as_i rfl) ?_
  refine wd (does_as_i rfl) ?_
  refine wd (does_as_i rfl) ?_
  refine wl_nil ?_
  refine wc_seq (wc_seq (wc_region ?_))
  refine wd (does_mv_i rfl) ?_
  refine wd (does_ne rfl rfl) ?_
  refine wl_nil ?_
  refine wc_if rfl (fun hc6 => ?_) (fun hc6 => ?_)
  · replace H := if_t hc6 H
    refine wc_seq (wc_region ?_)
    refine wd (does_as_nil) ?_
    refine wd (does_as_i rfl) ?_
    refine wd (does_as_b rfl) ?_
    refine wl_nil ?_
    refine wc_ret ?_
    replace S : St A N w w4 [oS T_Sq 17 Sq.C SlV.nil ([] : List Sq), oB b2 T_Sq (Sq.C a1), oT a_0 a0] [oTz] := S.nil T_Sq 17 Sq.C
    refine ⟨_, (rets3 (retOne_tmp rfl) (retOne_tmp rfl) (retOne_tmp rfl)), ?_⟩
    replace S : St A N w w4 [oT a_0 a0, oS T_Sq 17 Sq.C SlV.nil ([] : List Sq)] [] := S.arr [2, 0] []
    obtain rfl := Option.some.inj H
    exact ⟨SlV.nil, rfl, S⟩
  replace H := if_f hc6 H
  refine wc_skip ?_
  refine wc_seq (wc_seq (wc_region ?_))
  refine wd (does_mv_i rfl) ?_
  refine wd (does_eq rfl rfl) ?_
  refine wl_nil ?_
  obtain ⟨o7, e7, Ho7⟩ := bind_ex H
  replace H := e7; clear e7
  refine wc_cutq [6, 7, 8, 9, 10, 12, 13, 14, 15, 29, 30, 31, 32, 33, 34, 35, 36, 37, 38, 39, 40, 41, 42, 43, 44, 45, 46, 47, 48, 49, 50, 51, 52, 53, 54, 55, 56, 57, 58, 59, 60, 61, 62, 63, 64] (fun fr W => ∃ s7 : Int × Int × Tb, o7 = .inl s7 ∧ fr 9 = .int .i64 s7.1 ∧ fr 10 = .int .i64 s7.2.1 ∧ St A N w W [oB b2 T_Sq (Sq.C a1), oT a_0 s7.2.2] [oTz]) ?_ ?_
  · refine wc_if rfl (fun hc8 => ?_) (fun hc8 => ?_)
    · replace H := if_t hc8 H
      refine wc_seq (wc_region ?_)
      refine wd (does_mv_p rfl) ?_
      refine wd (does_load_agg ag_Sq rfl ((S.blk 0).all _ (Sq.len _)) (Sq.len _)) ?_
      obtain ⟨r9, er9, H⟩ := bind_ex H
      obtain ⟨B11, MB11, SB11, back⟩ := S.calln 0 ((.o 1 rfl (.z 0 rfl .nil)))
      refine wl_call (does_call ca_rule_Choices) (by decide) (rule_Choices_st SB11 er9) ?_
      rintro _ w10 ⟨s12, s13, rfl, S2⟩
      replace S : St A N w w10 [oS T_api_Rule 1 IC s12 r9.1, oS T_int 1 IC s13 r9.2.1, oB b2 T_Sq (Sq.C a1), oT a_0 a0] [oTz] := back _ _ _ _ S2 rfl
      clear back S2 SB11
      refine wd (does_mv_t rfl) ?_
      refine wd (does_extract rfl rfl) ?_
      refine wd (does_extract rfl rfl) ?_
      refine wd (does_extract rfl rfl) ?_
      refine wd (does_as_l rfl) ?_
      refine wd (does_as_l rfl) ?_
      refine wd (does_as_i rfl) ?_
      refine wl_nil ?_
      refine wc_seq (wc_seq (wc_region ?_))
      refine wd (does_mv_i rfl) ?_
      refine wd (does_ne rfl rfl) ?_
      refine wd (does_mv_b rfl) ?_
      refine wl_guard (j := 2) (pol := false) rfl rfl rfl (by decide) (fun hg => does_mv_l rfl) (by decide) ?_
      refine wl_guard (j := 2) (pol := false) rfl rfl rfl (by decide) (fun hg => does_lenR sl_L_api_Rule (gv_yes hg) (S.rdO 0)) (by decide) ?_
      refine wl_guard (j := 2) (pol := false) rfl rfl rfl (by decide) (fun hg => does_eq (gv_yes hg) rfl) (by decide) ?_
      refine wd (does_or rfl (fun hp => (gv_yes (and_1 hp)))) ?_
      refine wd (does_mv_b rfl) ?_
      refine wl_guard (j := 7) (pol := false) rfl rfl rfl (by decide) (fun hg => does_mv_l rfl) (by decide) ?_
      refine wl_guard (j := 7) (pol := false) rfl rfl rfl (by decide) (fun hg => does_lenR sl_L_int (gv_yes hg) (S.rdO 1)) (by decide) ?_
      refine wl_guard (j := 7) (pol := false) rfl rfl rfl (by decide) (fun hg => does_mv_l rfl) (by decide) ?_
      refine wl_guard (j := 7) (pol := false) rfl rfl rfl (by decide) (fun hg => does_lenR sl_L_api_Rule (gv_yes hg) (S.rdO 0)) (by decide) ?_
      refine wl_guard (j := 7) (pol := false) rfl rfl rfl (by decide) (fun hg => does_ne (gv_yes hg) (gv_yes hg)) (by decide) ?_
      refine wd (does_or rfl (fun hp => (gv_yes (and_1 hp)))) ?_
      refine wl_nil ?_
      refine wc_if rfl (fun hc14 => ?_) (fun hc14 => ?_)
      · replace H := if_t hc14 H
        refine wc_seq (wc_region ?_)
        refine wd (does_as_nil) ?_
        refine wd (does_as_i rfl) ?_
        refine wd (does_as_b rfl) ?_
        refine wl_nil ?_
        refine wc_ret ?_
        replace S : St A N w w10 [oS T_Sq 17 Sq.C SlV.nil ([] : List Sq), oS T_api_Rule 1 IC s12 r9.1, oS T_int 1 IC s13 r9.2.1, oB b2 T_Sq (Sq.C a1), oT a_0 a0] [oTz] := S.nil T_Sq 17 Sq.C
        refine ⟨_, (rets3 (retOne_tmp rfl) (retOne_tmp rfl) (retOne_tmp rfl)), ?_⟩
        replace S : St A N w w10 [oT a_0 a0, oS T_Sq 17 Sq.C SlV.nil ([] : List Sq)] [] := S.arr [4, 0] []
        obtain rfl := Option.some.inj H
        obtain rfl := aft_r Ho7
        exact ⟨SlV.nil, rfl, S⟩
      replace H := if_f hc14 H
      refine wc_skip ?_
      refine wc_seq (wc_region ?_)
      refine wd (does_mv_i rfl) ?_
      refine wd (does_conv un_int un_uint64 rfl) ?_
      refine wd (does_mv_l rfl) ?_
      refine wd (does_lenR sl_L_api_Rule rfl (S.rdO 0)) ?_
      refine wd (does_conv un_int un_uint64 rfl) ?_
      obtain ⟨hz15, H⟩ := chk_ex H
      refine wd (does_rem rfl rfl (of_decide_eq_true hz15)) ?_
      refine wd (does_conv un_uint64 un_int rfl) ?_
      refine wd (does_as_i rfl) ?_
      refine wl_nil ?_
      refine wc_seq (wc_region ?_)
      refine wd (does_mv_l rfl) ?_
      refine wd (does_mv_i rfl) ?_
      obtain ⟨hi16, H⟩ := chk_ex H
      refine wd (does_indexR sl_L_api_Rule rfl rfl (S.rdO 0) (inb_ex hi16).1 (inb_ex hi16).2) ?_
      refine wd (does_load on_api_Rule rfl ((S.rdO 0).one (at_some (0 : Int) (inb_ex hi16)) rfl)) ?_
      refine wd (does_as_i rfl) ?_
      refine wl_nil ?_
      refine wc_region ?_
      refine wd (does_mv_l rfl) ?_
      refine wd (does_mv_i rfl) ?_
      obtain ⟨hi17, H⟩ := chk_ex H
      refine wd (does_indexR sl_L_int rfl rfl (S.rdO 1) (inb_ex hi17).1 (inb_ex hi17).2) ?_
      refine wd (does_load on_int rfl ((S.rdO 1).one (at_some (0 : Int) (inb_ex hi17)) rfl)) ?_
      refine wd (does_as_i rfl) ?_
      refine wl_nil ?_
      replace S : St A N w w10 [oB b2 T_Sq (Sq.C a1), oT a_0 a0] [oTz] := S.arr [2, 3] [0]
      obtain rfl := Option.some.inj H
      exact ⟨rfl, (((((((((((((((((((((((((((((((((((((((((((Dif.refl _ _).upd rfl _).upd rfl _).upd rfl _).upd rfl _).upd rfl _).upd rfl _).upd rfl _).upd rfl _).upd rfl _).upd rfl _).upd rfl _).upd rfl _).upd rfl _).upd rfl _).upd rfl _).upd rfl _).upd rfl _).upd rfl _).upd rfl _).upd rfl _).upd rfl _).upd rfl _).upd rfl _).upd rfl _).upd rfl _).upd rfl _).upd rfl _).upd rfl _).upd rfl _).upd rfl _).upd rfl _).upd rfl _).upd rfl _).upd rfl _).upd rfl _).upd rfl _).upd rfl _).upd rfl _).upd rfl _).upd rfl _).upd rfl _).upd rfl _), (at_ (0 : Int) r9.1 (IntKind.i64.wrap (Int.tmod (IntKind.u64.wrap a2) (IntKind.u64.wrap (r9.1.length : Int)))), at_ (0 : Int) r9.2.1 (IntKind.i64.wrap (Int.tmod (IntKind.u64.wrap a2) (IntKind.u64.wrap (r9.1.length : Int)))), a0), rfl, rfl, rfl, S⟩
    · replace H := if_f hc8 H
      refine wc_skip ?_
      obtain rfl := Option.some.inj H
      exact ⟨rfl, (Dif.refl _ _), (r3.1, r3.2.1, a0), rfl, rfl, rfl, S⟩
  rintro g18 u19 ⟨s7, rfl, p7_9, p7_10, S⟩
  have H := Ho7
  dsimp only [aft] at H
  refine wc_seq (wc_region ?_)
  refine wd (does_mv_p rfl) ?_
  refine wd (does_load_agg ag_Sq rfl ((S.blk 0).all _ (Sq.len _)) (Sq.len _)) ?_
  refine wd (does_mv_i p7_9) ?_
  refine wd (does_mv_i p7_10) ?_
  obtain ⟨r20, er20, H⟩ := bind_ex H
  replace S : St A N w u19 [oT a_0 s7.2.2, oB b2 T_Sq (Sq.C a1)] [oTz] := S.front 1
  obtain ⟨B22, MB22, SB22, back⟩ := S.calln 1 ((.z 0 rfl .nil))
  refine wl_call (does_call ca_rule_Premises) (by decide) (rule_Premises_st SB22 er20) ?_
  rintro _ w21 ⟨s23, rfl, S2⟩
  replace S : St A N w w21 [oT a_0 r20.1, oS T_Sq 17 Sq.C s23 r20.2.1, oB b2 T_Sq (Sq.C a1)] [oTz] := back _ _ _ _ S2 rfl
  clear back S2 SB22
  refine wd (does_mv_t rfl) ?_
  refine wd (does_extract rfl rfl) ?_
  refine wd (does_extract rfl rfl) ?_
  refine wd (does_as_l rfl) ?_
  refine wd (does_as_i rfl) ?_
  refine wl_nil ?_
  refine wc_seq (wc_region ?_)
  refine wd (does_mv_l rfl) ?_
  refine wd (does_mv_i p7_9) ?_
  refine wd (does_mv_i rfl) ?_
  refine wd (does_eq rfl rfl) ?_
  refine wd (does_as_l rfl) ?_
  refine wd (does_as_i rfl) ?_
  refine wd (does_as_b rfl) ?_
  refine wl_nil ?_
  refine wc_ret ?_
  refine ⟨_, (rets3 (retOne_tmp rfl) (retOne_tmp rfl) (retOne_tmp rfl)), ?_⟩
  replace S : St A N w w21 [oT a_0 r20.1, oS T_Sq 17 Sq.C s23 r20.2.1] [] := S.arr [0, 1] []
  obtain rfl := Option.some.inj H
  exact ⟨s23, rfl, S⟩
end Go.Proofs.YtjjkhjieegmphaaDoor
end
section
namespace Go.Proofs.YtjjkhjieegmphaaDoor
open Gw Go.RowKit
set_option linter.unusedVariables false
set_option linter.unusedSimpArgs false

theorem law09_RuleFalls_st {A : Nat → Prop} {N : Oth} {w : World} {a0 : List Nd} {s_0 : SlV} {a1 : Sq} {a2 : List Int} {s_2 : SlV} (S : St A N w w [] [fS 4 Nd.C s_0 a0, fS 1 IC s_2 a2, oTz]) {k : Nat} {r : Bool} (H : law09_RuleFalls.f k a0 a1 a2 = some r) :
    Calls PP F_law09_RuleFalls #[s_0.v, .agg (Sq.C a1).toArray, s_2.v] w fun e w' => ∃ v, e = .returned v ∧ (v = .bool r ∧ St A N w w' [] []) := by
  unfold law09_RuleFalls.f at H
  refine calls_of_wc (n := 106) fn_law09_RuleFalls rfl rfl (by simp) ?_
  refine wc_seq (wc_region ?_)
  refine wl_box_agg rfl (by decide) fun b2 w1 hw1 => ?_
  replace S : St A N w w1 [oB b2 T_Sq (Sq.C a1)] [fS 4 Nd.C s_0 a0, fS 1 IC s_2 a2, oTz] := S.new hw1
  refine wd (does_as_b rfl) ?_
  refine wl_nil ?_
  refine wc_seq (wc_region ?_)
  refine wd (does_mv_l rfl) ?_
  obtain ⟨r3, er3, H⟩ := bind_ex H
  obtain ⟨B5, MB5, SB5, back⟩ := S.calln 0 ((.z 0 rfl .nil))
  refine wl_call (does_call ca_law03_Both) (by decide) (law03_Both_st SB5 er3) ?_
  rintro _ w4 ⟨a6, a7, rfl, S2⟩
  replace S : St A N w w4 [oT a6 r3.1, oR a7 r3.2.1, oB b2 T_Sq (Sq.C a1)] [fS 4 Nd.C s_0 a0, fS 1 IC s_2 a2, oTz] := back _ _ _ _ S2 rfl
  clear back S2 SB5
  refine wd (does_mv_t rfl) ?_
  refine wd (does_extract rfl rfl) ?_
  refine wd (does_extract rfl rfl) ?_
  refine wd (does_extract rfl rfl) ?_
  refine wd (does_as_p rfl) ?_
  refine wd (does_as_p rfl) ?_
  refine wd (does_as_b rfl) ?_
  refine wl_nil ?_
  refine wc_seq (wc_seq (wc_region ?_))
  refine wd (does_mv_b rfl) ?_
  refine wd (does_not rfl) ?_
  refine wl_nil ?_
  refine wc_if rfl (fun hc8 => ?_) (fun hc8 => ?_)
  · replace H := if_t hc8 H
    refine wc_seq (wc_region ?_)
    obtain ⟨r9, er9, H⟩ := bind_ex H
    obtain ⟨B11, MB11, SB11, back⟩ := S.calln 0 ((.z 2 rfl .nil))
    refine wl_call (does_call ca_law09_heads) (by decide) (law09_heads_st SB11 er9) ?_
    rintro _ w10 ⟨rfl, S2⟩
    replace S : St A N w w10 [oT a6 r3.1, oR a7 r3.2.1, oB b2 T_Sq (Sq.C a1)] [fS 4 Nd.C s_0 a0, fS 1 IC s_2 a2, oTz] := back _ _ _ _ S2 rfl
    clear back S2 SB11
    refine wd (does_as_b rfl) ?_
    refine wl_nil ?_
    refine wc_ret ?_
    refine ⟨_, (rets1 (retOne_tmp rfl)), ?_⟩
    replace S : St A N w w10 [] [] := S.arr [] []
    obtain rfl := Option.some.inj H
    exact ⟨rfl, S⟩
  replace H := if_f hc8 H
  refine wc_skip ?_
  refine wc_seq (wc_seq (wc_region ?_))
  refine wd (does_as_i rfl) ?_
  refine wl_nil ?_
  obtain ⟨o12, e12, Ho12⟩ := bind_ex H
  clear H
  refine wc_cutq [6, 10, 11, 12, 13, 14, 15, 16, 26, 27, 28, 29, 30, 31, 32, 33, 34, 35, 36, 37, 38, 39, 40, 41, 42, 43, 44, 45, 46, 47, 48, 49, 50, 51, 52, 53, 54, 55, 56, 57, 58, 59, 60, 61, 62, 63, 64, 65, 66, 67, 68, 69, 70, 71, 72, 73, 74, 75, 76, 77, 78, 79, 80, 81, 82, 83, 84, 85, 86, 87, 88, 89, 90, 91, 92, 93, 94, 95, 96, 97, 98, 99, 100, 101, 102, 103, 104] (fun fr W => ∃ s12 : Tb × Sq, o12 = .inl s12 ∧ St A N w W [oT a6 s12.1, oR a7 r3.2.1, oB b2 T_Sq (Sq.C s12.2)] [fS 4 Nd.C s_0 a0, fS 1 IC s_2 a2, oTz]) ?_ ?_
  · refine wc_block ?_
    refine wc_loopm (α := Nat × Int × (Tb × Sq)) [6, 10, 11, 12, 13, 14, 15, 16, 26, 27, 28, 29, 30, 31, 32, 33, 34, 35, 36, 37, 38, 39, 40, 41, 42, 43, 44, 45, 46, 47, 48, 49, 50, 51, 52, 53, 54, 55, 56, 57, 58, 59, 60, 61, 62, 63, 64, 65, 66, 67, 68, 69, 70, 71, 72, 73, 74, 75, 76, 77, 78, 79, 80, 81, 82, 83, 84, 85, 86, 87, 88, 89, 90, 91, 92, 93, 94, 95, 96, 97, 98, 99, 100, 101, 102, 103, 104] (fun x fr W => (x.1 : Int) = (a2.length : Int) - x.2.1 ∧ 0 ≤ x.2.1 ∧ forN (fun i s => law09_RuleFalls.b0 a2 k i s.1 s.2) x.1 x.2.1 x.2.2 = some o12 ∧ fr 10 = .int .i64 x.2.1 ∧ St A N w W [oT a6 (x.2.2.1), oR a7 r3.2.1, oB b2 T_Sq (Sq.C (x.2.2.2))] [fS 4 Nd.C s_0 a0, fS 1 IC s_2 a2, oTz]) (fun x => x.1) (((a2.length : Int) - 0).toNat, 0, (r3.1, a1)) ⟨(by dsimp only; have hle := Int.natCast_nonneg (a2.length); omega), (Int.le_refl _), (by dsimp only; exact e12), rfl, S⟩ ?_
    rintro ⟨m12, i12, ⟨x12_0, x12_1⟩⟩ g12 u12 ⟨hm12, hl12, e12, q12_i, S⟩
    try dsimp only at hm12
    try dsimp only at hl12
    try dsimp only at e12
    try dsimp only at S
    try dsimp only at q12_i
    refine wc_seq (wc_seq (wc_region ?_))
    refine wd (does_mv_i q12_i) ?_
    refine wd (does_mv_l rfl) ?_
    refine wd (does_lenR sl_L_int rfl (S.rd 1)) ?_
    refine wd (does_lt rfl rfl) ?_
    refine wl_nil ?_
    refine wc_if rfl (fun hc13 => ?_) (fun hc13 => ?_)
    rotate_left
    · refine wc_exit ?_
      have hge : (a2.length : Int) ≤ i12 := Int.not_lt.1 (of_decide_eq_false hc13)
      obtain rfl : m12 = 0 := by omega
      replace e12 := forN_0 e12
      exact ⟨rfl, (((((Dif.self _ _ _).upd rfl _).upd rfl _).upd rfl _).upd rfl _), (x12_0, x12_1), e12, S⟩
    refine wc_skip ?_
    have hlt12 : i12 < (a2.length : Int) := of_decide_eq_true hc13
    obtain ⟨m12, rfl⟩ : ∃ m, m12 = m + 1 := ⟨m12 - 1, by omega⟩
    obtain ⟨q12, H, e12⟩ := forN_s e12
    unfold law09_RuleFalls.b0 at H
    try dsimp only at H
    have hb12 := (S.len 1)
    refine wc_seq ?_
    refine wc_block ?_
    refine wc_seq ?_
    refine wc_ws hmix fun w16 K => ?_
    replace S := S.ext K
    clear K
    refine ws_semi 0 6 [] (by kernel_rfl) (by decide) (by kernel_rfl)
     (V := fun i v u => match i with
      | _ => True) ?_ ?_
    · intro i v u u' hi hx hv
      match i, hv with
      | _, _ => exact trivial
    refine wm_does (fun v K => does_mv_p rfl) rfl ?_
    refine wm_does (fun v K => does_load_agg ag_Sq rfl (((S.ext K).blk 2).all _ (Sq.len _)) (Sq.len _)) rfl ?_
    refine wm_does (fun v K => does_mv_l rfl) rfl ?_
    refine wm_does (fun v K => does_mv_i q12_i) rfl ?_
    refine wm_does (fun v K => does_indexR sl_L_int rfl rfl ((S.ext K).rd 1) (And.intro (show 0 ≤ i12 by omega) (show i12 < (a2.length : Int) from hlt12)).1 (And.intro (show 0 ≤ i12 by omega) (show i12 < (a2.length : Int) from hlt12)).2) rfl ?_
    refine wm_does (fun v K => does_load on_int rfl (((S.ext K).rd 1).one (at_some (0 : Int) (And.intro (show 0 ≤ i12 by omega) (show i12 < (a2.length : Int) from hlt12))) rfl)) rfl ?_
    refine wm_nil fun g w18 K hV => ?_
    replace S := S.ext K
    clear K hV
    refine ws_chain 6 8 (by kernel_rfl) (by decide) ?_
    obtain ⟨r20, er20, H⟩ := bind_ex H
    obtain ⟨B22, MB22, SB22, back⟩ := S.calln 1 ((.z 2 rfl .nil))
    refine wl_call (does_call ca_law09_next) (by decide) (law09_next_st SB22 er20) ?_
    rintro _ w21 ⟨s23, rfl, S2⟩
    replace S : St A N w w21 [oT a6 r20.1, oS T_Sq 17 Sq.C s23 r20.2.1, oR a7 r3.2.1, oB b2 T_Sq (Sq.C x12_1)] [fS 4 Nd.C s_0 a0, fS 1 IC s_2 a2, oTz] := back _ _ _ _ S2 rfl
    clear back S2 SB22
    refine wd (does_mv_t rfl) ?_
    refine wl_nil ⟨rfl, ?_⟩
    refine ws_semi 8 13 [] (by kernel_rfl) (by decide) (by kernel_rfl)
     (V := fun i v u => match i with
      | _ => True) ?_ ?_
    · intro i v u u' hi hx hv
      match i, hv with
      | _, _ => exact trivial
    refine wm_does (fun v K => does_extract rfl rfl) rfl ?_
    refine wm_does (fun v K => does_extract rfl rfl) rfl ?_
    refine wm_does (fun v K => does_extract rfl rfl) rfl ?_
    refine wm_does (fun v K => does_as_l rfl) rfl ?_
    refine wm_does (fun v K => does_as_i rfl) rfl ?_
    refine wm_nil fun g w24 K hV => ?_
    replace S := S.ext K
    clear K hV
    refine ws_tail 13 (by kernel_rfl) (by decide) ?_
    refine wd (does_as_b rfl) ?_
    refine wl_nil ?_
    refine wc_seq (wc_seq (wc_region ?_))
    refine wd (does_mv_b rfl) ?_
    refine wd (does_not rfl) ?_
    refine wd (does_mv_b rfl) ?_
    refine wl_guard (j := 2) (pol := false) rfl rfl rfl (by decide) (fun hg => does_mv_l rfl) (by decide) ?_
    refine wl_guard (j := 2) (pol := false) rfl rfl rfl (by decide) (fun hg => does_lenR sl_L_api_Seq (gv_yes hg) (S.rdO 1)) (by decide) ?_
    refine wl_guard (j := 2) (pol := false) rfl rfl rfl (by decide) (fun hg => does_eq (gv_yes hg) rfl) (by decide) ?_
    refine wd (does_or rfl (fun hp => (gv_yes (and_1 hp)))) ?_
    refine wl_nil ?_
    refine wc_if rfl (fun hc26 => ?_) (fun hc26 => ?_)
    · replace H := if_t hc26 H
      refine wc_exit ?_
      replace S : St A N w w24 [oT a6 r20.1, oR a7 r3.2.1, oB b2 T_Sq (Sq.C x12_1)] [fS 4 Nd.C s_0 a0, fS 1 IC s_2 a2, oTz] := S.arr [0, 2, 3] [0, 1, 2]
      obtain rfl := Option.some.inj H
      exact ⟨rfl, ((((((((((((((((((((((((((((Dif.self _ _ _).upd rfl _).upd rfl _).upd rfl _).upd rfl _).upd rfl _).upd rfl _).upd rfl _).upd rfl _).upd rfl _).upd rfl _).mask rfl _).upd rfl _).upd rfl _).upd rfl _).upd rfl _).upd rfl _).upd rfl _).upd rfl _).mask rfl _).upd rfl _).upd rfl _).upd rfl _).upd rfl _).upd rfl _).upd rfl _).upd rfl _).upd rfl _), (r20.1, x12_1), e12, S⟩
    replace H := if_f hc26 H
    refine wc_skip ?_
    refine wc_seq (wc_region ?_)
    refine wd (does_mv_p rfl) ?_
    obtain ⟨r27, er27, H⟩ := bind_ex H
    obtain ⟨B29, MB29, SB29, back⟩ := S.calln 0 ((.o 0 rfl .nil))
    refine wl_call (does_call ca_formula_Table_Rows) (by decide) (formula_Table_Rows_st SB29 er27) ?_
    rintro _ w28 ⟨s30, rfl, S2⟩
    replace S : St A N w w28 [oS T_Nd 4 Nd.C s30 r27, oT a6 r20.1, oS T_Sq 17 Sq.C s23 r20.2.1, oR a7 r3.2.1, oB b2 T_Sq (Sq.C x12_1)] [fS 4 Nd.C s_0 a0, fS 1 IC s_2 a2, oTz] := back _ _ _ _ S2 rfl
    clear back S2 SB29
    refine wd (does_build bu_RTab (Bld.one rfl (SlV.one s30 _ rfl) (by rw [RTab.len]; decide) (RTab.set_n _ _) Bld.nil)) ?_
    refine wl_box_agg rfl (by decide) fun b32 w31 hw31 => ?_
    replace S : St A N w w31 [oR (some ⟨b32, 0, none⟩) (some r27), oT a6 r20.1, oS T_Sq 17 Sq.C s23 r20.2.1, oR a7 r3.2.1, oB b2 T_Sq (Sq.C x12_1)] [fS 4 Nd.C s_0 a0, fS 1 IC s_2 a2, oTz] := (S.new hw31).shutR rfl
    refine wd (does_as_p rfl) ?_
    refine wl_nil ?_
    refine wc_seq (wc_seq (wc_region ?_))
    refine wd (does_mv_p rfl) ?_
    refine wd (does_load_agg ag_Sq rfl ((S.blk 4).all _ (Sq.len _)) (Sq.len _)) ?_
    obtain ⟨r33, er33, H⟩ := bind_ex H
    obtain ⟨B35, MB35, SB35, back⟩ := S.calln 0 ((.o 0 rfl .nil))
    refine wl_call (does_call ca_ref09_Right) (by decide) (ref09_Right_st SB35 er33) ?_
    rintro _ w34 ⟨rfl, S2⟩
    replace S : St A N w w34 [oR (some ⟨b32, 0, none⟩) (some r27), oT a6 r20.1, oS T_Sq 17 Sq.C s23 r20.2.1, oR a7 r3.2.1, oB b2 T_Sq (Sq.C x12_1)] [fS 4 Nd.C s_0 a0, fS 1 IC s_2 a2, oTz] := back _ _ _ _ S2 rfl
    clear back S2 SB35
    refine wd (does_not rfl) ?_
    refine wl_nil ?_
    refine wc_if rfl (fun hc36 => ?_) (fun hc36 => ?_)
    · replace H := if_t hc36 H
      refine wc_seq (wc_region ?_)
      refine wd (does_as_b rfl) ?_
      refine wl_nil ?_
      refine wc_ret ?_
      refine ⟨_, (rets1 (retOne_tmp rfl)), ?_⟩
      replace S : St A N w w34 [] [] := S.arr [] []
      obtain rfl := Option.some.inj H
      obtain rfl := e12
      obtain rfl := aft_r Ho12
      exact ⟨rfl, S⟩
    replace H := if_f hc36 H
    refine wc_skip ?_
    refine wc_seq (wc_region ?_)
    refine wd (does_mv_p rfl) ?_
    refine wd (does_load_agg ag_Sq rfl ((S.blk 4).all _ (Sq.len _)) (Sq.len _)) ?_
    obtain ⟨r37, er37, H⟩ := bind_ex H
    obtain ⟨B39, MB39, SB39, back⟩ := S.calln 0 ((.o 0 rfl .nil))
    refine wl_call (does_call ca_ref09_Weights) (by decide) (ref09_Weights_st SB39 er37) ?_
    rintro _ w38 ⟨s40, rfl, S2⟩
    replace S : St A N w w38 [oS T_uint64 1 (ic .u64) s40 r37, oR (some ⟨b32, 0, none⟩) (some r27), oT a6 r20.1, oS T_Sq 17 Sq.C s23 r20.2.1, oR a7 r3.2.1, oB b2 T_Sq (Sq.C x12_1)] [fS 4 Nd.C s_0 a0, fS 1 IC s_2 a2, oTz] := back _ _ _ _ S2 rfl
    clear back S2 SB39
    refine wd (does_as_l rfl) ?_
    refine wl_nil ?_
    refine wc_seq (wc_seq (wc_region ?_))
    refine wd (does_mv_l rfl) ?_
    obtain ⟨hi41, H⟩ := chk_ex H
    refine wd (does_indexR sl_L_uint64 rfl rfl (S.rdO 0) (inb_ex hi41).1 (inb_ex hi41).2) ?_
    refine wd (does_load on_uint64 rfl ((S.rdO 0).one (at_some (0 : Int) (inb_ex hi41)) rfl)) ?_
    refine wd (does_ge rfl rfl) ?_
    refine wl_nil ?_
    refine wc_if rfl (fun hc42 => ?_) (fun hc42 => ?_)
    · replace H := if_t hc42 H
      refine wc_exit ?_
      replace S : St A N w w38 [oT a6 r20.1, oR a7 r3.2.1, oB b2 T_Sq (Sq.C x12_1)] [fS 4 Nd.C s_0 a0, fS 1 IC s_2 a2, oTz] := S.arr [2, 4, 5] [0, 1, 2]
      obtain rfl := Option.some.inj H
      exact ⟨rfl, (((((((((((((((((((((((((((((((((((((((((((((Dif.self _ _ _).upd rfl _).upd rfl _).upd rfl _).upd rfl _).upd rfl _).upd rfl _).upd rfl _).upd rfl _).upd rfl _).upd rfl _).mask rfl _).upd rfl _).upd rfl _).upd rfl _).upd rfl _).upd rfl _).upd rfl _).upd rfl _).mask rfl _).upd rfl _).upd rfl _).upd rfl _).upd rfl _).upd rfl _).upd rfl _).upd rfl _).upd rfl _).upd rfl _).upd rfl _).upd rfl _).upd rfl _).upd rfl _).upd rfl _).upd rfl _).upd rfl _).upd rfl _).upd rfl _).upd rfl _).upd rfl _).upd rfl _).upd rfl _).upd rfl _).upd rfl _).upd rfl _), (r20.1, x12_1), e12, S⟩
    replace H := if_f hc42 H
    refine wc_skip ?_
    refine wc_seq (wc_seq (wc_region ?_))
    refine wd (does_as_i rfl) ?_
    refine wl_nil ?_
    obtain ⟨o43, e43, Ho43⟩ := bind_ex H
    clear H
    refine wc_cutq [6, 16, 65, 66, 67, 68, 69, 70, 71, 72, 73, 74, 75, 76, 77, 78, 79, 80, 81, 82, 83, 84, 85, 86, 87, 88, 89, 90] (fun fr W => ∃ s43 : Sq, o43 = .inl s43 ∧ St A N w W [oS T_uint64 1 (ic .u64) s40 r37, oR (some ⟨b32, 0, none⟩) (some r27), oT a6 r20.1, oS T_Sq 17 Sq.C s23 r20.2.1, oR a7 r3.2.1, oB b2 T_Sq (Sq.C s43)] [fS 4 Nd.C s_0 a0, fS 1 IC s_2 a2, oTz]) ?_ ?_
    · refine wc_block ?_
      refine wc_loopm (α := Nat × Int × Sq) [6, 16, 65, 66, 67, 68, 69, 70, 71, 72, 73, 74, 75, 76, 77, 78, 79, 80, 81, 82, 83, 84, 85, 86, 87, 88, 89, 90] (fun x fr W => (x.1 : Int) = (r20.2.1.length : Int) - x.2.1 ∧ 0 ≤ x.2.1 ∧ forN (fun i s => law09_RuleFalls.b1 r27 r20 k i s) x.1 x.2.1 x.2.2 = some o43 ∧ fr 16 = .int .i64 x.2.1 ∧ St A N w W [oS T_uint64 1 (ic .u64) s40 r37, oR (some ⟨b32, 0, none⟩) (some r27), oT a6 r20.1, oS T_Sq 17 Sq.C s23 r20.2.1, oR a7 r3.2.1, oB b2 T_Sq (Sq.C (x.2.2))] [fS 4 Nd.C s_0 a0, fS 1 IC s_2 a2, oTz]) (fun x => x.1) (((r20.2.1.length : Int) - 0).toNat, 0, x12_1) ⟨(by dsimp only; have hle := Int.natCast_nonneg (r20.2.1.length); omega), (Int.le_refl _), (by dsimp only; exact e43), rfl, S⟩ ?_
      rintro ⟨m43, i43, x43_0⟩ g43 u43 ⟨hm43, hl43, e43, q43_i, S⟩
      try dsimp only at hm43
      try dsimp only at hl43
      try dsimp only at e43
      try dsimp only at S
      try dsimp only at q43_i
      refine wc_seq (wc_seq (wc_region ?_))
      refine wd (does_mv_i q43_i) ?_
      refine wd (does_mv_l rfl) ?_
      refine wd (does_lenR sl_L_api_Seq rfl (S.rdO 3)) ?_
      refine wd (does_lt rfl rfl) ?_
      refine wl_nil ?_
      refine wc_if rfl (fun hc44 => ?_) (fun hc44 => ?_)
      rotate_left
      · refine wc_exit ?_
        have hge : (r20.2.1.length : Int) ≤ i43 := Int.not_lt.1 (of_decide_eq_false hc44)
        obtain rfl : m43 = 0 := by omega
        replace e43 := forN_0 e43
        exact ⟨rfl, (((((Dif.self _ _ _).upd rfl _).upd rfl _).upd rfl _).upd rfl _), x43_0, e43, S⟩
      refine wc_skip ?_
      have hlt43 : i43 < (r20.2.1.length : Int) := of_decide_eq_true hc44
      obtain ⟨m43, rfl⟩ : ∃ m, m43 = m + 1 := ⟨m43 - 1, by omega⟩
      obtain ⟨q43, H, e43⟩ := forN_s e43
      unfold law09_RuleFalls.b1 at H
      try dsimp only at H
      have hb43 := (S.lenO 3)
      refine wc_seq ?_
      refine wc_block ?_
      refine wc_seq ?_
      obtain ⟨r46, er46, H⟩ := bind_ex H
      obtain ⟨hg48, H⟩ := chk_ex H
      obtain ⟨r49, er49, H⟩ := bind_ex H
      refine wc_semi 16 [13]
        (fun i v u => match i with
        | 13 => ∃ sl, v = SlV.v sl ∧ (Rd u 1 sl (r49.map (ic .u64)) ∧ r49.length ≤ 140737488355328) ∧ (∀ j, sl.fp j → u43.heap.size ≤ j)
        | _ => True) hmix (by kernel_rfl) (by kernel_rfl) ?_ ?_
      · intro i v u u' hi hx hv
        match i, hv with
        | 13, ⟨b, e1, hr, hl⟩ => exact ⟨b, e1, ⟨hr.1.ext hx, hr.2⟩, hl⟩
        | 0, _ => exact trivial
        | 1, _ => exact trivial
        | 2, _ => exact trivial
        | 3, _ => exact trivial
        | 4, _ => exact trivial
        | 5, _ => exact trivial
        | 6, _ => exact trivial
        | 7, _ => exact trivial
        | 8, _ => exact trivial
        | 9, _ => exact trivial
        | 10, _ => exact trivial
        | 11, _ => exact trivial
        | 12, _ => exact trivial
        | _ + 14, _ => exact trivial
      refine wm_does (fun v K => does_mv_p rfl) rfl ?_
      refine wm_does (fun v K => does_mv_l rfl) rfl ?_
      refine wm_does (fun v K => does_mv_i q43_i) rfl ?_
      refine wm_does (fun v K => does_indexR sl_L_api_Seq rfl rfl ((S.ext K).rdO 3) (And.intro (show 0 ≤ i43 by omega) (show i43 < (r20.2.1.length : Int) from hlt43)).1 (And.intro (show 0 ≤ i43 by omega) (show i43 < (r20.2.1.length : Int) from hlt43)).2) rfl ?_
      refine wm_does (fun v K => does_load_agg ag_Sq rfl (((S.ext K).rdO 3).at (at_some Sq.z (And.intro (show 0 ≤ i43 by omega) (show i43 < (r20.2.1.length : Int) from hlt43)))) (Sq.len _)) rfl ?_
      refine wm_call (fun v => does_call ca_ref09_Right) (fun v K => (have ⟨M, SS⟩ := (S.ext K).lend ((.o 1 rfl .nil)); quiet (ref09_Right_st SS er46) (fun v w' h => ⟨h.1, _, _, h.2⟩))) rfl ?_
      refine wm_does (fun v K => does_not rfl) rfl ?_
      refine wm_does (fun v K => does_mv_b rfl) rfl ?_
      refine wm_guard (j := 7) (pol := false) rfl rfl rfl (fun hg v K => does_mv_p rfl) rfl ?_
      refine wm_guard (j := 7) (pol := false) rfl rfl rfl (fun hg v K => does_mv_l rfl) rfl ?_
      refine wm_guard (j := 7) (pol := false) rfl rfl rfl (fun hg v K => does_mv_i q43_i) rfl ?_
      refine wm_guard (j := 7) (pol := false) rfl rfl rfl (fun hg v K => does_indexR sl_L_api_Seq (gv_yes hg) (gv_yes hg) ((S.ext K).rdO 3) (And.intro (show 0 ≤ i43 by omega) (show i43 < (r20.2.1.length : Int) from hlt43)).1 (And.intro (show 0 ≤ i43 by omega) (show i43 < (r20.2.1.length : Int) from hlt43)).2) rfl ?_
      refine wm_guard (j := 7) (pol := false) rfl rfl rfl (fun hg v K => does_load_agg ag_Sq (gv_yes hg) (((S.ext K).rdO 3).at (at_some Sq.z (And.intro (show 0 ≤ i43 by omega) (show i43 < (r20.2.1.length : Int) from hlt43)))) (Sq.len _)) rfl ?_
      refine wm_gon (j := 7) (pol := false) rfl rfl (fun _ => rfl) (by simpa using hg48) rfl ?_
      refine wm_newcall (fun g v K G => (have ⟨M, SS⟩ := (S.ext K).lend ((.o 1 rfl .nil)); ⟨_, _, does_callg ca_ref09_Weights (cons2 (gv_yes (by simpa using hg48)) (cons2 (gv_yes (by simpa using hg48)) rfl)), newc (ref09_Weights_st SS er49) fun _ _ ⟨s', hv, h⟩ => ⟨h.frame, s', hv, h.newS.1, fun i hi => by have := h.newS.2 i hi; have := K.size; omega⟩⟩)) rfl ?_
      refine wm_guard (j := 7) (pol := false) rfl rfl rfl (fun hg v K => does_mv_p rfl) rfl ?_
      refine wm_guard (j := 7) (pol := false) rfl rfl rfl (fun hg v K => does_load_agg ag_Sq rfl (((S.ext K).blk 5).all _ (Sq.len _)) (Sq.len _)) rfl ?_
      refine wm_nil fun g w51 K hV => ?_
      obtain ⟨s50, hv5213, hr13, hf13⟩ := hV 13 rfl (by decide)
      replace S : St A N w w51 [oS T_uint64 1 (ic .u64) s40 r37, oR (some ⟨b32, 0, none⟩) (some r27), oT a6 r20.1, oS T_Sq 17 Sq.C s23 r20.2.1, oR a7 r3.2.1, oB b2 T_Sq (Sq.C x43_0)] [fS 1 (ic .u64) s50 r49, fS 4 Nd.C s_0 a0, fS 1 IC s_2 a2, oTz] := S.addZs K (.s hr13.1 hr13.2 hf13 .nil)
      clear K hV
      obtain ⟨hg53, H⟩ := chk_ex H
      refine wl_gon (j := 7) (pol := false) rfl rfl rfl (by decide) (by simpa using hg53) ?_
      obtain ⟨r54, er54, H⟩ := bind_ex H
      obtain ⟨B56, MB56, SB56, back⟩ := S.calln 0 ((.o 1 rfl .nil))
      refine wl_call (does_callg ca_ref09_Weights (cons2 (gv_yes (by simpa using hg53)) (cons2 (gv_yes (by simpa using hg53)) rfl))) (by decide) (ref09_Weights_st SB56 er54) ?_
      rintro _ w55 ⟨s57, rfl, S2⟩
      replace S : St A N w w55 [oS T_uint64 1 (ic .u64) s57 r54, oS T_uint64 1 (ic .u64) s40 r37, oR (some ⟨b32, 0, none⟩) (some r27), oT a6 r20.1, oS T_Sq 17 Sq.C s23 r20.2.1, oR a7 r3.2.1, oB b2 T_Sq (Sq.C x43_0)] [fS 1 (ic .u64) s50 r49, fS 4 Nd.C s_0 a0, fS 1 IC s_2 a2, oTz] := back _ _ _ _ S2 rfl
      clear back S2 SB56
      obtain ⟨r58, er58, H⟩ := bind_ex H
      refine wl_gcall (j := 7) (pol := false) rfl rfl rfl (by decide) (fun hg => does_callg ca_ref09_Less (cons2 hv5213 (cons2 rfl rfl))) (by decide) (fun hg => (have ⟨M, SS⟩ := S.lend ((.z 0 rfl (.s 0 rfl .nil))); quiet (ref09_Less_st SS (if_t (by simpa using hg) er58)) (fun v w' h => ⟨h.1, _, _, h.2⟩))) fun w59 hw59 => ?_
      replace S := S.ext hw59
      refine wl_guard (j := 7) (pol := false) rfl rfl rfl (by decide) (fun hg => does_not (gv_yes hg)) (by decide) ?_
      refine wd (does_or rfl (fun hp => (gv_yes (and_1 hp)))) ?_
      refine wl_nil ?_
      refine wc_if rfl (fun hc60 => ?_) (fun hc60 => ?_)
      · replace H := if_t hc60 H
        refine wc_seq (wc_region ?_)
        refine wd (does_as_b rfl) ?_
        refine wl_nil ?_
        refine wc_ret ?_
        refine ⟨_, (rets1 (retOne_tmp rfl)), ?_⟩
        replace S : St A N w w59 [] [] := S.arr [] []
        obtain rfl := Option.some.inj H
        obtain rfl := e43
        obtain rfl := aft_r Ho43
        obtain rfl := e12
        obtain rfl := aft_r Ho12
        exact ⟨rfl, S⟩
      replace H := if_f hc60 H
      refine wc_skip ?_
      refine wc_region ?_
      refine wd (does_mv_i q43_i) ?_
      refine wd (does_addc rfl rfl (c := i43 + 1) rfl (by omega) (by omega)) ?_
      refine wd (does_as_i rfl) ?_
      refine wl_nil ?_
      replace S : St A N w w59 [oS T_uint64 1 (ic .u64) s40 r37, oR (some ⟨b32, 0, none⟩) (some r27), oT a6 r20.1, oS T_Sq 17 Sq.C s23 r20.2.1, oR a7 r3.2.1, oB b2 T_Sq (Sq.C x43_0)] [fS 4 Nd.C s_0 a0, fS 1 IC s_2 a2, oTz] := S.arr [1, 2, 3, 4, 5, 6] [1, 2, 3]
      obtain rfl := Option.some.inj H
      exact ⟨rfl, ((((((((((((((((((((((((((((Dif.self _ _ _).upd rfl _).upd rfl _).upd rfl _).upd rfl _).upd rfl _).upd rfl _).upd rfl _).upd rfl _).upd rfl _).upd rfl _).upd rfl _).upd rfl _).upd rfl _).upd rfl _).upd rfl _).upd rfl _).upd rfl _).upd rfl _).upd rfl _).mask rfl _).upd rfl _).upd rfl _).upd rfl _).upd rfl _).upd rfl _).upd rfl _).upd rfl _), (m43, i43 + 1, x43_0), ⟨(by dsimp only; omega), (by dsimp only; omega), e43, rfl, S⟩, by dsimp only; omega⟩
    rintro g61 u62 ⟨s43, rfl, S⟩
    have H := Ho43
    dsimp only [aft] at H
    refine wc_region ?_
    refine wd (does_mv_l rfl) ?_
    refine wd (does_mv_l rfl) ?_
    refine wd (does_mv_i q12_i) ?_
    refine wd (does_indexR sl_L_int rfl rfl (S.rd 1) (And.intro (show 0 ≤ i12 by omega) (show i12 < (a2.length : Int) from hlt12)).1 (And.intro (show 0 ≤ i12 by omega) (show i12 < (a2.length : Int) from hlt12)).2) ?_
    refine wd (does_load on_int rfl ((S.rd 1).one (at_some (0 : Int) (And.intro (show 0 ≤ i12 by omega) (show i12 < (a2.length : Int) from hlt12))) rfl)) ?_
    refine wd (does_conv un_int un_uint64 rfl) ?_
    refine wd (does_quo rfl rfl (by decide)) ?_
    refine wd (does_mv_l rfl) ?_
    refine wd (does_lenR sl_L_api_Seq rfl (S.rdO 3)) ?_
    refine wd (does_conv un_int un_uint64 rfl) ?_
    obtain ⟨hz65, H⟩ := chk_ex H
    refine wd (does_rem rfl rfl (of_decide_eq_true hz65)) ?_
    refine wd (does_conv un_uint64 un_int rfl) ?_
    obtain ⟨hi66, H⟩ := chk_ex H
    refine wd (does_indexR sl_L_api_Seq rfl rfl (S.rdO 3) (inb_ex hi66).1 (inb_ex hi66).2) ?_
    refine wd (does_load_agg ag_Sq rfl ((S.rdO 3).at (at_some Sq.z (inb_ex hi66))) (Sq.len _)) ?_
    refine wl_store_agg ag_Sq rfl rfl (S.blk 5) (Sq.len _) (by rw [Sq.len]; decide) (Sq.one _) (store_all (Sq.len _)) fun w67 B hw67 zw67 => ?_
    replace S : St A N w w67 [oB b2 T_Sq (Sq.C (at_ Sq.z r20.2.1 (IntKind.i64.wrap (Int.tmod (IntKind.u64.wrap (Int.tdiv (IntKind.u64.wrap (at_ (0 : Int) a2 i12)) 7)) (IntKind.u64.wrap (r20.2.1.length : Int)))))), oS T_uint64 1 (ic .u64) s40 r37, oR (some ⟨b32, 0, none⟩) (some r27), oT a6 r20.1, oS T_Sq 17 Sq.C s23 r20.2.1, oR a7 r3.2.1] [fS 4 Nd.C s_0 a0, fS 1 IC s_2 a2, oTz] := S.store 5 B hw67
    clear B
    refine wl_nil ?_
    refine wc_region ?_
    refine wd (does_mv_i q12_i) ?_
    refine wd (does_addc rfl rfl (c := i12 + 1) rfl (by omega) (by omega)) ?_
    refine wd (does_as_i rfl) ?_
    refine wl_nil ?_
    replace S : St A N w w67 [oT a6 r20.1, oR a7 r3.2.1, oB b2 T_Sq (Sq.C (at_ Sq.z r20.2.1 (IntKind.i64.wrap (Int.tmod (IntKind.u64.wrap (Int.tdiv (IntKind.u64.wrap (at_ (0 : Int) a2 i12)) 7)) (IntKind.u64.wrap (r20.2.1.length : Int))))))] [fS 4 Nd.C s_0 a0, fS 1 IC s_2 a2, oTz] := S.arr [3, 5, 0] [0, 1, 2]
    obtain rfl := Option.some.inj H
    exact ⟨rfl, ((((((((((((((((((((((((((((((((((((((((((((((((((((((((((((((((Dif.self _ _ _).upd rfl _).upd rfl _).upd rfl _).upd rfl _).upd rfl _).upd rfl _).upd rfl _).upd rfl _).upd rfl _).upd rfl _).mask rfl _).upd rfl _).upd rfl _).upd rfl _).upd rfl _).upd rfl _).upd rfl _).upd rfl _).mask rfl _).upd rfl _).upd rfl _).upd rfl _).upd rfl _).upd rfl _).upd rfl _).upd rfl _).upd rfl _).upd rfl _).upd rfl _).upd rfl _).upd rfl _).upd rfl _).upd rfl _).upd rfl _).upd rfl _).upd rfl _).upd rfl _).upd rfl _).upd rfl _).upd rfl _).upd rfl _).upd rfl _).upd rfl _).upd rfl _).upd rfl _).mask rfl _).upd rfl _).upd rfl _).upd rfl _).upd rfl _).upd rfl _).upd rfl _).upd rfl _).upd rfl _).upd rfl _).upd rfl _).upd rfl _).upd rfl _).upd rfl _).upd rfl _).upd rfl _).upd rfl _).upd rfl _), (m12, i12 + 1, (r20.1, at_ Sq.z r20.2.1 (IntKind.i64.wrap (Int.tmod (IntKind.u64.wrap (Int.tdiv (IntKind.u64.wrap (at_ (0 : Int) a2 i12)) 7)) (IntKind.u64.wrap (r20.2.1.length : Int)))))), ⟨(by dsimp only; omega), (by dsimp only; omega), e12, rfl, S⟩, by dsimp only; omega⟩
  rintro g68 u69 ⟨s12, rfl, S⟩
  have H := Ho12
  dsimp only [aft] at H
  refine wc_seq (wc_region ?_)
  obtain ⟨r70, er70, H⟩ := bind_ex H
  obtain ⟨B72, MB72, SB72, back⟩ := S.calln 0 ((.z 2 rfl .nil))
  refine wl_call (does_call ca_law09_heads) (by decide) (law09_heads_st SB72 er70) ?_
  rintro _ w71 ⟨rfl, S2⟩
  replace S : St A N w w71 [oT a6 s12.1, oR a7 r3.2.1, oB b2 T_Sq (Sq.C s12.2)] [fS 4 Nd.C s_0 a0, fS 1 IC s_2 a2, oTz] := back _ _ _ _ S2 rfl
  clear back S2 SB72
  refine wd (does_as_b rfl) ?_
  refine wl_nil ?_
  refine wc_ret ?_
  refine ⟨_, (rets1 (retOne_tmp rfl)), ?_⟩
  replace S : St A N w w71 [] [] := S.arr [] []
  obtain rfl := Option.some.inj H
  exact ⟨rfl, S⟩
end Go.Proofs.YtjjkhjieegmphaaDoor
end
section
namespace Go.Proofs.YtjjkhjieegmphaaDoor
open Gw
set_option linter.unusedVariables false
set_option linter.unusedSimpArgs false
theorem forE_find {α σ ρ : Type} {b : α → σ → Option (Stp σ ρ)} {p : α → Bool} {r : α → ρ} : ∀ (l : List α) (s : σ), (∀ x ∈ l, b x s = some (if p x then .ret (r x) else .go s)) → forE b l s = some (match l.find? p with | some x => .inr (r x) | none => .inl s)
  | [], s, _ => rfl
  | x :: l, s, h => by
    rw [forE, h x (by simp)]
    cases hp : p x with
    | true => simp [hp, List.find?_cons]
    | false => simpa [hp, List.find?_cons] using forE_find l s fun y hy => h y (by simp [hy])
theorem forN_find {σ ρ : Type} {b : Int → σ → Option (Stp σ ρ)} {p : Nat → Bool} {r : Nat → ρ} : ∀ (n i : Nat) (s : σ), (∀ j : Nat, i ≤ j → j < i + n → b j s = some (if p j then .ret (r j) else .go s)) → forN b n i s = some (match (List.range' i n).find? p with | some j => .inr (r j) | none => .inl s)
  | 0, i, s, _ => rfl
  | n + 1, i, s, h => by
    rw [forN, h i (Nat.le_refl _) (by omega), List.range'_succ]
    cases hp : p i with
    | true => simp [hp, List.find?_cons]
    | false =>
      have := forN_find n (i + 1) s fun j h1 h2 => h j (by omega) (by omega)
      simpa [hp, List.find?_cons] using this
theorem forE_two {b : Nat → List Int × List Int → Option (Stp (List Int × List Int) Empty)} {p : Nat → Bool} : ∀ (l : List Nat) (m : Nat) (x y : List Int), (∀ (j : Nat) (x y : List Int), j ∈ l → x.length ≤ 2 + 1024 → y.length ≤ 2 + 1024 → b j (x, y) = some (.go (if p j then (x ++ [(j : Int)], y ++ [13]) else (x, y)))) → x.length + l.length ≤ 2 + 1024 → y.length + l.length ≤ 2 + 1024 →
    forE b l (x, y) = some (.inl (x ++ (l.filter p).map (fun (j : Nat) => (j : Int)), y ++ (l.filter p).map fun _ => 13))
  | [], m, x, y, _, _, _ => by simp [forE]
  | j :: l, m, x, y, h, hx, hy => by
    simp only [List.length_cons] at hx hy
    rw [forE, h j x y (by simp) (by omega) (by omega)]
    cases hp : p j with
    | true =>
      have := forE_two (b := b) (p := p) l m (x ++ [(j : Int)]) (y ++ [13]) (fun i x y h1 => h i x y (by simp [h1])) (by simp; omega) (by simp; omega)
      simpa [hp] using this
    | false =>
      have := forE_two (b := b) (p := p) l m x y (fun i x y h1 => h i x y (by simp [h1])) (by omega) (by omega)
      simpa [hp] using this
/-- what stands in a set, found by going through all numbers -/
theorem list_find {b : Bits} {n : Nat} (hn : n ≤ 1024) (h : ∀ j ∈ b.list, j < n) (p : Nat → Bool) : b.list.find? p = (List.range n).find? fun (j : Nat) => b.has j && p j := by
  have h1 : b.list = (List.range n).filter fun (j : Nat) => b.has j := by
    unfold Bits.list
    rw [show (1024 : Nat) = n + (1024 - n) by omega, List.range_add, List.filter_append, List.append_right_eq_self]
    refine List.filter_eq_nil_iff.2 fun x hx hb => ?_
    obtain ⟨k, hk, rfl⟩ := List.mem_map.1 hx
    have := h (n + k) (Bits.mem_list.2 ⟨by have := List.mem_range.1 hk; omega, hb⟩)
    omega
  rw [h1, List.find?_filter]
  refine congrArg (fun q => (List.range n).find? q) (funext fun a => ?_)
  cases b.has a <;> cases p a <;> simp
/-- the program's node -/
abbrev nd (M : List Nd) (i : Int) : Nd := (nodeS M i).1
theorem nd_at {M : List Nd} {i : Int} (h : inb i M.length = true) : at_ Nd.z M i = nd M i := by
  have h := inb_ex h
  unfold nd nodeS hasRow at_
  simp [h]
theorem node_some (M : List Nd) (i : Int) : rule_node.f (some M) i = some (nd M i) := by simp [rule_node.f, formula_Table_Node.f]
/-- the rule that stands on a row on the left side -/
def onV (M : List Nd) (b : Bits) (i : Int) : Int :=
  if (nd M i).kind = 2 then 1 else if (nd M i).kind = 3 then 3 else if (nd M i).kind = 4 then 10 else if (nd M i).kind = 5 then
    (if (nd M (nd M i).l).kind = 1 then (if b.has (nd M i).l then 4 else 0) else if (nd M (nd M i).l).kind = 2 then 5 else if (nd M (nd M i).l).kind = 3 then 6 else if (nd M (nd M i).l).kind = 4 then 7 else if (nd M (nd M i).l).kind = 5 then 13 else 0)
  else 0
theorem on_some {M : List Nd} {s : Sq} (hb : s.left.okB = true) (i : Int) : rule_on.f (some M) s i = some (onV M s.left i) := by
  unfold rule_on.f onV
  simp only [node_some, bits_Has.f, hb, chk, Option.bind_some, decide_eq_true_eq, if_true]
  repeat (first | rfl | split)
/-- a rule fits a row -/
def fitsV (M : List Nd) (s : Sq) (r i : Int) : Bool :=
  if inb i M.length = false then false else if r = 2 then decide (i = s.goal) && s.left.has i else if r = 8 then decide (i = s.goal) && decide ((nd M i).kind = 5) else if r = 9 then decide (i = s.goal) && decide ((nd M i).kind = 3)
  else if r = 11 ∨ r = 12 then decide (i = s.goal) && decide ((nd M i).kind = 4) else decide (r ≠ 0) && s.left.has i && decide (onV M s.left i = r)
theorem fits_some {M : List Nd} {s : Sq} (hb : s.left.okB = true) (r i : Int) : rule_fits.f (some M) s r i = some (fitsV M s r i) := by
  unfold rule_fits.f fitsV inb
  by_cases h0 : i < 0
  · have : ¬ 0 ≤ i := by omega
    simp [h0, this]
  · by_cases h1 : (M.length : Int) ≤ i
    · have h2 : ¬ i < M.length := by omega
      simp [h0, formula_Table_Len.f, h1, h2]
    · have h2 : i < M.length := by omega
      have h3 : 0 ≤ i := by omega
      simp only [h0, formula_Table_Len.f, h1, h2, h3, node_some, on_some hb, bits_Has.f, hb, chk, decide_false, decide_true, Bool.not_false, if_true, Option.map_some, Option.bind_some, Bool.false_or, Bool.and_self, Bool.true_eq_false, if_false, decide_eq_true_eq, Bool.false_eq_true]
      by_cases r2 : r = 2
      · simp [r2]
      by_cases r8 : r = 8
      · simp [r8]
      by_cases r9 : r = 9
      · simp [r9]
      by_cases r11 : r = 11
      · simp [r11]
      by_cases r12 : r = 12
      · simp [r12]
      simp only [r2, r8, r9, r11, r12, if_false, decide_false, Option.bind_some, or_self, Bool.false_eq_true]
      by_cases hr : r = 0
      · simp [hr]
      · cases s.left.has i <;> simp [hr]
/-- a table in which each row stands behind its parts -/
structure Wf (M : List Nd) : Prop where
  len : M.length ≤ 1024
  nodup : M.Nodup
  kind : ∀ i : Int, inb i M.length = true → (nd M i).kind = 1 ∨ (nd M i).kind = 2 ∨ (nd M i).kind = 3 ∨ (nd M i).kind = 4 ∨ (nd M i).kind = 5
  kids : ∀ i : Int, inb i M.length = true → (nd M i).kind = 3 ∨ (nd M i).kind = 4 ∨ (nd M i).kind = 5 → (0 ≤ (nd M i).l ∧ (nd M i).l < i) ∧ 0 ≤ (nd M i).r ∧ (nd M i).r < i
theorem Wf.left {M : List Nd} (h : Wf M) {i : Int} (hi : inb i M.length = true) (hk : (nd M i).kind = 3 ∨ (nd M i).kind = 4 ∨ (nd M i).kind = 5) : inb (nd M i).l M.length = true := by
  have h1 := h.kids i hi hk
  have h2 := inb_ex hi
  simp only [inb, Bool.and_eq_true, decide_eq_true_eq]; omega
theorem Wf.right {M : List Nd} (h : Wf M) {i : Int} (hi : inb i M.length = true) (hk : (nd M i).kind = 3 ∨ (nd M i).kind = 4 ∨ (nd M i).kind = 5) : inb (nd M i).r M.length = true := by
  have h1 := h.kids i hi hk
  have h2 := inb_ex hi
  simp only [inb, Bool.and_eq_true, decide_eq_true_eq]; omega
theorem docHas (M : List Nd) (i : Int) : ref03_T_Has.f (some M) i = some (inb i M.length) := by simp [ref03_T_Has.f, chk, inb]
theorem docKind {M : List Nd} {i : Int} (hi : inb i M.length = true) : ref09_kind.f (some M) i = some (nd M i).kind := by
  simp only [ref09_kind.f, chk, Option.isSome_some, Option.getD_some, hi, if_true, nd_at hi]
theorem docFits {M : List Nd} {s : Sq} (hw : Wf M) (hb : s.left.okB = true) (r i : Int) : ref09_Fits.f (some M) s r i = some (fitsV M s r i) := by
  unfold ref09_Fits.f
  rw [docHas]
  cases hi : inb i M.length with
  | false => simp [fitsV, hi]
  | true =>
    simp only [Option.bind_some, Bool.not_true, Bool.false_eq_true, if_false, Option.isSome_some, Option.getD_some, chk, if_true, nd_at hi, ref05_Has.f, hb, hi, fitsV, Bool.true_eq_false]
    have hk := hw.kind i hi
    rcases hk with k | k | k | k | k
    · have ho : onV M s.left i = 0 := by simp [onV, k]
      by_cases r1 : r = 1
      · subst r1; cases s.left.has i <;> simp [k, ho]
      by_cases r2 : r = 2
      · subst r2; cases s.left.has i <;> simp [k, ho]
      by_cases r3 : r = 3
      · subst r3; cases s.left.has i <;> simp [k, ho]
      by_cases r4 : r = 4
      · subst r4; cases s.left.has i <;> simp [k, ho]
      by_cases r5 : r = 5
      · subst r5; cases s.left.has i <;> simp [k, ho]
      by_cases r6 : r = 6
      · subst r6; cases s.left.has i <;> simp [k, ho]
      by_cases r7 : r = 7
      · subst r7; cases s.left.has i <;> simp [k, ho]
      by_cases r8 : r = 8
      · subst r8; cases s.left.has i <;> simp [k, ho]
      by_cases r9 : r = 9
      · subst r9; cases s.left.has i <;> simp [k, ho]
      by_cases r10 : r = 10
      · subst r10; cases s.left.has i <;> simp [k, ho]
      by_cases r11 : r = 11
      · subst r11; cases s.left.has i <;> simp [k, ho]
      by_cases r12 : r = 12
      · subst r12; cases s.left.has i <;> simp [k, ho]
      by_cases r13 : r = 13
      · subst r13; cases s.left.has i <;> simp [k, ho]
      simp only [k, ho]
      simp [r1, r2, r3, r4, r5, r6, r7, r8, r9, r10, r11, r12, r13]
      try (intro h; omega)
    · have ho : onV M s.left i = 1 := by simp [onV, k]
      by_cases r1 : r = 1
      · subst r1; cases s.left.has i <;> simp [k, ho]
      by_cases r2 : r = 2
      · subst r2; cases s.left.has i <;> simp [k, ho]
      by_cases r3 : r = 3
      · subst r3; cases s.left.has i <;> simp [k, ho]
      by_cases r4 : r = 4
      · subst r4; cases s.left.has i <;> simp [k, ho]
      by_cases r5 : r = 5
      · subst r5; cases s.left.has i <;> simp [k, ho]
      by_cases r6 : r = 6
      · subst r6; cases s.left.has i <;> simp [k, ho]
      by_cases r7 : r = 7
      · subst r7; cases s.left.has i <;> simp [k, ho]
      by_cases r8 : r = 8
      · subst r8; cases s.left.has i <;> simp [k, ho]
      by_cases r9 : r = 9
      · subst r9; cases s.left.has i <;> simp [k, ho]
      by_cases r10 : r = 10
      · subst r10; cases s.left.has i <;> simp [k, ho]
      by_cases r11 : r = 11
      · subst r11; cases s.left.has i <;> simp [k, ho]
      by_cases r12 : r = 12
      · subst r12; cases s.left.has i <;> simp [k, ho]
      by_cases r13 : r = 13
      · subst r13; cases s.left.has i <;> simp [k, ho]
      have ho2 : ¬ (1 : Int) = r := by omega
      cases s.left.has i <;> simp [k, ho, ho2, r1, r2, r3, r4, r5, r6, r7, r8, r9, r10, r11, r12, r13]
      try omega
    · have ho : onV M s.left i = 3 := by simp [onV, k]
      by_cases r1 : r = 1
      · subst r1; cases s.left.has i <;> simp [k, ho]
      by_cases r2 : r = 2
      · subst r2; cases s.left.has i <;> simp [k, ho]
      by_cases r3 : r = 3
      · subst r3; cases s.left.has i <;> simp [k, ho]
      by_cases r4 : r = 4
      · subst r4; cases s.left.has i <;> simp [k, ho]
      by_cases r5 : r = 5
      · subst r5; cases s.left.has i <;> simp [k, ho]
      by_cases r6 : r = 6
      · subst r6; cases s.left.has i <;> simp [k, ho]
      by_cases r7 : r = 7
      · subst r7; cases s.left.has i <;> simp [k, ho]
      by_cases r8 : r = 8
      · subst r8; cases s.left.has i <;> simp [k, ho]
      by_cases r9 : r = 9
      · subst r9; cases s.left.has i <;> simp [k, ho]
      by_cases r10 : r = 10
      · subst r10; cases s.left.has i <;> simp [k, ho]
      by_cases r11 : r = 11
      · subst r11; cases s.left.has i <;> simp [k, ho]
      by_cases r12 : r = 12
      · subst r12; cases s.left.has i <;> simp [k, ho]
      by_cases r13 : r = 13
      · subst r13; cases s.left.has i <;> simp [k, ho]
      have ho2 : ¬ (3 : Int) = r := by omega
      cases s.left.has i <;> simp [k, ho, ho2, r1, r2, r3, r4, r5, r6, r7, r8, r9, r10, r11, r12, r13]
      try omega
    · have ho : onV M s.left i = 10 := by simp [onV, k]
      by_cases r1 : r = 1
      · subst r1; cases s.left.has i <;> simp [k, ho]
      by_cases r2 : r = 2
      · subst r2; cases s.left.has i <;> simp [k, ho]
      by_cases r3 : r = 3
      · subst r3; cases s.left.has i <;> simp [k, ho]
      by_cases r4 : r = 4
      · subst r4; cases s.left.has i <;> simp [k, ho]
      by_cases r5 : r = 5
      · subst r5; cases s.left.has i <;> simp [k, ho]
      by_cases r6 : r = 6
      · subst r6; cases s.left.has i <;> simp [k, ho]
      by_cases r7 : r = 7
      · subst r7; cases s.left.has i <;> simp [k, ho]
      by_cases r8 : r = 8
      · subst r8; cases s.left.has i <;> simp [k, ho]
      by_cases r9 : r = 9
      · subst r9; cases s.left.has i <;> simp [k, ho]
      by_cases r10 : r = 10
      · subst r10; cases s.left.has i <;> simp [k, ho]
      by_cases r11 : r = 11
      · subst r11; cases s.left.has i <;> simp [k, ho]
      by_cases r12 : r = 12
      · subst r12; cases s.left.has i <;> simp [k, ho]
      by_cases r13 : r = 13
      · subst r13; cases s.left.has i <;> simp [k, ho]
      have ho2 : ¬ (10 : Int) = r := by omega
      cases s.left.has i <;> simp [k, ho, ho2, r1, r2, r3, r4, r5, r6, r7, r8, r9, r10, r11, r12, r13]
      try omega
    · have hl := hw.left hi (.inr (.inr k))
      have hk2 := hw.kind _ hl
      rw [docKind hl]
      rcases hk2 with c | c | c | c | c
      · cases hh : s.left.has (nd M i).l with
        | true =>
          have ho : onV M s.left i = 4 := by simp [onV, k, c, hh]
          by_cases r1 : r = 1
          · subst r1; cases s.left.has i <;> simp [k, ho, c, hh]
          by_cases r2 : r = 2
          · subst r2; cases s.left.has i <;> simp [k, ho, c, hh]
          by_cases r3 : r = 3
          · subst r3; cases s.left.has i <;> simp [k, ho, c, hh]
          by_cases r4 : r = 4
          · subst r4; cases s.left.has i <;> simp [k, ho, c, hh]
          by_cases r5 : r = 5
          · subst r5; cases s.left.has i <;> simp [k, ho, c, hh]
          by_cases r6 : r = 6
          · subst r6; cases s.left.has i <;> simp [k, ho, c, hh]
          by_cases r7 : r = 7
          · subst r7; cases s.left.has i <;> simp [k, ho, c, hh]
          by_cases r8 : r = 8
          · subst r8; cases s.left.has i <;> simp [k, ho, c, hh]
          by_cases r9 : r = 9
          · subst r9; cases s.left.has i <;> simp [k, ho, c, hh]
          by_cases r10 : r = 10
          · subst r10; cases s.left.has i <;> simp [k, ho, c, hh]
          by_cases r11 : r = 11
          · subst r11; cases s.left.has i <;> simp [k, ho, c, hh]
          by_cases r12 : r = 12
          · subst r12; cases s.left.has i <;> simp [k, ho, c, hh]
          by_cases r13 : r = 13
          · subst r13; cases s.left.has i <;> simp [k, ho, c, hh]
          have ho2 : ¬ (4 : Int) = r := by omega
          cases s.left.has i <;> simp [k, ho, ho2, c, hh, r1, r2, r3, r4, r5, r6, r7, r8, r9, r10, r11, r12, r13]
          try omega
        | false =>
          have ho : onV M s.left i = 0 := by simp [onV, k, c, hh]
          by_cases r1 : r = 1
          · subst r1; cases s.left.has i <;> simp [k, ho, c, hh]
          by_cases r2 : r = 2
          · subst r2; cases s.left.has i <;> simp [k, ho, c, hh]
          by_cases r3 : r = 3
          · subst r3; cases s.left.has i <;> simp [k, ho, c, hh]
          by_cases r4 : r = 4
          · subst r4; cases s.left.has i <;> simp [k, ho, c, hh]
          by_cases r5 : r = 5
          · subst r5; cases s.left.has i <;> simp [k, ho, c, hh]
          by_cases r6 : r = 6
          · subst r6; cases s.left.has i <;> simp [k, ho, c, hh]
          by_cases r7 : r = 7
          · subst r7; cases s.left.has i <;> simp [k, ho, c, hh]
          by_cases r8 : r = 8
          · subst r8; cases s.left.has i <;> simp [k, ho, c, hh]
          by_cases r9 : r = 9
          · subst r9; cases s.left.has i <;> simp [k, ho, c, hh]
          by_cases r10 : r = 10
          · subst r10; cases s.left.has i <;> simp [k, ho, c, hh]
          by_cases r11 : r = 11
          · subst r11; cases s.left.has i <;> simp [k, ho, c, hh]
          by_cases r12 : r = 12
          · subst r12; cases s.left.has i <;> simp [k, ho, c, hh]
          by_cases r13 : r = 13
          · subst r13; cases s.left.has i <;> simp [k, ho, c, hh]
          cases s.left.has i <;> simp [k, ho, c, hh, r1, r2, r3, r4, r5, r6, r7, r8, r9, r10, r11, r12, r13]
          try omega
      · have ho : onV M s.left i = 5 := by simp [onV, k, c]
        by_cases r1 : r = 1
        · subst r1; cases s.left.has i <;> simp [k, ho, c]
        by_cases r2 : r = 2
        · subst r2; cases s.left.has i <;> simp [k, ho, c]
        by_cases r3 : r = 3
        · subst r3; cases s.left.has i <;> simp [k, ho, c]
        by_cases r4 : r = 4
        · subst r4; cases s.left.has i <;> simp [k, ho, c]
        by_cases r5 : r = 5
        · subst r5; cases s.left.has i <;> simp [k, ho, c]
        by_cases r6 : r = 6
        · subst r6; cases s.left.has i <;> simp [k, ho, c]
        by_cases r7 : r = 7
        · subst r7; cases s.left.has i <;> simp [k, ho, c]
        by_cases r8 : r = 8
        · subst r8; cases s.left.has i <;> simp [k, ho, c]
        by_cases r9 : r = 9
        · subst r9; cases s.left.has i <;> simp [k, ho, c]
        by_cases r10 : r = 10
        · subst r10; cases s.left.has i <;> simp [k, ho, c]
        by_cases r11 : r = 11
        · subst r11; cases s.left.has i <;> simp [k, ho, c]
        by_cases r12 : r = 12
        · subst r12; cases s.left.has i <;> simp [k, ho, c]
        by_cases r13 : r = 13
        · subst r13; cases s.left.has i <;> simp [k, ho, c]
        have ho2 : ¬ (5 : Int) = r := by omega
        cases s.left.has i <;> simp [k, ho, ho2, c, r1, r2, r3, r4, r5, r6, r7, r8, r9, r10, r11, r12, r13]
        try omega
      · have ho : onV M s.left i = 6 := by simp [onV, k, c]
        by_cases r1 : r = 1
        · subst r1; cases s.left.has i <;> simp [k, ho, c]
        by_cases r2 : r = 2
        · subst r2; cases s.left.has i <;> simp [k, ho, c]
        by_cases r3 : r = 3
        · subst r3; cases s.left.has i <;> simp [k, ho, c]
        by_cases r4 : r = 4
        · subst r4; cases s.left.has i <;> simp [k, ho, c]
        by_cases r5 : r = 5
        · subst r5; cases s.left.has i <;> simp [k, ho, c]
        by_cases r6 : r = 6
        · subst r6; cases s.left.has i <;> simp [k, ho, c]
        by_cases r7 : r = 7
        · subst r7; cases s.left.has i <;> simp [k, ho, c]
        by_cases r8 : r = 8
        · subst r8; cases s.left.has i <;> simp [k, ho, c]
        by_cases r9 : r = 9
        · subst r9; cases s.left.has i <;> simp [k, ho, c]
        by_cases r10 : r = 10
        · subst r10; cases s.left.has i <;> simp [k, ho, c]
        by_cases r11 : r = 11
        · subst r11; cases s.left.has i <;> simp [k, ho, c]
        by_cases r12 : r = 12
        · subst r12; cases s.left.has i <;> simp [k, ho, c]
        by_cases r13 : r = 13
        · subst r13; cases s.left.has i <;> simp [k, ho, c]
        have ho2 : ¬ (6 : Int) = r := by omega
        cases s.left.has i <;> simp [k, ho, ho2, c, r1, r2, r3, r4, r5, r6, r7, r8, r9, r10, r11, r12, r13]
        try omega
      · have ho : onV M s.left i = 7 := by simp [onV, k, c]
        by_cases r1 : r = 1
        · subst r1; cases s.left.has i <;> simp [k, ho, c]
        by_cases r2 : r = 2
        · subst r2; cases s.left.has i <;> simp [k, ho, c]
        by_cases r3 : r = 3
        · subst r3; cases s.left.has i <;> simp [k, ho, c]
        by_cases r4 : r = 4
        · subst r4; cases s.left.has i <;> simp [k, ho, c]
        by_cases r5 : r = 5
        · subst r5; cases s.left.has i <;> simp [k, ho, c]
        by_cases r6 : r = 6
        · subst r6; cases s.left.has i <;> simp [k, ho, c]
        by_cases r7 : r = 7
        · subst r7; cases s.left.has i <;> simp [k, ho, c]
        by_cases r8 : r = 8
        · subst r8; cases s.left.has i <;> simp [k, ho, c]
        by_cases r9 : r = 9
        · subst r9; cases s.left.has i <;> simp [k, ho, c]
        by_cases r10 : r = 10
        · subst r10; cases s.left.has i <;> simp [k, ho, c]
        by_cases r11 : r = 11
        · subst r11; cases s.left.has i <;> simp [k, ho, c]
        by_cases r12 : r = 12
        · subst r12; cases s.left.has i <;> simp [k, ho, c]
        by_cases r13 : r = 13
        · subst r13; cases s.left.has i <;> simp [k, ho, c]
        have ho2 : ¬ (7 : Int) = r := by omega
        cases s.left.has i <;> simp [k, ho, ho2, c, r1, r2, r3, r4, r5, r6, r7, r8, r9, r10, r11, r12, r13]
        try omega
      · have ho : onV M s.left i = 13 := by simp [onV, k, c]
        by_cases r1 : r = 1
        · subst r1; cases s.left.has i <;> simp [k, ho, c]
        by_cases r2 : r = 2
        · subst r2; cases s.left.has i <;> simp [k, ho, c]
        by_cases r3 : r = 3
        · subst r3; cases s.left.has i <;> simp [k, ho, c]
        by_cases r4 : r = 4
        · subst r4; cases s.left.has i <;> simp [k, ho, c]
        by_cases r5 : r = 5
        · subst r5; cases s.left.has i <;> simp [k, ho, c]
        by_cases r6 : r = 6
        · subst r6; cases s.left.has i <;> simp [k, ho, c]
        by_cases r7 : r = 7
        · subst r7; cases s.left.has i <;> simp [k, ho, c]
        by_cases r8 : r = 8
        · subst r8; cases s.left.has i <;> simp [k, ho, c]
        by_cases r9 : r = 9
        · subst r9; cases s.left.has i <;> simp [k, ho, c]
        by_cases r10 : r = 10
        · subst r10; cases s.left.has i <;> simp [k, ho, c]
        by_cases r11 : r = 11
        · subst r11; cases s.left.has i <;> simp [k, ho, c]
        by_cases r12 : r = 12
        · subst r12; cases s.left.has i <;> simp [k, ho, c]
        by_cases r13 : r = 13
        · subst r13; cases s.left.has i <;> simp [k, ho, c]
        have ho2 : ¬ (13 : Int) = r := by omega
        cases s.left.has i <;> simp [k, ho, ho2, c, r1, r2, r3, r4, r5, r6, r7, r8, r9, r10, r11, r12, r13]
        try omega
theorem find_congr {α : Type} {p q : α → Bool} : ∀ {l : List α}, (∀ x ∈ l, p x = q x) → l.find? p = l.find? q
  | [], _ => rfl
  | x :: l, h => by
    rw [List.find?_cons, List.find?_cons, h x (by simp), find_congr fun y hy => h y (by simp [hy])]
theorem any_find {α : Type} {p : α → Bool} : ∀ (l : List α), l.any p = (l.find? p).isSome
  | [] => rfl
  | x :: l => by
    rw [List.any_cons, List.find?_cons, any_find l]
    cases p x <;> rfl
theorem find_idx {α : Type} (l : List α) (d : α) (p : α → Bool) : l.find? p = ((List.range' 0 l.length).find? fun k => p (l.getD k d)).map fun k => l.getD k d := by
  have h : l = (List.range' 0 l.length).map fun k => l.getD k d := by
    refine List.ext_getElem? fun i => ?_
    by_cases hi : i < l.length
    · simp [hi]
    · simp [hi]
  conv => lhs; rw [h]
  rw [List.find?_map]; rfl
/-- the first row on the left side of which c holds -/
def firstV (M : List Nd) (s : Sq) (c : Int → Bool) : Option Nat := (List.range M.length).find? fun (j : Nat) => s.left.has j && c (onV M s.left j)
theorem firstV_some {M : List Nd} {s : Sq} {c : Int → Bool} {j : Nat} (h : firstV M s c = some j) : j < M.length ∧ s.left.has j = true ∧ c (onV M s.left j) = true := by
  have h1 := List.find?_some h
  have h2 := List.mem_of_find?_eq_some h
  simp only [Bool.and_eq_true] at h1
  exact ⟨List.mem_range.1 h2, h1.1, h1.2⟩
/-- what is chosen: the rule, the row -/
def applyV (M : List Nd) (s : Sq) : Int × Int :=
  match firstV M s (fun r => decide (r = 1)) with
  | some j => (1, j)
  | none => if s.left.has s.goal then (2, s.goal) else
    match firstV M s (fun r => decide (3 ≤ r) && decide (r ≤ 7)) with
    | some j => (onV M s.left j, j)
    | none => if (nd M s.goal).kind = 5 then (8, s.goal) else if (nd M s.goal).kind = 3 then (9, s.goal) else
      match firstV M s (fun r => decide (r = 10)) with
      | some j => (10, j)
      | none => (14, 0)
/-- a sequent that is one of the table's -/
structure Rt (M : List Nd) (s : Sq) : Prop where
  ok : s.left.okB = true
  left : ∀ j ∈ s.left.list, j < M.length
  goal : inb s.goal M.length = true
theorem least1 {M : List Nd} {s : Sq} (hM : M.length ≤ 1024) (h : Rt M s) : rule_least__rule_apply_1_1.f (some M) s = some (match firstV M s (fun r => decide (r = 1)) with | some j => ((⟨onV M s.left j, j⟩ : Fnd), true) | none => (Fnd.z, false)) := by
  unfold rule_least__rule_apply_1_1.f
  rw [h.ok, chk, if_pos rfl, forE_find (p := fun (j : Nat) => decide (onV M s.left j = 1)) (r := fun (j : Nat) => (true, (⟨onV M s.left j, j⟩ : Fnd))), list_find hM h.left]
  · unfold firstV
    cases (List.range M.length).find? fun (j : Nat) => s.left.has j && decide (onV M s.left j = 1) <;> rfl
  · intro x _
    simp [rule_least__rule_apply_1_1.b0, on_some h.ok, rule_apply_1_1.f]
    split <;> rfl
theorem least3 {M : List Nd} {s : Sq} (hM : M.length ≤ 1024) (h : Rt M s) : rule_least__rule_apply_3_1.f (some M) s = some (match firstV M s (fun r => decide (3 ≤ r) && decide (r ≤ 7)) with | some j => ((⟨onV M s.left j, j⟩ : Fnd), true) | none => (Fnd.z, false)) := by
  unfold rule_least__rule_apply_3_1.f
  rw [h.ok, chk, if_pos rfl, forE_find (p := fun (j : Nat) => decide (3 ≤ onV M s.left j) && decide (onV M s.left j ≤ 7)) (r := fun (j : Nat) => (true, (⟨onV M s.left j, j⟩ : Fnd))), list_find hM h.left]
  · unfold firstV
    cases (List.range M.length).find? fun (j : Nat) => s.left.has j && (decide (3 ≤ onV M s.left j) && decide (onV M s.left j ≤ 7)) <;> rfl
  · intro x _
    simp [rule_least__rule_apply_3_1.b0, on_some h.ok, rule_apply_3_1.f]
    split <;> rfl
theorem least6 {M : List Nd} {s : Sq} (hM : M.length ≤ 1024) (h : Rt M s) : rule_least__rule_apply_6_1.f (some M) s = some (match firstV M s (fun r => decide (r = 10)) with | some j => ((⟨onV M s.left j, j⟩ : Fnd), true) | none => (Fnd.z, false)) := by
  unfold rule_least__rule_apply_6_1.f
  rw [h.ok, chk, if_pos rfl, forE_find (p := fun (j : Nat) => decide (onV M s.left j = 10)) (r := fun (j : Nat) => (true, (⟨onV M s.left j, j⟩ : Fnd))), list_find hM h.left]
  · unfold firstV
    cases (List.range M.length).find? fun (j : Nat) => s.left.has j && decide (onV M s.left j = 10) <;> rfl
  · intro x _
    simp [rule_least__rule_apply_6_1.b0, on_some h.ok, rule_apply_6_1.f]
    split <;> rfl
theorem apply_some {M : List Nd} {s : Sq} (hM : M.length ≤ 1024) (h : Rt M s) : rule_apply.f (some M) s = some ⟨(applyV M s).1, (applyV M s).2⟩ := by
  unfold rule_apply.f rule_apply_1.f rule_apply_2.f rule_apply_3.f rule_apply_4.f rule_apply_5.f rule_apply_6.f applyV
  simp only [least1 hM h, least3 hM h, least6 hM h, node_some, bits_Has.f, h.ok, chk, if_true, Option.bind_some]
  cases h1 : firstV M s (fun r => decide (r = 1)) with
  | some j =>
    have := (firstV_some h1).2.2
    simp only [decide_eq_true_eq] at this
    simp [this]
  | none =>
    simp only [Bool.false_eq_true, if_false]
    by_cases hg : s.left.has s.goal = true
    · simp [hg]
    simp only [hg, if_false]
    cases h3 : firstV M s (fun r => decide (3 ≤ r) && decide (r ≤ 7)) with
    | some j => simp
    | none =>
      simp only [Bool.false_eq_true, if_false]
      by_cases h5 : (nd M s.goal).kind = 5
      · simp [h5]
      by_cases h6 : (nd M s.goal).kind = 3
      · simp [h6]
      simp only [h5, h6, decide_false, Bool.false_eq_true, if_false]
      cases h10 : firstV M s (fun r => decide (r = 10)) with
      | some j =>
        have := (firstV_some h10).2.2
        simp only [decide_eq_true_eq] at this
        simp [this]
      | none => simp
end Go.Proofs.YtjjkhjieegmphaaDoor
end
section
namespace Go.Proofs.YtjjkhjieegmphaaDoor
open Gw
set_option linter.unusedVariables false
set_option linter.unusedSimpArgs false
theorem inb_nat (j n : Nat) : inb (j : Int) n = decide (j < n) := by
  unfold inb
  rw [decide_eq_true (show 0 ≤ (j : Int) by omega), Bool.true_and, decide_eq_decide]
  omega
theorem list_eq {b : Bits} {n : Nat} (hn : n ≤ 1024) (h : ∀ j ∈ b.list, j < n) : b.list = (List.range n).filter fun (j : Nat) => b.has j := by
  unfold Bits.list
  rw [show (1024 : Nat) = n + (1024 - n) by omega, List.range_add, List.filter_append, List.append_right_eq_self]
  refine List.filter_eq_nil_iff.2 fun x hx hb => ?_
  obtain ⟨k, hk, rfl⟩ := List.mem_map.1 hx
  have := h (n + k) (Bits.mem_list.2 ⟨by have := List.mem_range.1 hk; omega, hb⟩)
  omega
/-- the sequent is one of the table's -/
def lookV (M : List Nd) (s : Sq) : Bool := (s.left.list.all fun j => decide (j < M.length)) && inb s.goal M.length
theorem lookV_rt {M : List Nd} {s : Sq} (hb : s.left.okB = true) (h : lookV M s = true) : Rt M s := by
  simp only [lookV, Bool.and_eq_true, List.all_eq_true, decide_eq_true_eq] at h
  exact ⟨hb, h.1, h.2⟩
theorem look_some {M : List Nd} {s : Sq} (hb : s.left.okB = true) : rule_look.f (some M) s = some (if lookV M s then 0 else 31) := by
  unfold rule_look.f
  simp only [formula_Table_Not_neg.f, Option.bind_some, hb, chk, if_true, show (decide ((31 : Int) = 1)) = false from rfl, Bool.false_eq_true, if_false]
  rw [forE_find (p := fun (j : Nat) => decide ((M.length : Int) ≤ (j : Int))) (r := fun _ => (31 : Int))]
  · have ha : (s.left.list.all fun j => decide (j < M.length)) = !(s.left.list.find? fun (j : Nat) => decide ((M.length : Int) ≤ (j : Int))).isSome := by
      rw [← any_find, List.all_eq_not_any_not]
      congr 2
      funext j
      by_cases hj : j < M.length
      · have : ¬ (M.length : Int) ≤ j := by omega
        simp [hj, this]
      · have : (M.length : Int) ≤ j := by omega
        simp [hj, this]
    unfold lookV
    rw [ha]
    cases s.left.list.find? fun (j : Nat) => decide ((M.length : Int) ≤ (j : Int)) with
    | some j => simp [fin]
    | none =>
      simp only [Option.bind_some, fin, Option.isSome_none, Bool.not_false, Bool.true_and, formula_Table_Len.f, Option.map_some]
      by_cases h0 : s.goal < 0
      · have h1 : ¬ 0 ≤ s.goal := by omega
        simp [h0, inb, h1]
      · have h1 : 0 ≤ s.goal := by omega
        by_cases h2 : (M.length : Int) ≤ s.goal
        · have h3 : ¬ s.goal < M.length := by omega
          simp [h0, inb, h1, h2, h3]
        · have h3 : s.goal < M.length := by omega
          simp [h0, inb, h1, h2, h3]
  · intro x _
    simp only [rule_look.b0, formula_Table_Len.f, Option.map_some, Option.bind_some]
    split <;> rfl
theorem docRight {M : List Nd} {s : Sq} (hb : s.left.okB = true) : ref09_Right.f (some M) s = some (lookV M s) := by
  unfold ref09_Right.f
  simp only [ref05_List.f, hb, chk, if_true, Option.bind_some]
  generalize hl : s.left.list.map (fun (n : Nat) => (n : Int)) = l
  have h1 := forN_find (b := fun i s_1 => ref09_Right.b0 (some M) l i) (p := fun k => !inb (l.getD k 0) M.length) (r := fun _ => false) l.length 0 () (by
    intro k _ hk
    unfold ref09_Right.b0 at_
    rw [Int.toNat_natCast, docHas]
    simp only [Option.bind_some]
    split <;> rfl)
  have e0 : (((l.length : Nat) : Int) - 0).toNat = l.length := by omega
  rw [e0, show (0 : Int) = ((0 : Nat) : Int) from rfl, h1, docHas]
  have ha : (s.left.list.all fun j => decide (j < M.length)) = !((List.range' 0 l.length).find? fun k => !inb (l.getD k 0) M.length).isSome := by
    have h2 := find_idx l 0 (fun i => !inb i M.length)
    have h3 : (l.find? fun i => !inb i M.length).isSome = ((List.range' 0 l.length).find? fun k => !inb (l.getD k 0) M.length).isSome := by rw [h2]; simp
    rw [← h3, ← any_find, ← hl, List.any_map, List.all_eq_not_any_not]
    refine congrArg (fun q => !s.left.list.any q) (funext fun j => ?_)
    show (!decide (j < M.length)) = !inb (j : Int) M.length
    rw [inb_nat]
  unfold lookV
  rw [ha]
  cases (List.range' 0 l.length).find? fun k => !inb (l.getD k 0) M.length <;> simp [aft]
/-- what is left to choose: rules, rows -/
def choicesV (M : List Nd) (s : Sq) : List Int × List Int :=
  if (applyV M s).1 = 14 then
    ((if (nd M s.goal).kind = 4 then [11, 12] else []) ++ ((List.range M.length).filter fun (j : Nat) => s.left.has j && decide (onV M s.left j = 13)).map (fun _ => 13),
     (if (nd M s.goal).kind = 4 then [s.goal, s.goal] else []) ++ ((List.range M.length).filter fun (j : Nat) => s.left.has j && decide (onV M s.left j = 13)).map fun (j : Nat) => (j : Int))
  else ([], [])
theorem choices_some {M : List Nd} {s : Sq} (hM : M.length ≤ 1024) (hl : lookV M s = true) (hb : s.left.okB = true) : rule_Choices.f (some M) s = some ((choicesV M s).1, (choicesV M s).2, 0) := by
  have h := lookV_rt hb hl
  unfold rule_Choices.f choicesV
  simp only [look_some hb, hl, if_true, Option.bind_some, apply_some hM h, node_some, decide_eq_true_eq, ne_eq, not_true_eq_false, decide_false, Bool.false_eq_true, if_false]
  by_cases h14 : (applyV M s).1 = 14
  · simp only [h14, not_true_eq_false, if_false, if_true]
    have hll : s.left.list.length ≤ 1024 := by
      unfold Bits.list
      exact Nat.le_trans (List.length_filter_le _ _) (by simp)
    have key : ∀ x y : List Int, x.length ≤ 2 → y.length ≤ 2 → forE (fun (x : Nat) (s_1 : List Int × List Int) => rule_Choices.b0 (some M) s (x : Int) s_1.1 s_1.2) s.left.list (x, y) =
        some (.inl (x ++ (s.left.list.filter fun (j : Nat) => decide (onV M s.left j = 13)).map (fun (j : Nat) => (j : Int)), y ++ (s.left.list.filter fun (j : Nat) => decide (onV M s.left j = 13)).map fun _ => 13)) := by
      intro x y hx hy
      refine forE_two _ 0 x y (fun j x y hj h1 h2 => ?_) (by omega) (by omega)
      unfold rule_Choices.b0
      simp only [on_some hb, Option.bind_some, chk, List.length_cons, List.length_nil, decide_eq_true_eq]
      by_cases h13 : onV M s.left j = 13
      · have e1 : (x.length + (0 + 1)) * 8 ≤ 140737488355328 := by omega
        have e2 : (y.length + (0 + 1)) * 8 ≤ 140737488355328 := by omega
        simp only [h13, e1, e2, decide_true, if_true]
      · simp only [h13, decide_false, if_false, Bool.false_eq_true]
    have hf : (s.left.list.filter fun (j : Nat) => decide (onV M s.left j = 13)) = (List.range M.length).filter fun (j : Nat) => s.left.has j && decide (onV M s.left j = 13) := by
      rw [list_eq hM h.left, List.filter_filter]
      exact congrArg (fun q => (List.range M.length).filter q) (funext fun j => Bool.and_comm _ _)
    by_cases h4 : (nd M s.goal).kind = 4
    · simp only [h4, if_true, chk, List.length_nil, List.length_cons, Option.bind_some, hb, List.nil_append]
      simp only [show decide ((0 + (0 + 1 + 1)) * 8 ≤ 140737488355328) = true from rfl, if_true]
      simp only [Option.bind_some]
      rw [key _ _ (by simp) (by simp), hf]
      simp [fin]
    · simp only [h4, if_false, Option.bind_some, hb, chk, if_true]
      rw [key _ _ (by simp) (by simp), hf]
      simp [fin]
  · simp [h14]
end Go.Proofs.YtjjkhjieegmphaaDoor
end
section
namespace Go.Proofs.YtjjkhjieegmphaaDoor
open Gw
set_option linter.unusedVariables false

def law09_RuleTells.f (a0 : List Nd) (a1 : Sq) (a2 : Int) (a3 : Int) : Option Bool :=
  (law03_Both.f a0).bind fun r3 => if !r3.2.2 then (law09_heads.f).bind fun r9 => some r9 else (rule_Apply.f r3.1 a1).bind fun r12 => (rule_Choices.f r3.1 a1).bind fun r15 => (rule_Fits.f r3.1 a1 a2 a3).bind fun r20 => (ref09_Right.f r3.2.1 a1).bind fun r23 => if !r23 then (if ((((((((decide (r12.1 = 0)) && (decide (r12.2.1 = 0))) && (decide (r12.2.2 = 31))) && (decide ((r15.1.length : Int) = 0))) && (decide ((r15.2.1.length : Int) = 0))) && (decide (r15.2.2 = 31))) && (!r20.1)) && (decide (r20.2 = 31))) then law09_heads.f else some false).bind fun r27 => some (((((((((decide (r12.1 = 0)) && (decide (r12.2.1 = 0))) && (decide (r12.2.2 = 31))) && (decide ((r15.1.length : Int) = 0))) && (decide ((r15.2.1.length : Int) = 0))) && (decide (r15.2.2 = 31))) && (!r20.1)) && (decide (r20.2 = 31))) && r27) else (ref09_Apply.f r3.2.1 a1).bind fun r29 => (ref09_Choices.f r3.2.1 a1).bind fun r32 => (if (((decide (r12.1 = r29.1)) && (decide (r12.2.1 = r29.2))) && (decide (r12.2.2 = 0))) then law09_rules.f r15.1 r32.1 else some false).bind fun r37 => (if ((((decide (r12.1 = r29.1)) && (decide (r12.2.1 = r29.2))) && (decide (r12.2.2 = 0))) && r37) then ref03_Ints.f r15.2.1 r32.2 else some false).bind fun r39 => (if ((((((decide (r12.1 = r29.1)) && (decide (r12.2.1 = r29.2))) && (decide (r12.2.2 = 0))) && r37) && r39) && (decide (r15.2.2 = 0))) then ref09_Fits.f r3.2.1 a1 a2 a3 else some false).bind fun r41 => (if ((((((((decide (r12.1 = r29.1)) && (decide (r12.2.1 = r29.2))) && (decide (r12.2.2 = 0))) && r37) && r39) && (decide (r15.2.2 = 0))) && (r20.1 == r41)) && (decide (r20.2 = 0))) then law03_Like.f r3.1 r3.2.1 else some false).bind fun r43 => (if (((((((((decide (r12.1 = r29.1)) && (decide (r12.2.1 = r29.2))) && (decide (r12.2.2 = 0))) && r37) && r39) && (decide (r15.2.2 = 0))) && (r20.1 == r41)) && (decide (r20.2 = 0))) && r43) then law09_heads.f else some false).bind fun r45 => some ((((((((((decide (r12.1 = r29.1)) && (decide (r12.2.1 = r29.2))) && (decide (r12.2.2 = 0))) && r37) && r39) && (decide (r15.2.2 = 0))) && (r20.1 == r41)) && (decide (r20.2 = 0))) && r43) && r45)
end Go.Proofs.YtjjkhjieegmphaaDoor
end
section
namespace Go.Proofs.YtjjkhjieegmphaaDoor
open Gw
set_option linter.unusedVariables false
set_option linter.unusedSimpArgs false
theorem wrap_small {n : Int} (h : 0 ≤ n ∧ n < 9223372036854775808) : IntKind.i64.wrap n = n := by
  exact IntWalk.i64_in _ ⟨by omega, by omega⟩
theorem idx_find (n : Nd) : ∀ (N : List Nd) (s : Nat), (List.range' s N.length).find? (fun k => decide (N.getD (k - s) Nd.z = n)) = (N.idxOf? n).map (· + s)
  | [], s => rfl
  | a :: N, s => by
    rw [List.length_cons, List.range'_succ, List.find?_cons, List.idxOf?_cons]
    by_cases h : a = n
    · simp [h]
    · have h1 : (a == n) = false := by simpa using h
      have h2 : (List.range' (s + 1) N.length).find? (fun k => decide ((a :: N).getD (k - s) Nd.z = n)) = (List.range' (s + 1) N.length).find? (fun k => decide (N.getD (k - (s + 1)) Nd.z = n)) := find_congr fun k hk => by
        have hk := (List.mem_range'_1.1 hk).1
        rw [show k - s = (k - (s + 1)) + 1 by omega]; simp
      simp only [Nat.sub_self, List.getD_cons_zero, h, decide_false, h1, h2, idx_find n N (s + 1)]
      cases N.idxOf? n with
      | none => rfl
      | some k => simp; omega
theorem docFind (N : List Nd) (n : Nd) : ref03_T_Find.f (some N) n = some (match N.idxOf? n with | some k => ((k : Int), true) | none => (0, false)) := by
  unfold ref03_T_Find.f
  have h1 := forN_find (b := fun i s => ref03_T_Find.b0 (some N) n i) (p := fun k => decide (N.getD k Nd.z = n)) (r := fun k => ((k : Int), true)) N.length 0 () (by
    intro k _ hk
    unfold ref03_T_Find.b0 at_
    rw [Int.toNat_natCast, Option.getD_some]
    split <;> rfl)
  have e0 : (((N.length : Nat) : Int) - 0).toNat = N.length := by omega
  simp only [Option.isSome_some, Option.getD_some, chk, if_true, e0]
  rw [show (0 : Int) = ((0 : Nat) : Int) from rfl, h1]
  have h2 := idx_find n N 0
  simp only [Nat.sub_zero, Nat.add_zero] at h2
  rw [h2]
  cases N.idxOf? n <;> rfl
theorem bind_eq {α β : Type} {x : Option α} {y : α} {f : α → Option β} {r : Option β} (hx : x = some y) (h : f y = r) : x.bind f = r := by rw [hx]; exact h
theorem docPut {N : List Nd} {n : Nd} (hN : N.length ≤ 1024) (hn : n.name.size < 9223372036854775808) : ref03_T_Put.f (some N) n = some (some (putS N n).1, (putS N n).2.1, (putS N n).2.2) := by
  have hrow : ∀ i : Int, ref03_T_Has.f (some N) i = some (hasRow N i) := fun i => by simp [ref03_T_Has.f, chk, hasRow]
  have hend : ((ref03_T_Find.f (some N) n).bind fun r25 => if r25.2 then some (some N, r25.1, 0) else chk (some N).isSome (if decide (1024 ≤ ((((some N).getD []).length : Nat) : Int)) then some ((some ((some N).getD [])), 0, 30) else chk (decide ((((some N).getD []).length + 1) * 40 ≤ 140737488355328)) (some ((some (((some N).getD []) ++ [n])), IntKind.i64.wrap (((((some N).getD []) ++ [n]).length : Int) - 1), 0)))) =
      (match N.idxOf? n with | some k => some (some N, (k : Int), (0 : Int)) | none => if 1024 ≤ N.length then some (some N, 0, 30) else some (some (N ++ [n]), (N.length : Int), 0)) := by
    rw [docFind]
    cases N.idxOf? n with
    | some k => rfl
    | none =>
      simp only [Option.bind_some, Bool.false_eq_true, if_false, Option.isSome_some, Option.getD_some, chk, if_true, decide_eq_true_eq]
      by_cases h : 1024 ≤ N.length
      · have h1 : (1024 : Int) ≤ (N.length : Int) := by omega
        simp only [h, h1, if_true]
      · have h1 : ¬ (1024 : Int) ≤ (N.length : Int) := by omega
        have h2 : (N.length + 1) * 40 ≤ 140737488355328 := by omega
        have h3 : IntKind.i64.wrap (((N ++ [n]).length : Int) - 1) = (N.length : Int) := by
          rw [wrap_small (by simp; omega)]; simp
        simp only [h, h1, h2, h3, if_true, if_false]
  unfold ref03_T_Put.f
  refine bind_eq (y := if fitsS N n = 0 then .inl (some N) else .inr (some N, 0, fitsS N n)) ?_ ?_
  · unfold fitsS
    simp only [hrow, ref03_Word.f, hn, chk, decide_true, if_true, Option.bind_some]
    by_cases k1 : n.kind = 1
    · simp only [k1, decide_true, if_true]
      by_cases hl : n.l = 0
      · by_cases hr : n.r = 0
        · by_cases hw : isWord n.name <;> simp [hl, hr, hw]
        · simp [hl, hr]
      · simp [hl]
    by_cases k2 : n.kind = 2
    · have e : (n = { Nd.z with kind := 2 }) ↔ (n.name = ⟨#[]⟩ ∧ n.l = 0 ∧ n.r = 0) := by
        constructor
        · intro h; rw [h]; exact ⟨rfl, rfl, rfl⟩
        · rintro ⟨h1, h2, h3⟩
          obtain ⟨a, b, c, d⟩ := n
          simp only at k2 h1 h2 h3
          subst k2 h1 h2 h3; rfl
      simp only [k2, decide_true, if_true, show ¬ ((2 : Int) = 1) by decide, decide_false, Bool.false_eq_true, if_false, e]
      by_cases hm : n.name = ⟨#[]⟩
      · by_cases hl : n.l = 0
        · by_cases hr : n.r = 0 <;> simp [hm, hl, hr]
        · simp [hm, hl]
      · simp [hm]
    by_cases k3 : n.kind = 3 ∨ n.kind = 4 ∨ n.kind = 5
    · have ho : ((if decide (n.kind = 3) = true then some (decide (n.kind = 3)) else if decide (n.kind = 4) = true then some (decide (n.kind = 4)) else some (decide (n.kind = 5))) : Option Bool) = some true := by
        rcases k3 with k | k | k <;> simp [k]
      simp only [k1, k2, k3, decide_false, Bool.false_eq_true, if_false, if_true]
      simp only [decide_eq_true_eq] at ho ⊢
      rw [ho]
      simp only [Option.bind_some, if_true]
      by_cases hm : n.name = ⟨#[]⟩
      · cases hl : hasRow N n.l with
        | false => simp [hm, hl]
        | true => cases hr : hasRow N n.r <;> simp [hm, hl, hr]
      · simp [hm]
    · have ho : ((if decide (n.kind = 3) = true then some (decide (n.kind = 3)) else if decide (n.kind = 4) = true then some (decide (n.kind = 4)) else some (decide (n.kind = 5))) : Option Bool) = some false := by
        simp only [not_or] at k3; simp [k3.1, k3.2.1, k3.2.2]
      simp only [k1, k2, k3, decide_false, Bool.false_eq_true, if_false, if_true]
      simp only [decide_eq_true_eq] at ho ⊢
      rw [ho]
      simp
  · by_cases hf : fitsS N n = 0
    · rw [if_pos hf]
      refine Eq.trans (show _ = _ from hend) ?_
      unfold putS
      rw [if_pos hf]
      cases N.idxOf? n with
      | some k => rfl
      | none =>
        by_cases h : 1024 ≤ N.length
        · simp only [if_pos h]
        · simp only [if_neg h]
    · rw [if_neg hf, put_bad hf]; rfl
theorem progPut {N : List Nd} {n : Nd} (hn : n.name.size < 9223372036854775808) : formula_Table_Put.f (some N) n = some (some (putS N n).1, (putS N n).2.1, (putS N n).2.2) := by
  simp [formula_Table_Put.f, chk, hn]
theorem rows_take {M : List Nd} {i : Nat} (hi : i < M.length) : at_ Nd.z M i = M[i] := by
  unfold at_; rw [Int.toNat_natCast, List.getD_eq_getElem?_getD, List.getElem?_eq_getElem hi]; rfl
/-- a row behind a table whose rows stand behind their parts -/
theorem wf_push {N : List Nd} {n : Nd} (h : Wf N) (hf : fitsS N n = 0) (hl : N.length < 1024) (hnew : n ∉ N) : Wf (N ++ [n]) := by
  have hnd : ∀ i : Int, inb i N.length = true → nd (N ++ [n]) i = nd N i := by
    intro i hi
    have h1 := inb_ex hi
    unfold nd nodeS hasRow
    have h2 : i.toNat < N.length := by omega
    rw [if_pos (by simp; omega), if_pos (by simp; omega)]
    simp only
    rw [List.getD_eq_getElem?_getD, List.getElem?_append_left h2, ← List.getD_eq_getElem?_getD]
  have hlast : nd (N ++ [n]) N.length = n := by
    unfold nd nodeS hasRow
    rw [if_pos (by simp; omega)]
    simp
  have hsplit : ∀ i : Int, inb i (N ++ [n]).length = true → inb i N.length = true ∨ i = N.length := by
    intro i hi
    have := inb_ex hi
    simp at this
    simp only [inb, Bool.and_eq_true, decide_eq_true_eq]; omega
  have hkind : n.kind = 1 ∨ n.kind = 2 ∨ n.kind = 3 ∨ n.kind = 4 ∨ n.kind = 5 := by
    unfold fitsS at hf
    by_cases k1 : n.kind = 1
    · exact .inl k1
    by_cases k2 : n.kind = 2
    · exact .inr (.inl k2)
    by_cases k3 : n.kind = 3 ∨ n.kind = 4 ∨ n.kind = 5
    · exact .inr (.inr k3)
    · simp [k1, k2, k3] at hf
  refine ⟨by simp; omega, by rw [List.nodup_append]; exact ⟨h.nodup, by simp, fun a ha b hb e => hnew (by rw [← List.mem_singleton.1 hb, ← e]; exact ha)⟩, fun i hi => ?_, fun i hi hk => ?_⟩
  · rcases hsplit i hi with h1 | rfl
    · rw [hnd i h1]; exact h.kind i h1
    · rw [hlast]; exact hkind
  · rcases hsplit i hi with h1 | rfl
    · rw [hnd i h1] at hk ⊢; exact h.kids i h1 hk
    · rw [hlast] at hk ⊢
      unfold fitsS at hf
      have k1 : ¬ n.kind = 1 := by omega
      have k2 : ¬ n.kind = 2 := by omega
      rw [if_neg k1, if_neg k2, if_pos hk] at hf
      split at hf
      · simp at hf
      · rename_i hh
        simp only [not_or, Bool.not_eq_false] at hh
        obtain ⟨⟨_, h1⟩, h2⟩ := hh
        simp only [hasRow, Bool.and_eq_true, decide_eq_true_eq] at h1 h2
        exact ⟨h1, h2⟩
/-- what comes of rows: an error, or the table of them -/
theorem from_some {rows : List Nd} (hn : ∀ n ∈ rows, n.name.size < 9223372036854775808) : ∃ r : Tb × Int, ref03_From.f rows = some r ∧ formula_From.f rows = some r ∧ (r.2 = 0 → r.1 = some rows ∧ Wf rows) := by
  have hstep : ∀ (N : List Nd) (i : Nat), i < rows.length → N.length ≤ 1024 → ref03_From.b0 rows i (some N) = some (if (putS N (at_ Nd.z rows i)).2.2 ≠ 0 then .ret (none, (putS N (at_ Nd.z rows i)).2.2) else if (putS N (at_ Nd.z rows i)).2.1 ≠ i then .ret (none, 31) else .go (some (putS N (at_ Nd.z rows i)).1)) ∧
      formula_From.b0 rows i (some N) = ref03_From.b0 rows i (some N) := by
    intro N i hi hN
    have hm : (at_ Nd.z rows i).name.size < 9223372036854775808 := by rw [rows_take hi]; exact hn _ (List.getElem_mem hi)
    have h1 : ref03_From.b0 rows i (some N) = some (if (putS N (at_ Nd.z rows i)).2.2 ≠ 0 then .ret (none, (putS N (at_ Nd.z rows i)).2.2) else if (putS N (at_ Nd.z rows i)).2.1 ≠ i then .ret (none, 31) else .go (some (putS N (at_ Nd.z rows i)).1)) := by
      unfold ref03_From.b0
      rw [docPut hN hm]
      simp only [Option.bind_some, decide_eq_true_eq]
      split
      · rfl
      · split <;> rfl
    refine ⟨h1, ?_⟩
    rw [h1]
    unfold formula_From.b0
    rw [progPut hm]
    simp only [Option.bind_some]
    by_cases e : (putS N (at_ Nd.z rows i)).2.2 = 0
    · by_cases e2 : (putS N (at_ Nd.z rows i)).2.1 = i
      · simp [e, e2]
      · simp [e, e2]
    · simp [e]
  have main : ∀ (n i : Nat), i + n = rows.length → i ≤ 1024 → Wf (rows.take i) → ∃ o, forN (fun j s => ref03_From.b0 rows j s) n i (some (rows.take i)) = some o ∧ forN (fun j s => formula_From.b0 rows j s) n i (some (rows.take i)) = some o ∧
      ((∃ e, e ≠ 0 ∧ o = .inr (none, e)) ∨ (o = .inl (some rows) ∧ Wf rows)) := by
    intro n
    induction n with
    | zero =>
      intro i hi _ hw
      rw [List.take_of_length_le (by omega)] at hw ⊢
      exact ⟨_, rfl, rfl, .inr ⟨rfl, hw⟩⟩
    | succ n ih =>
      intro i hi hle hw
      have hil : i < rows.length := by omega
      have hlen : (rows.take i).length = i := by simp; omega
      obtain ⟨h1, h2⟩ := hstep (rows.take i) i hil (by omega)
      simp only [forN]
      rw [h2, h1]
      by_cases e : (putS (rows.take i) (at_ Nd.z rows i)).2.2 = 0
      · by_cases e2 : (putS (rows.take i) (at_ Nd.z rows i)).2.1 = i
        · simp only [e, e2, ne_eq, not_true_eq_false, if_false, Option.bind_some]
          have hput : fitsS (rows.take i) (at_ Nd.z rows i) = 0 ∧ i < 1024 ∧ at_ Nd.z rows i ∉ rows.take i ∧ (putS (rows.take i) (at_ Nd.z rows i)).1 = rows.take i ++ [at_ Nd.z rows i] := by
            by_cases hf : fitsS (rows.take i) (at_ Nd.z rows i) = 0
            · cases hk : (rows.take i).idxOf? (at_ Nd.z rows i) with
              | some k =>
                rw [put_old hf hk] at e2
                have : k < (rows.take i).length := by
                  have := List.idxOf?_eq_some_iff.1 hk
                  exact this.1
                simp only at e2; omega
              | none =>
                by_cases hl : 1024 ≤ (rows.take i).length
                · rw [put_full hf hk hl] at e; simp at e
                · rw [put_new hf hk hl]
                  exact ⟨hf, by omega, List.idxOf?_eq_none_iff.1 hk, rfl⟩
            · rw [put_bad hf] at e; exact absurd e hf
          obtain ⟨hf, hlt, hnew, hp⟩ := hput
          have ht : rows.take i ++ [at_ Nd.z rows i] = rows.take (i + 1) := by
            rw [rows_take hil, List.take_succ_eq_append_getElem hil]
          rw [hp, ht]
          have := ih (i + 1) (by omega) (by omega) (by rw [← ht]; exact wf_push hw hf (by omega) hnew)
          simpa using this
        · simp only [e, e2, ne_eq, not_true_eq_false, not_false_eq_true, if_false, if_true, Option.bind_some]
          exact ⟨_, rfl, rfl, .inl ⟨31, by decide, rfl⟩⟩
      · simp only [e, ne_eq, not_false_eq_true, if_true, Option.bind_some]
        exact ⟨_, rfl, rfl, .inl ⟨_, e, rfl⟩⟩
  have e0 : (((rows.length : Nat) : Int) - 0).toNat = rows.length := by omega
  obtain ⟨o, h1, h2, h3⟩ := main rows.length 0 (by omega) (by omega) ⟨by simp, by simp, fun i hi => absurd (inb_ex hi) (by simp), fun i hi => absurd (inb_ex hi) (by simp)⟩
  unfold ref03_From.f formula_From.f formula_New.f
  rw [e0]
  simp only [Option.bind_some]
  rw [show (0 : Int) = ((0 : Nat) : Int) from rfl]
  rw [List.take_zero] at h1 h2
  rw [h1, h2]
  rcases h3 with ⟨e, he, rfl⟩ | ⟨rfl, hw⟩
  · exact ⟨_, rfl, rfl, fun q => absurd q he⟩
  · exact ⟨_, rfl, rfl, fun _ => ⟨rfl, hw⟩⟩
theorem heads09 : law09_heads.f = some true := by decide +kernel
/-- both tables of the same rows, or none -/
theorem both_some {rows : List Nd} (hn : ∀ n ∈ rows, n.name.size < 9223372036854775808) (hl : rows.length * 40 ≤ 140737488355328) : law03_Both.f rows = some (none, none, false) ∨ (law03_Both.f rows = some (some rows, some rows, true) ∧ Wf rows) := by
  obtain ⟨r, h1, h2, h3⟩ := from_some hn
  have hc : (([] : List Nd).length + rows.length) * 40 ≤ 140737488355328 := by rw [List.length_nil, Nat.zero_add]; exact hl
  unfold law03_Both.f
  rw [chk, if_pos (decide_eq_true hc), h1]
  simp only [Option.bind_some, List.nil_append, h2]
  by_cases e : r.2 = 0
  · obtain ⟨h4, hw⟩ := h3 e
    exact .inr ⟨by rw [h4]; simp [e], hw⟩
  · exact .inl (by simp [e])
theorem Apply_some {M : List Nd} {s : Sq} (hM : M.length ≤ 1024) (hb : s.left.okB = true) : rule_Apply.f (some M) s = some (if lookV M s then ((applyV M s).1, (applyV M s).2, 0) else (0, 0, 31)) := by
  unfold rule_Apply.f
  rw [look_some hb]
  cases hl : lookV M s with
  | true => simp [apply_some hM (lookV_rt hb hl)]
  | false => simp
end Go.Proofs.YtjjkhjieegmphaaDoor
end
section
namespace Go.Proofs.YtjjkhjieegmphaaDoor
open Gw
set_option linter.unusedVariables false

def ref09_to.f (a0 : Sq) (a1 : Int) : Option Sq :=
  some ({ a0 with goal := a1 })
def ref09_with.f (a0 : Sq) (a1 : Int) (a2 : Int) : Option Sq :=
  (ref05_With.f a0.left a1).bind fun r5 => (ref05_With.f r5 a2).bind fun r8 => some ({ a0 with left := r8 })
def ref03_T_Two.f (a0 : Tb) (a1 : Int) (a2 : Int) (a3 : Int) : Option (Tb × Int × Int) :=
  (ref03_T_Put.f a0 ({ Nd.z with kind := a1, l := a2, r := a3 })).bind fun r1 => some (r1.1, r1.2.1, r1.2.2)
def ref03_T_Imp.f (a0 : Tb) (a1 : Int) (a2 : Int) : Option (Tb × Int × Int) :=
  (ref03_T_Two.f a0 5 a1 a2).bind fun r1 => some (r1.1, r1.2.1, r1.2.2)
def ref03_T_Cut.f (a0 : Tb) (a1 : Int) : Option (Tb × Int) :=
  chk a0.isSome (if (decide (a1 < 0)) || (decide (((a0.getD []).length : Int) < a1)) then some ((some (a0.getD [])), 2) else chk (decide (0 ≤ a1 ∧ a1 ≤ ((a0.getD []).length : Int))) (some ((some ((a0.getD []).take (a1).toNat)), 0)))
def ref09_imps.f (a0 : Tb) (a1 : Int) (a2 : Int) (a3 : Int) (a4 : Int) : Option (Tb × Int × Int × Int) :=
  chk a0.isSome ((ref03_T_Imp.f (some (a0.getD [])) a1 a2).bind fun r5 => if decide (r5.2.2 ≠ 0) then some (r5.1, 0, 0, r5.2.2) else (if decide (a3 < 0) then some ((r5.2.1, r5.1)) else some ((a3, r5.1))).bind fun (o9 : Int × Tb) => (if decide (a4 < 0) then some ((r5.2.1, o9.2)) else some ((a4, o9.2))).bind fun (o13 : Int × Tb) => (ref03_T_Imp.f o13.2 o9.1 o13.1).bind fun r17 => if decide (r17.2.2 ≠ 0) then (ref03_T_Cut.f r17.1 ((a0.getD []).length : Int)).bind fun r21 => some (r21.1, 0, 0, r17.2.2) else some (r17.1, r5.2.1, r17.2.1, 0))
def ref09_Premises.f (a0 : Tb) (a1 : Sq) (a2 : Int) (a3 : Int) : Option (Tb × List Sq × Int) :=
  (ref09_Fits.f a0 a1 a2 a3).bind fun r3 => if !r3 then some (a0, ([] : List Sq), 90) else chk a0.isSome (chk (inb a3 (a0.getD []).length) ((ref05_Drop.f a1.left a3).bind fun r18 => (if decide (a2 = 1) then some ((decide (a2 = 1), (some (a0.getD [])))) else some ((decide (a2 = 2), (some (a0.getD []))))).bind fun (o22 : Bool × Tb) => if o22.1 then some (o22.2, ([] : List Sq), 0) else if decide (a2 = 3) then (ref09_with.f ({ a1 with left := r18 }) ((at_ Nd.z (a0.getD []) a3).l) ((at_ Nd.z (a0.getD []) a3).r)).bind fun r28 => some (o22.2, [r28], 0) else if decide (a2 = 4) then (ref09_with.f ({ a1 with left := r18 }) ((at_ Nd.z (a0.getD []) a3).r) ((at_ Nd.z (a0.getD []) a3).r)).bind fun r35 => some (o22.2, [r35], 0) else if decide (a2 = 5) then some (o22.2, [{ a1 with left := r18 }], 0) else if decide (a2 = 6) then chk o22.2.isSome (chk (inb ((at_ Nd.z (a0.getD []) a3).l) (o22.2.getD []).length) ((ref09_imps.f (some (o22.2.getD [])) ((at_ Nd.z (o22.2.getD []) ((at_ Nd.z (a0.getD []) a3).l)).r) ((at_ Nd.z (a0.getD []) a3).r) ((at_ Nd.z (o22.2.getD []) ((at_ Nd.z (a0.getD []) a3).l)).l) (-1)).bind fun r55 => if decide (r55.2.2.2 ≠ 0) then some (r55.1, ([] : List Sq), r55.2.2.2) else (ref09_with.f ({ a1 with left := r18 }) r55.2.2.1 r55.2.2.1).bind fun r59 => some (r55.1, [r59], 0))) else if decide (a2 = 7) then chk o22.2.isSome (chk (inb ((at_ Nd.z (a0.getD []) a3).l) (o22.2.getD []).length) ((ref09_imps.f (some (o22.2.getD [])) ((at_ Nd.z (o22.2.getD []) ((at_ Nd.z (a0.getD []) a3).l)).l) ((at_ Nd.z (a0.getD []) a3).r) ((at_ Nd.z (o22.2.getD []) ((at_ Nd.z (a0.getD []) a3).l)).r) ((at_ Nd.z (a0.getD []) a3).r)).bind fun r75 => if decide (r75.2.2.2 ≠ 0) then some (r75.1, ([] : List Sq), r75.2.2.2) else (ref09_with.f ({ a1 with left := r18 }) r75.2.1 r75.2.2.1).bind fun r79 => some (r75.1, [r79], 0))) else if decide (a2 = 8) then (ref09_with.f a1 ((at_ Nd.z (a0.getD []) a3).l) ((at_ Nd.z (a0.getD []) a3).l)).bind fun r86 => (ref09_to.f r86 ((at_ Nd.z (a0.getD []) a3).r)).bind fun r88 => some (o22.2, [r88], 0) else if decide (a2 = 9) then (ref09_to.f a1 ((at_ Nd.z (a0.getD []) a3).l)).bind fun r95 => (ref09_to.f a1 ((at_ Nd.z (a0.getD []) a3).r)).bind fun r97 => some (o22.2, [r95, r97], 0) else if decide (a2 = 10) then (ref09_with.f ({ a1 with left := r18 }) ((at_ Nd.z (a0.getD []) a3).l) ((at_ Nd.z (a0.getD []) a3).l)).bind fun r104 => (ref09_with.f ({ a1 with left := r18 }) ((at_ Nd.z (a0.getD []) a3).r) ((at_ Nd.z (a0.getD []) a3).r)).bind fun r106 => some (o22.2, [r104, r106], 0) else if decide (a2 = 11) then (ref09_to.f a1 ((at_ Nd.z (a0.getD []) a3).l)).bind fun r113 => some (o22.2, [r113], 0) else if decide (a2 = 12) then (ref09_to.f a1 ((at_ Nd.z (a0.getD []) a3).r)).bind fun r120 => some (o22.2, [r120], 0) else chk o22.2.isSome (chk (inb ((at_ Nd.z (a0.getD []) a3).l) (o22.2.getD []).length) ((ref03_T_Imp.f (some (o22.2.getD [])) ((at_ Nd.z (o22.2.getD []) ((at_ Nd.z (a0.getD []) a3).l)).r) ((at_ Nd.z (a0.getD []) a3).r)).bind fun r135 => if decide (r135.2.2 ≠ 0) then some (r135.1, ([] : List Sq), r135.2.2) else (ref09_with.f ({ a1 with left := r18 }) r135.2.1 r135.2.1).bind fun r139 => (ref09_to.f r139 ((at_ Nd.z (a0.getD []) a3).l)).bind fun r140 => (ref09_with.f ({ a1 with left := r18 }) ((at_ Nd.z (a0.getD []) a3).r) ((at_ Nd.z (a0.getD []) a3).r)).bind fun r142 => some (r135.1, [r140, r142], 0)))))
end Go.Proofs.YtjjkhjieegmphaaDoor
end
section
namespace Go.Proofs.YtjjkhjieegmphaaDoor
open Gw
set_option linter.unusedVariables false

def law09_RulePremises.f (a0 : List Nd) (a1 : Sq) (a2 : Int) (a3 : Int) : Option Bool :=
  (law03_Both.f a0).bind fun r3 => if !r3.2.2 then (law09_heads.f).bind fun r9 => some r9 else (rule_Premises.f r3.1 a1 a2 a3).bind fun r12 => (ref09_Right.f r3.2.1 a1).bind fun r16 => if !r16 then (if ((decide ((r12.2.1.length : Int) = 0)) && (decide (r12.2.2 = 31))) then law03_Like.f r12.1 r3.2.1 else some false).bind fun r20 => (if (((decide ((r12.2.1.length : Int) = 0)) && (decide (r12.2.2 = 31))) && r20) then law09_heads.f else some false).bind fun r22 => some ((((decide ((r12.2.1.length : Int) = 0)) && (decide (r12.2.2 = 31))) && r20) && r22) else (ref09_Premises.f r3.2.1 a1 a2 a3).bind fun r24 => (ref09_Seqs.f r12.2.1 r24.2.1).bind fun r28 => (if (r28 && (decide (r12.2.2 = r24.2.2))) then law03_Like.f r12.1 r24.1 else some false).bind fun r31 => (if ((r28 && (decide (r12.2.2 = r24.2.2))) && r31) then law09_heads.f else some false).bind fun r33 => some (((r28 && (decide (r12.2.2 = r24.2.2))) && r31) && r33)
end Go.Proofs.YtjjkhjieegmphaaDoor
end
section
namespace Go.Proofs.YtjjkhjieegmphaaDoor
open Gw
set_option linter.unusedVariables false
set_option linter.unusedSimpArgs false
theorem okB_add {b : Bits} (n : Int) : (b.add n).okB = true := Bits.ok_okB (Bits.add_ok _ _)
theorem okB_del {b : Bits} (n : Int) : (b.del n).okB = true := Bits.ok_okB (Bits.del_ok _ _)
theorem union_one {b : Bits} {x : Int} (hx : 0 ≤ x ∧ x < 1024) : b.union (Bits.ofs [x]).1 = b.add x := by
  refine Bits.eq_of_has (Bits.union_ok _ _) (Bits.add_ok _ _) fun m hm => ?_
  rw [Bits.union_has, Bits.add_has _ _ _ hx]
  unfold Bits.ofs
  rw [if_pos (by simpa using hx), show Bits.ofl [x] = Bits.z.add x from rfl, Bits.add_has _ _ _ hx, Bits.z_has, Bool.or_false, Bool.or_comm]
theorem union_two {b : Bits} {x y : Int} (hx : 0 ≤ x ∧ x < 1024) (hy : 0 ≤ y ∧ y < 1024) : b.union (Bits.ofs [x, y]).1 = (b.add x).add y := by
  refine Bits.eq_of_has (Bits.union_ok _ _) (Bits.add_ok _ _) fun m hm => ?_
  rw [Bits.union_has, Bits.add_has _ _ _ hy, Bits.add_has _ _ _ hx]
  unfold Bits.ofs
  rw [if_pos (by intro n hn; rcases List.mem_cons.1 hn with rfl | hn; exact hx; rw [List.mem_singleton.1 hn]; exact hy), show Bits.ofl [x, y] = (Bits.z.add x).add y from rfl, Bits.add_has _ _ _ hy, Bits.add_has _ _ _ hx, Bits.z_has, Bool.or_false]
  cases b.has m <;> simp
theorem add_add {b : Bits} {x : Int} (hx : 0 ≤ x ∧ x < 1024) : (b.add x).add x = b.add x := by
  refine Bits.eq_of_has (Bits.add_ok _ _) (Bits.add_ok _ _) fun m hm => ?_
  rw [Bits.add_has _ _ _ hx, Bits.add_has _ _ _ hx]
  cases b.has m <;> simp
theorem withP1 {s : Sq} {x : Int} (hb : s.left.okB = true) (hx : 0 ≤ x ∧ x < 1024) : rule_with.f s [x] = some { s with left := s.left.add x } := by
  unfold rule_with.f bits_Of.f bits_Union.f
  simp only [Option.bind_some]
  rw [chk, if_pos (by rw [hb, Bits.ok_okB (Bits.ofs_ok _)]; rfl), union_one hx]; rfl
theorem withP2 {s : Sq} {x y : Int} (hb : s.left.okB = true) (hx : 0 ≤ x ∧ x < 1024) (hy : 0 ≤ y ∧ y < 1024) : rule_with.f s [x, y] = some { s with left := (s.left.add x).add y } := by
  unfold rule_with.f bits_Of.f bits_Union.f
  simp only [Option.bind_some]
  rw [chk, if_pos (by rw [hb, Bits.ok_okB (Bits.ofs_ok _)]; rfl), union_two hx hy]; rfl
theorem withD2 {s : Sq} {x y : Int} (hb : s.left.okB = true) (hx : 0 ≤ x ∧ x < 1024) (hy : 0 ≤ y ∧ y < 1024) : ref09_with.f s x y = some { s with left := (s.left.add x).add y } := by
  have h1 : ref05_With.f s.left x = some (s.left.add x) := by
    unfold ref05_With.f
    rw [chk, if_pos]
    rw [hb, decide_eq_true hx.1, decide_eq_true hx.2]; rfl
  have h2 : ref05_With.f (s.left.add x) y = some ((s.left.add x).add y) := by
    unfold ref05_With.f
    rw [chk, if_pos]
    rw [okB_add, decide_eq_true hy.1, decide_eq_true hy.2]; rfl
  unfold ref09_with.f
  rw [h1, Option.bind_some, h2, Option.bind_some]
theorem withD1 {s : Sq} {x : Int} (hb : s.left.okB = true) (hx : 0 ≤ x ∧ x < 1024) : ref09_with.f s x x = some { s with left := s.left.add x } := by
  rw [withD2 hb hx hx, add_add hx]
theorem withP1m {B : Bits} {g x : Int} (hb : B.okB = true) (hx : 0 ≤ x ∧ x < 1024) : rule_with.f ⟨B, g⟩ [x] = some ⟨B.add x, g⟩ := withP1 (s := ⟨B, g⟩) hb hx
theorem withP2m {B : Bits} {g x y : Int} (hb : B.okB = true) (hx : 0 ≤ x ∧ x < 1024) (hy : 0 ≤ y ∧ y < 1024) : rule_with.f ⟨B, g⟩ [x, y] = some ⟨(B.add x).add y, g⟩ := withP2 (s := ⟨B, g⟩) hb hx hy
theorem withD1m {B : Bits} {g x : Int} (hb : B.okB = true) (hx : 0 ≤ x ∧ x < 1024) : ref09_with.f ⟨B, g⟩ x x = some ⟨B.add x, g⟩ := withD1 (s := ⟨B, g⟩) hb hx
theorem withD2m {B : Bits} {g x y : Int} (hb : B.okB = true) (hx : 0 ≤ x ∧ x < 1024) (hy : 0 ≤ y ∧ y < 1024) : ref09_with.f ⟨B, g⟩ x y = some ⟨(B.add x).add y, g⟩ := withD2 (s := ⟨B, g⟩) hb hx hy
theorem both1 {B : Bits} {g x : Int} (hb : B.okB = true) (hx : 0 ≤ x ∧ x < 1024) : ∃ q, rule_with.f ⟨B, g⟩ [x] = some q ∧ ref09_with.f ⟨B, g⟩ x x = some q := ⟨_, withP1m hb hx, withD1m hb hx⟩
theorem both2 {B : Bits} {g x y : Int} (hb : B.okB = true) (hx : 0 ≤ x ∧ x < 1024) (hy : 0 ≤ y ∧ y < 1024) : ∃ q, rule_with.f ⟨B, g⟩ [x, y] = some q ∧ ref09_with.f ⟨B, g⟩ x y = some q := ⟨_, withP2m hb hx hy, withD2m hb hx hy⟩
theorem put_props {N : List Nd} {n : Nd} (hN : N.length ≤ 1024) (hd : N.Nodup) : ((putS N n).2.2 ≠ 0 → (putS N n).1 = N) ∧ ((putS N n).2.2 = 0 → 0 ≤ (putS N n).2.1 ∧ (putS N n).2.1 < 1024) ∧ (putS N n).1.take N.length = N ∧ (putS N n).1.Nodup ∧ (putS N n).1.length ≤ 1024 ∧ N.length ≤ (putS N n).1.length := by
  by_cases hf : fitsS N n = 0
  · cases hk : N.idxOf? n with
    | some k =>
      rw [put_old hf hk]
      have := (List.idxOf?_eq_some_iff.1 hk).1
      exact ⟨fun h => absurd rfl h, fun _ => ⟨by simp, by simp; omega⟩, by simp, hd, hN, Nat.le_refl _⟩
    | none =>
      by_cases hl : 1024 ≤ N.length
      · rw [put_full hf hk hl]
        exact ⟨fun _ => rfl, fun h => absurd h (by simp), by simp, hd, hN, Nat.le_refl _⟩
      · rw [put_new hf hk hl]
        refine ⟨fun h => absurd rfl h, fun _ => ⟨by simp, by simp; omega⟩, by simp, ?_, by simp; omega, by simp⟩
        rw [List.nodup_append]
        refine ⟨hd, by simp, fun a ha b hb e => ?_⟩
        rw [List.mem_singleton.1 hb] at e
        subst e
        have := List.idxOf?_eq_none_iff.1 hk
        exact this ha
  · rw [put_bad hf]
    exact ⟨fun _ => rfl, fun h => absurd h hf, by simp, hd, hN, Nat.le_refl _⟩
theorem impP (N : List Nd) (a b : Int) : formula_Table_Imp.f (some N) a b = some (some (putS N (impN a b)).1, (putS N (impN a b)).2.1, (putS N (impN a b)).2.2) := rfl
theorem impD {N : List Nd} (hN : N.length ≤ 1024) (a b : Int) : ref03_T_Imp.f (some N) a b = some (some (putS N (impN a b)).1, (putS N (impN a b)).2.1, (putS N (impN a b)).2.2) := by
  unfold ref03_T_Imp.f ref03_T_Two.f
  rw [docPut hN (by show (ByteArray.empty).size < _; decide)]
  rfl
theorem cutP {N M : List Nd} (h1 : N.take M.length = M) (h2 : N.Nodup) (h3 : M.length ≤ N.length) : formula_Table_Cut.f (some N) (M.length : Int) = some (some M, 0) := by
  unfold formula_Table_Cut.f
  have h4 : ¬ (M.length : Int) < 0 := by omega
  have h5 : ¬ (N.length : Int) < (M.length : Int) := by omega
  simp [h4, h5, chk, h2, h1]
theorem cutD {N M : List Nd} (h1 : N.take M.length = M) (h3 : M.length ≤ N.length) : ref03_T_Cut.f (some N) (M.length : Int) = some (some M, 0) := by
  unfold ref03_T_Cut.f
  have h4 : ¬ (M.length : Int) < 0 := by omega
  have h5 : ¬ (N.length : Int) < (M.length : Int) := by omega
  have h6 : 0 ≤ (M.length : Int) ∧ (M.length : Int) ≤ (N.length : Int) := by omega
  simp [h4, h5, chk, h6, h1]
/-- what both sides make of a rule's premises -/
def Agree (M : List Nd) (s : Sq) (r i : Int) : Prop := ∃ (M' : List Nd) (L : List Sq) (e : Int), rule_Premises.f (some M) s r i = some (some M', L, e) ∧ ref09_Premises.f (some M) s r i = some (some M', L, e)
theorem in1024 {M : List Nd} {i : Int} (hM : M.length ≤ 1024) (h : inb i M.length = true) : 0 ≤ i ∧ i < 1024 := by have := inb_ex h; omega
theorem on_cases {M : List Nd} {b : Bits} {i r : Int} (h : onV M b i = r) (h0 : r ≠ 0) : (r = 1 ∧ (nd M i).kind = 2) ∨ (r = 3 ∧ (nd M i).kind = 3) ∨ (r = 10 ∧ (nd M i).kind = 4) ∨ ((nd M i).kind = 5 ∧ ((r = 4 ∧ (nd M (nd M i).l).kind = 1) ∨ (r = 5 ∧ (nd M (nd M i).l).kind = 2) ∨ (r = 6 ∧ (nd M (nd M i).l).kind = 3) ∨ (r = 7 ∧ (nd M (nd M i).l).kind = 4) ∨ (r = 13 ∧ (nd M (nd M i).l).kind = 5))) := by
  by_cases k2 : (nd M i).kind = 2
  · rw [onV, if_pos k2] at h; exact .inl ⟨h.symm, k2⟩
  by_cases k3 : (nd M i).kind = 3
  · rw [onV, if_neg k2, if_pos k3] at h; exact .inr (.inl ⟨h.symm, k3⟩)
  by_cases k4 : (nd M i).kind = 4
  · rw [onV, if_neg k2, if_neg k3, if_pos k4] at h; exact .inr (.inr (.inl ⟨h.symm, k4⟩))
  by_cases k5 : (nd M i).kind = 5
  · rw [onV, if_neg k2, if_neg k3, if_neg k4, if_pos k5] at h
    refine .inr (.inr (.inr ⟨k5, ?_⟩))
    by_cases c1 : (nd M (nd M i).l).kind = 1
    · rw [if_pos c1] at h
      split at h
      · exact .inl ⟨h.symm, c1⟩
      · exact absurd h.symm h0
    rw [if_neg c1] at h
    by_cases c2 : (nd M (nd M i).l).kind = 2
    · rw [if_pos c2] at h; exact .inr (.inl ⟨h.symm, c2⟩)
    rw [if_neg c2] at h
    by_cases c3 : (nd M (nd M i).l).kind = 3
    · rw [if_pos c3] at h; exact .inr (.inr (.inl ⟨h.symm, c3⟩))
    rw [if_neg c3] at h
    by_cases c4 : (nd M (nd M i).l).kind = 4
    · rw [if_pos c4] at h; exact .inr (.inr (.inr (.inl ⟨h.symm, c4⟩)))
    rw [if_neg c4] at h
    by_cases c5 : (nd M (nd M i).l).kind = 5
    · rw [if_pos c5] at h; exact .inr (.inr (.inr (.inr ⟨h.symm, c5⟩)))
    rw [if_neg c5] at h
    exact absurd h.symm h0
  · rw [onV, if_neg k2, if_neg k3, if_neg k4, if_neg k5] at h; exact absurd h.symm h0
theorem fits_cases {M : List Nd} {s : Sq} {r i : Int} (h : fitsV M s r i = true) : inb i M.length = true ∧ (r = 2 ∨ (r = 8 ∧ (nd M i).kind = 5) ∨ (r = 9 ∧ (nd M i).kind = 3) ∨ ((r = 11 ∨ r = 12) ∧ (nd M i).kind = 4) ∨ (r = 1 ∧ (nd M i).kind = 2) ∨ (r = 3 ∧ (nd M i).kind = 3) ∨ (r = 10 ∧ (nd M i).kind = 4) ∨ ((nd M i).kind = 5 ∧ ((r = 4 ∧ (nd M (nd M i).l).kind = 1) ∨ (r = 5 ∧ (nd M (nd M i).l).kind = 2) ∨ (r = 6 ∧ (nd M (nd M i).l).kind = 3) ∨ (r = 7 ∧ (nd M (nd M i).l).kind = 4) ∨ (r = 13 ∧ (nd M (nd M i).l).kind = 5)))) := by
  unfold fitsV at h
  cases hi : inb i M.length with
  | false => simp [hi] at h
  | true =>
    refine ⟨rfl, ?_⟩
    simp only [hi, Bool.true_eq_false, if_false] at h
    split at h
    · exact .inl ‹_›
    split at h
    · simp only [Bool.and_eq_true, decide_eq_true_eq] at h; exact .inr (.inl ⟨‹_›, h.2⟩)
    split at h
    · simp only [Bool.and_eq_true, decide_eq_true_eq] at h; exact .inr (.inr (.inl ⟨‹_›, h.2⟩))
    split at h
    · simp only [Bool.and_eq_true, decide_eq_true_eq] at h; exact .inr (.inr (.inr (.inl ⟨‹_›, h.2⟩)))
    · simp only [Bool.and_eq_true, decide_eq_true_eq, ne_eq] at h
      exact .inr (.inr (.inr (.inr (on_cases h.2 h.1.1))))
theorem prem_2 {M : List Nd} {s : Sq} {i : Int} (hw : Wf M) (hl : lookV M s = true) (hb : s.left.okB = true) (hf : fitsV M s 2 i = true) (hi : inb i M.length = true) : Agree M s 2 i := by
  have h := lookV_rt hb hl
  have hd := hw.nodup
  unfold Agree
  have hP : ∀ M' L, rule_premises.f (some M) s 2 i = some (some M', L, 0) → rule_Premises.f (some M) s 2 i = some (some M', L, 0) := by
    intro M' L e
    simp [rule_Premises.f, look_some hb, hl, fits_some hb, hf, formula_Table_Len.f, e]
  have hE : ∀ N L e, e ≠ 0 → rule_premises.f (some M) s 2 i = some (some N, L, e) → N.take M.length = M → N.Nodup → M.length ≤ N.length → rule_Premises.f (some M) s 2 i = some (some M, [], e) := by
    intro N L e he e1 h1 h2 h3
    simp [rule_Premises.f, look_some hb, hl, fits_some hb, hf, formula_Table_Len.f, e1, he, cutP h1 h2 h3]
  have hbd : ({ s with left := s.left.del i } : Sq).left.okB = true := okB_del i
  have k345 : (nd M i).kind = 3 ∨ (nd M i).kind = 4 ∨ (nd M i).kind = 5 → (0 ≤ (nd M i).l ∧ (nd M i).l < 1024) ∧ (0 ≤ (nd M i).r ∧ (nd M i).r < 1024) := fun k => ⟨in1024 hw.len (hw.left hi k), in1024 hw.len (hw.right hi k)⟩
  exact ⟨M, [], 0, hP _ _ (by simp -implicitDefEqProofs [rule_premises.f, node_some, bits_Drop.f, chk, hb]), by simp -implicitDefEqProofs [ref09_Premises.f, docFits hw hb, hf, chk, hi, nd_at hi, ref05_Drop.f, hb]⟩
theorem prem_8 {M : List Nd} {s : Sq} {i : Int} (hw : Wf M) (hl : lookV M s = true) (hb : s.left.okB = true) (hf : fitsV M s 8 i = true) (hi : inb i M.length = true) (k : (nd M i).kind = 5) : Agree M s 8 i := by
  have h := lookV_rt hb hl
  have hd := hw.nodup
  unfold Agree
  have hP : ∀ M' L, rule_premises.f (some M) s 8 i = some (some M', L, 0) → rule_Premises.f (some M) s 8 i = some (some M', L, 0) := by
    intro M' L e
    simp [rule_Premises.f, look_some hb, hl, fits_some hb, hf, formula_Table_Len.f, e]
  have hE : ∀ N L e, e ≠ 0 → rule_premises.f (some M) s 8 i = some (some N, L, e) → N.take M.length = M → N.Nodup → M.length ≤ N.length → rule_Premises.f (some M) s 8 i = some (some M, [], e) := by
    intro N L e he e1 h1 h2 h3
    simp [rule_Premises.f, look_some hb, hl, fits_some hb, hf, formula_Table_Len.f, e1, he, cutP h1 h2 h3]
  have hbd : ({ s with left := s.left.del i } : Sq).left.okB = true := okB_del i
  have k345 : (nd M i).kind = 3 ∨ (nd M i).kind = 4 ∨ (nd M i).kind = 5 → (0 ≤ (nd M i).l ∧ (nd M i).l < 1024) ∧ (0 ≤ (nd M i).r ∧ (nd M i).r < 1024) := fun k => ⟨in1024 hw.len (hw.left hi k), in1024 hw.len (hw.right hi k)⟩
  obtain ⟨hx, hy⟩ := k345 (.inr (.inr k))
  exact ⟨M, _, 0, hP _ _ (by simp -implicitDefEqProofs [rule_premises.f, node_some, bits_Drop.f, chk, hb, withP1 hb hx, rule_to.f]; rfl), by simp -implicitDefEqProofs [ref09_Premises.f, docFits hw hb, hf, chk, hi, nd_at hi, ref05_Drop.f, hb, withD1 hb hx, ref09_to.f]⟩
theorem prem_9 {M : List Nd} {s : Sq} {i : Int} (hw : Wf M) (hl : lookV M s = true) (hb : s.left.okB = true) (hf : fitsV M s 9 i = true) (hi : inb i M.length = true) (k : (nd M i).kind = 3) : Agree M s 9 i := by
  have h := lookV_rt hb hl
  have hd := hw.nodup
  unfold Agree
  have hP : ∀ M' L, rule_premises.f (some M) s 9 i = some (some M', L, 0) → rule_Premises.f (some M) s 9 i = some (some M', L, 0) := by
    intro M' L e
    simp [rule_Premises.f, look_some hb, hl, fits_some hb, hf, formula_Table_Len.f, e]
  have hE : ∀ N L e, e ≠ 0 → rule_premises.f (some M) s 9 i = some (some N, L, e) → N.take M.length = M → N.Nodup → M.length ≤ N.length → rule_Premises.f (some M) s 9 i = some (some M, [], e) := by
    intro N L e he e1 h1 h2 h3
    simp [rule_Premises.f, look_some hb, hl, fits_some hb, hf, formula_Table_Len.f, e1, he, cutP h1 h2 h3]
  have hbd : ({ s with left := s.left.del i } : Sq).left.okB = true := okB_del i
  have k345 : (nd M i).kind = 3 ∨ (nd M i).kind = 4 ∨ (nd M i).kind = 5 → (0 ≤ (nd M i).l ∧ (nd M i).l < 1024) ∧ (0 ≤ (nd M i).r ∧ (nd M i).r < 1024) := fun k => ⟨in1024 hw.len (hw.left hi k), in1024 hw.len (hw.right hi k)⟩
  exact ⟨M, _, 0, hP _ _ (by simp -implicitDefEqProofs [rule_premises.f, node_some, bits_Drop.f, chk, hb, rule_to.f]; rfl), by simp -implicitDefEqProofs [ref09_Premises.f, docFits hw hb, hf, chk, hi, nd_at hi, ref05_Drop.f, hb, ref09_to.f]⟩
theorem prem_11 {M : List Nd} {s : Sq} {i : Int} (hw : Wf M) (hl : lookV M s = true) (hb : s.left.okB = true) (hf : fitsV M s 11 i = true) (hi : inb i M.length = true) (k : (nd M i).kind = 4) : Agree M s 11 i := by
  have h := lookV_rt hb hl
  have hd := hw.nodup
  unfold Agree
  have hP : ∀ M' L, rule_premises.f (some M) s 11 i = some (some M', L, 0) → rule_Premises.f (some M) s 11 i = some (some M', L, 0) := by
    intro M' L e
    simp [rule_Premises.f, look_some hb, hl, fits_some hb, hf, formula_Table_Len.f, e]
  have hE : ∀ N L e, e ≠ 0 → rule_premises.f (some M) s 11 i = some (some N, L, e) → N.take M.length = M → N.Nodup → M.length ≤ N.length → rule_Premises.f (some M) s 11 i = some (some M, [], e) := by
    intro N L e he e1 h1 h2 h3
    simp [rule_Premises.f, look_some hb, hl, fits_some hb, hf, formula_Table_Len.f, e1, he, cutP h1 h2 h3]
  have hbd : ({ s with left := s.left.del i } : Sq).left.okB = true := okB_del i
  have k345 : (nd M i).kind = 3 ∨ (nd M i).kind = 4 ∨ (nd M i).kind = 5 → (0 ≤ (nd M i).l ∧ (nd M i).l < 1024) ∧ (0 ≤ (nd M i).r ∧ (nd M i).r < 1024) := fun k => ⟨in1024 hw.len (hw.left hi k), in1024 hw.len (hw.right hi k)⟩
  exact ⟨M, _, 0, hP _ _ (by simp -implicitDefEqProofs [rule_premises.f, node_some, bits_Drop.f, chk, hb, rule_to.f]; rfl), by simp -implicitDefEqProofs [ref09_Premises.f, docFits hw hb, hf, chk, hi, nd_at hi, ref05_Drop.f, hb, ref09_to.f]⟩
theorem prem_12 {M : List Nd} {s : Sq} {i : Int} (hw : Wf M) (hl : lookV M s = true) (hb : s.left.okB = true) (hf : fitsV M s 12 i = true) (hi : inb i M.length = true) (k : (nd M i).kind = 4) : Agree M s 12 i := by
  have h := lookV_rt hb hl
  have hd := hw.nodup
  unfold Agree
  have hP : ∀ M' L, rule_premises.f (some M) s 12 i = some (some M', L, 0) → rule_Premises.f (some M) s 12 i = some (some M', L, 0) := by
    intro M' L e
    simp [rule_Premises.f, look_some hb, hl, fits_some hb, hf, formula_Table_Len.f, e]
  have hE : ∀ N L e, e ≠ 0 → rule_premises.f (some M) s 12 i = some (some N, L, e) → N.take M.length = M → N.Nodup → M.length ≤ N.length → rule_Premises.f (some M) s 12 i = some (some M, [], e) := by
    intro N L e he e1 h1 h2 h3
    simp [rule_Premises.f, look_some hb, hl, fits_some hb, hf, formula_Table_Len.f, e1, he, cutP h1 h2 h3]
  have hbd : ({ s with left := s.left.del i } : Sq).left.okB = true := okB_del i
  have k345 : (nd M i).kind = 3 ∨ (nd M i).kind = 4 ∨ (nd M i).kind = 5 → (0 ≤ (nd M i).l ∧ (nd M i).l < 1024) ∧ (0 ≤ (nd M i).r ∧ (nd M i).r < 1024) := fun k => ⟨in1024 hw.len (hw.left hi k), in1024 hw.len (hw.right hi k)⟩
  exact ⟨M, _, 0, hP _ _ (by simp -implicitDefEqProofs [rule_premises.f, node_some, bits_Drop.f, chk, hb, rule_to.f]; rfl), by simp -implicitDefEqProofs [ref09_Premises.f, docFits hw hb, hf, chk, hi, nd_at hi, ref05_Drop.f, hb, ref09_to.f]⟩
theorem prem_1 {M : List Nd} {s : Sq} {i : Int} (hw : Wf M) (hl : lookV M s = true) (hb : s.left.okB = true) (hf : fitsV M s 1 i = true) (hi : inb i M.length = true) (k : (nd M i).kind = 2) : Agree M s 1 i := by
  have h := lookV_rt hb hl
  have hd := hw.nodup
  unfold Agree
  have hP : ∀ M' L, rule_premises.f (some M) s 1 i = some (some M', L, 0) → rule_Premises.f (some M) s 1 i = some (some M', L, 0) := by
    intro M' L e
    simp [rule_Premises.f, look_some hb, hl, fits_some hb, hf, formula_Table_Len.f, e]
  have hE : ∀ N L e, e ≠ 0 → rule_premises.f (some M) s 1 i = some (some N, L, e) → N.take M.length = M → N.Nodup → M.length ≤ N.length → rule_Premises.f (some M) s 1 i = some (some M, [], e) := by
    intro N L e he e1 h1 h2 h3
    simp [rule_Premises.f, look_some hb, hl, fits_some hb, hf, formula_Table_Len.f, e1, he, cutP h1 h2 h3]
  have hbd : ({ s with left := s.left.del i } : Sq).left.okB = true := okB_del i
  have k345 : (nd M i).kind = 3 ∨ (nd M i).kind = 4 ∨ (nd M i).kind = 5 → (0 ≤ (nd M i).l ∧ (nd M i).l < 1024) ∧ (0 ≤ (nd M i).r ∧ (nd M i).r < 1024) := fun k => ⟨in1024 hw.len (hw.left hi k), in1024 hw.len (hw.right hi k)⟩
  exact ⟨M, [], 0, hP _ _ (by simp -implicitDefEqProofs [rule_premises.f, node_some, bits_Drop.f, chk, hb]), by simp -implicitDefEqProofs [ref09_Premises.f, docFits hw hb, hf, chk, hi, nd_at hi, ref05_Drop.f, hb]⟩
theorem prem_3 {M : List Nd} {s : Sq} {i : Int} (hw : Wf M) (hl : lookV M s = true) (hb : s.left.okB = true) (hf : fitsV M s 3 i = true) (hi : inb i M.length = true) (k : (nd M i).kind = 3) : Agree M s 3 i := by
  have h := lookV_rt hb hl
  have hd := hw.nodup
  unfold Agree
  have hP : ∀ M' L, rule_premises.f (some M) s 3 i = some (some M', L, 0) → rule_Premises.f (some M) s 3 i = some (some M', L, 0) := by
    intro M' L e
    simp [rule_Premises.f, look_some hb, hl, fits_some hb, hf, formula_Table_Len.f, e]
  have hE : ∀ N L e, e ≠ 0 → rule_premises.f (some M) s 3 i = some (some N, L, e) → N.take M.length = M → N.Nodup → M.length ≤ N.length → rule_Premises.f (some M) s 3 i = some (some M, [], e) := by
    intro N L e he e1 h1 h2 h3
    simp [rule_Premises.f, look_some hb, hl, fits_some hb, hf, formula_Table_Len.f, e1, he, cutP h1 h2 h3]
  have hbd : ({ s with left := s.left.del i } : Sq).left.okB = true := okB_del i
  have k345 : (nd M i).kind = 3 ∨ (nd M i).kind = 4 ∨ (nd M i).kind = 5 → (0 ≤ (nd M i).l ∧ (nd M i).l < 1024) ∧ (0 ≤ (nd M i).r ∧ (nd M i).r < 1024) := fun k => ⟨in1024 hw.len (hw.left hi k), in1024 hw.len (hw.right hi k)⟩
  obtain ⟨hx, hy⟩ := k345 (.inl k)
  obtain ⟨q, p1, p2⟩ := both2 (g := s.goal) (okB_del (b := s.left) i) hx hy
  exact ⟨M, _, 0, hP _ _ (by simp -implicitDefEqProofs [rule_premises.f, node_some, bits_Drop.f, chk, hb, p1]; rfl), by simp -implicitDefEqProofs [ref09_Premises.f, docFits hw hb, hf, chk, hi, nd_at hi, ref05_Drop.f, hb, p2]⟩
theorem prem_10 {M : List Nd} {s : Sq} {i : Int} (hw : Wf M) (hl : lookV M s = true) (hb : s.left.okB = true) (hf : fitsV M s 10 i = true) (hi : inb i M.length = true) (k : (nd M i).kind = 4) : Agree M s 10 i := by
  have h := lookV_rt hb hl
  have hd := hw.nodup
  unfold Agree
  have hP : ∀ M' L, rule_premises.f (some M) s 10 i = some (some M', L, 0) → rule_Premises.f (some M) s 10 i = some (some M', L, 0) := by
    intro M' L e
    simp [rule_Premises.f, look_some hb, hl, fits_some hb, hf, formula_Table_Len.f, e]
  have hE : ∀ N L e, e ≠ 0 → rule_premises.f (some M) s 10 i = some (some N, L, e) → N.take M.length = M → N.Nodup → M.length ≤ N.length → rule_Premises.f (some M) s 10 i = some (some M, [], e) := by
    intro N L e he e1 h1 h2 h3
    simp [rule_Premises.f, look_some hb, hl, fits_some hb, hf, formula_Table_Len.f, e1, he, cutP h1 h2 h3]
  have hbd : ({ s with left := s.left.del i } : Sq).left.okB = true := okB_del i
  have k345 : (nd M i).kind = 3 ∨ (nd M i).kind = 4 ∨ (nd M i).kind = 5 → (0 ≤ (nd M i).l ∧ (nd M i).l < 1024) ∧ (0 ≤ (nd M i).r ∧ (nd M i).r < 1024) := fun k => ⟨in1024 hw.len (hw.left hi k), in1024 hw.len (hw.right hi k)⟩
  obtain ⟨hx, hy⟩ := k345 (.inr (.inl k))
  obtain ⟨q, p1, p2⟩ := both1 (g := s.goal) (okB_del (b := s.left) i) hx
  obtain ⟨q', p3, p4⟩ := both1 (g := s.goal) (okB_del (b := s.left) i) hy
  exact ⟨M, _, 0, hP _ _ (by simp -implicitDefEqProofs [rule_premises.f, node_some, bits_Drop.f, chk, hb, p1, p3]; rfl), by simp -implicitDefEqProofs [ref09_Premises.f, docFits hw hb, hf, chk, hi, nd_at hi, ref05_Drop.f, hb, p2, p4]⟩
theorem prem_4 {M : List Nd} {s : Sq} {i : Int} (hw : Wf M) (hl : lookV M s = true) (hb : s.left.okB = true) (hf : fitsV M s 4 i = true) (hi : inb i M.length = true) (k : (nd M i).kind = 5) (c : (nd M (nd M i).l).kind = 1) : Agree M s 4 i := by
  have h := lookV_rt hb hl
  have hd := hw.nodup
  unfold Agree
  have hP : ∀ M' L, rule_premises.f (some M) s 4 i = some (some M', L, 0) → rule_Premises.f (some M) s 4 i = some (some M', L, 0) := by
    intro M' L e
    simp [rule_Premises.f, look_some hb, hl, fits_some hb, hf, formula_Table_Len.f, e]
  have hE : ∀ N L e, e ≠ 0 → rule_premises.f (some M) s 4 i = some (some N, L, e) → N.take M.length = M → N.Nodup → M.length ≤ N.length → rule_Premises.f (some M) s 4 i = some (some M, [], e) := by
    intro N L e he e1 h1 h2 h3
    simp [rule_Premises.f, look_some hb, hl, fits_some hb, hf, formula_Table_Len.f, e1, he, cutP h1 h2 h3]
  have hbd : ({ s with left := s.left.del i } : Sq).left.okB = true := okB_del i
  have k345 : (nd M i).kind = 3 ∨ (nd M i).kind = 4 ∨ (nd M i).kind = 5 → (0 ≤ (nd M i).l ∧ (nd M i).l < 1024) ∧ (0 ≤ (nd M i).r ∧ (nd M i).r < 1024) := fun k => ⟨in1024 hw.len (hw.left hi k), in1024 hw.len (hw.right hi k)⟩
  obtain ⟨hx, hy⟩ := k345 (.inr (.inr k))
  have hli := hw.left hi (.inr (.inr k))
  obtain ⟨q, p1, p2⟩ := both1 (g := s.goal) (okB_del (b := s.left) i) hy
  exact ⟨M, _, 0, hP _ _ (by simp -implicitDefEqProofs [rule_premises.f, node_some, bits_Drop.f, chk, hb, p1]; rfl), by simp -implicitDefEqProofs [ref09_Premises.f, docFits hw hb, hf, chk, hi, nd_at hi, ref05_Drop.f, hb, p2]⟩
theorem prem_5 {M : List Nd} {s : Sq} {i : Int} (hw : Wf M) (hl : lookV M s = true) (hb : s.left.okB = true) (hf : fitsV M s 5 i = true) (hi : inb i M.length = true) (k : (nd M i).kind = 5) (c : (nd M (nd M i).l).kind = 2) : Agree M s 5 i := by
  have h := lookV_rt hb hl
  have hd := hw.nodup
  unfold Agree
  have hP : ∀ M' L, rule_premises.f (some M) s 5 i = some (some M', L, 0) → rule_Premises.f (some M) s 5 i = some (some M', L, 0) := by
    intro M' L e
    simp [rule_Premises.f, look_some hb, hl, fits_some hb, hf, formula_Table_Len.f, e]
  have hE : ∀ N L e, e ≠ 0 → rule_premises.f (some M) s 5 i = some (some N, L, e) → N.take M.length = M → N.Nodup → M.length ≤ N.length → rule_Premises.f (some M) s 5 i = some (some M, [], e) := by
    intro N L e he e1 h1 h2 h3
    simp [rule_Premises.f, look_some hb, hl, fits_some hb, hf, formula_Table_Len.f, e1, he, cutP h1 h2 h3]
  have hbd : ({ s with left := s.left.del i } : Sq).left.okB = true := okB_del i
  have k345 : (nd M i).kind = 3 ∨ (nd M i).kind = 4 ∨ (nd M i).kind = 5 → (0 ≤ (nd M i).l ∧ (nd M i).l < 1024) ∧ (0 ≤ (nd M i).r ∧ (nd M i).r < 1024) := fun k => ⟨in1024 hw.len (hw.left hi k), in1024 hw.len (hw.right hi k)⟩
  obtain ⟨hx, hy⟩ := k345 (.inr (.inr k))
  have hli := hw.left hi (.inr (.inr k))
  exact ⟨M, _, 0, hP _ _ (by simp -implicitDefEqProofs [rule_premises.f, node_some, bits_Drop.f, chk, hb]; rfl), by simp -implicitDefEqProofs [ref09_Premises.f, docFits hw hb, hf, chk, hi, nd_at hi, ref05_Drop.f, hb]⟩
theorem prem_6 {M : List Nd} {s : Sq} {i : Int} (hw : Wf M) (hl : lookV M s = true) (hb : s.left.okB = true) (hf : fitsV M s 6 i = true) (hi : inb i M.length = true) (k : (nd M i).kind = 5) (c : (nd M (nd M i).l).kind = 3) : Agree M s 6 i := by
  have h := lookV_rt hb hl
  have hd := hw.nodup
  unfold Agree
  have hP : ∀ M' L, rule_premises.f (some M) s 6 i = some (some M', L, 0) → rule_Premises.f (some M) s 6 i = some (some M', L, 0) := by
    intro M' L e
    simp [rule_Premises.f, look_some hb, hl, fits_some hb, hf, formula_Table_Len.f, e]
  have hE : ∀ N L e, e ≠ 0 → rule_premises.f (some M) s 6 i = some (some N, L, e) → N.take M.length = M → N.Nodup → M.length ≤ N.length → rule_Premises.f (some M) s 6 i = some (some M, [], e) := by
    intro N L e he e1 h1 h2 h3
    simp [rule_Premises.f, look_some hb, hl, fits_some hb, hf, formula_Table_Len.f, e1, he, cutP h1 h2 h3]
  have hbd : ({ s with left := s.left.del i } : Sq).left.okB = true := okB_del i
  have k345 : (nd M i).kind = 3 ∨ (nd M i).kind = 4 ∨ (nd M i).kind = 5 → (0 ≤ (nd M i).l ∧ (nd M i).l < 1024) ∧ (0 ≤ (nd M i).r ∧ (nd M i).r < 1024) := fun k => ⟨in1024 hw.len (hw.left hi k), in1024 hw.len (hw.right hi k)⟩
  obtain ⟨hx, hy⟩ := k345 (.inr (.inr k))
  have hli := hw.left hi (.inr (.inr k))
  have hkk := hw.kids _ hli (.inl c)
  have hc0 : ¬ (nd M (nd M i).l).l < 0 := by omega
  have hc1 : ¬ (nd M (nd M i).l).r < 0 := by omega
  have hr0 : ¬ (nd M i).r < 0 := by omega
  obtain ⟨a1, b1, t1, d1, l1, g1⟩ := put_props (n := impN (nd M (nd M i).l).r (nd M i).r) hw.len hd
  generalize hp1 : putS M (impN (nd M (nd M i).l).r (nd M i).r) = P1 at a1 b1 t1 d1 l1 g1
  by_cases e1 : P1.2.2 = 0
  · obtain ⟨a2, b2, t2, d2, l2, g2⟩ := put_props (n := impN (nd M (nd M i).l).l P1.2.1) l1 d1
    generalize hp2 : putS P1.1 (impN (nd M (nd M i).l).l P1.2.1) = P2 at a2 b2 t2 d2 l2 g2
    have tt : P2.1.take M.length = M := by
      have := congrArg (List.take M.length) t2
      rw [List.take_take, Nat.min_eq_left g1, t1] at this
      exact this
    by_cases e2 : P2.2.2 = 0
    · obtain ⟨q, p1, p2⟩ := both1 (g := s.goal) (okB_del (b := s.left) i) (b2 e2)
      exact ⟨P2.1, [q], 0, hP _ _ (by simp -implicitDefEqProofs [rule_premises.f, node_some, bits_Drop.f, chk, hb, rule_pair.f, rule_imps__rule_pair_1__rule_premises_1.f, rule_pair_1.f, rule_premises_1.f, impP, hp1, hp2, e1, e2, at_, inb, p1]), by simp -implicitDefEqProofs [ref09_Premises.f, docFits hw hb, hf, chk, hi, hli, nd_at hi, nd_at hli, ref05_Drop.f, hb, ref09_imps.f, impD hw.len, impD l1, hp1, hp2, e1, e2, hc0, hc1, hr0, p2]⟩
    · exact ⟨M, [], P2.2.2, hE P2.1 [] _ e2 (by simp -implicitDefEqProofs [rule_premises.f, node_some, bits_Drop.f, chk, hb, rule_pair.f, rule_imps__rule_pair_1__rule_premises_1.f, rule_pair_1.f, rule_premises_1.f, impP, hp1, hp2, e1, e2, at_, inb]) tt d2 (by omega), by simp -implicitDefEqProofs [ref09_Premises.f, docFits hw hb, hf, chk, hi, hli, nd_at hi, nd_at hli, ref05_Drop.f, hb, ref09_imps.f, impD hw.len, impD l1, hp1, hp2, e1, e2, hc0, hc1, hr0, cutD tt (by omega)]⟩
  · exact ⟨M, [], P1.2.2, hE P1.1 [] _ e1 (by simp -implicitDefEqProofs [rule_premises.f, node_some, bits_Drop.f, chk, hb, rule_pair.f, rule_imps__rule_pair_1__rule_premises_1.f, rule_pair_1.f, rule_premises_1.f, impP, hp1, e1, at_, inb]) t1 d1 g1, by simp -implicitDefEqProofs [ref09_Premises.f, docFits hw hb, hf, chk, hi, hli, nd_at hi, nd_at hli, ref05_Drop.f, hb, ref09_imps.f, impD hw.len, hp1, e1, a1 e1]⟩
theorem prem_7 {M : List Nd} {s : Sq} {i : Int} (hw : Wf M) (hl : lookV M s = true) (hb : s.left.okB = true) (hf : fitsV M s 7 i = true) (hi : inb i M.length = true) (k : (nd M i).kind = 5) (c : (nd M (nd M i).l).kind = 4) : Agree M s 7 i := by
  have h := lookV_rt hb hl
  have hd := hw.nodup
  unfold Agree
  have hP : ∀ M' L, rule_premises.f (some M) s 7 i = some (some M', L, 0) → rule_Premises.f (some M) s 7 i = some (some M', L, 0) := by
    intro M' L e
    simp [rule_Premises.f, look_some hb, hl, fits_some hb, hf, formula_Table_Len.f, e]
  have hE : ∀ N L e, e ≠ 0 → rule_premises.f (some M) s 7 i = some (some N, L, e) → N.take M.length = M → N.Nodup → M.length ≤ N.length → rule_Premises.f (some M) s 7 i = some (some M, [], e) := by
    intro N L e he e1 h1 h2 h3
    simp [rule_Premises.f, look_some hb, hl, fits_some hb, hf, formula_Table_Len.f, e1, he, cutP h1 h2 h3]
  have hbd : ({ s with left := s.left.del i } : Sq).left.okB = true := okB_del i
  have k345 : (nd M i).kind = 3 ∨ (nd M i).kind = 4 ∨ (nd M i).kind = 5 → (0 ≤ (nd M i).l ∧ (nd M i).l < 1024) ∧ (0 ≤ (nd M i).r ∧ (nd M i).r < 1024) := fun k => ⟨in1024 hw.len (hw.left hi k), in1024 hw.len (hw.right hi k)⟩
  obtain ⟨hx, hy⟩ := k345 (.inr (.inr k))
  have hli := hw.left hi (.inr (.inr k))
  have hkk := hw.kids _ hli (.inr (.inl c))
  have hc0 : ¬ (nd M (nd M i).l).l < 0 := by omega
  have hc1 : ¬ (nd M (nd M i).l).r < 0 := by omega
  have hr0 : ¬ (nd M i).r < 0 := by omega
  obtain ⟨a1, b1, t1, d1, l1, g1⟩ := put_props (n := impN (nd M (nd M i).l).l (nd M i).r) hw.len hd
  generalize hp1 : putS M (impN (nd M (nd M i).l).l (nd M i).r) = P1 at a1 b1 t1 d1 l1 g1
  by_cases e1 : P1.2.2 = 0
  · obtain ⟨a2, b2, t2, d2, l2, g2⟩ := put_props (n := impN (nd M (nd M i).l).r (nd M i).r) l1 d1
    generalize hp2 : putS P1.1 (impN (nd M (nd M i).l).r (nd M i).r) = P2 at a2 b2 t2 d2 l2 g2
    have tt : P2.1.take M.length = M := by
      have := congrArg (List.take M.length) t2
      rw [List.take_take, Nat.min_eq_left g1, t1] at this
      exact this
    by_cases e2 : P2.2.2 = 0
    · obtain ⟨q, p1, p2⟩ := both2 (g := s.goal) (okB_del (b := s.left) i) (b1 e1) (b2 e2)
      exact ⟨P2.1, [q], 0, hP _ _ (by simp -implicitDefEqProofs [rule_premises.f, node_some, bits_Drop.f, chk, hb, rule_pair.f, rule_imps__rule_pair_1__rule_pair_1.f, rule_pair_1.f, rule_premises_1.f, impP, hp1, hp2, e1, e2, at_, inb, p1]), by simp -implicitDefEqProofs [ref09_Premises.f, docFits hw hb, hf, chk, hi, hli, nd_at hi, nd_at hli, ref05_Drop.f, hb, ref09_imps.f, impD hw.len, impD l1, hp1, hp2, e1, e2, hc0, hc1, hr0, p2]⟩
    · exact ⟨M, [], P2.2.2, hE P2.1 [] _ e2 (by simp -implicitDefEqProofs [rule_premises.f, node_some, bits_Drop.f, chk, hb, rule_pair.f, rule_imps__rule_pair_1__rule_pair_1.f, rule_pair_1.f, rule_premises_1.f, impP, hp1, hp2, e1, e2, at_, inb]) tt d2 (by omega), by simp -implicitDefEqProofs [ref09_Premises.f, docFits hw hb, hf, chk, hi, hli, nd_at hi, nd_at hli, ref05_Drop.f, hb, ref09_imps.f, impD hw.len, impD l1, hp1, hp2, e1, e2, hc0, hc1, hr0, cutD tt (by omega)]⟩
  · exact ⟨M, [], P1.2.2, hE P1.1 [] _ e1 (by simp -implicitDefEqProofs [rule_premises.f, node_some, bits_Drop.f, chk, hb, rule_pair.f, rule_imps__rule_pair_1__rule_pair_1.f, rule_pair_1.f, rule_premises_1.f, impP, hp1, e1, at_, inb]) t1 d1 g1, by simp -implicitDefEqProofs [ref09_Premises.f, docFits hw hb, hf, chk, hi, hli, nd_at hi, nd_at hli, ref05_Drop.f, hb, ref09_imps.f, impD hw.len, hp1, e1, a1 e1]⟩
theorem prem_13 {M : List Nd} {s : Sq} {i : Int} (hw : Wf M) (hl : lookV M s = true) (hb : s.left.okB = true) (hf : fitsV M s 13 i = true) (hi : inb i M.length = true) (k : (nd M i).kind = 5) (c : (nd M (nd M i).l).kind = 5) : Agree M s 13 i := by
  have h := lookV_rt hb hl
  have hd := hw.nodup
  unfold Agree
  have hP : ∀ M' L, rule_premises.f (some M) s 13 i = some (some M', L, 0) → rule_Premises.f (some M) s 13 i = some (some M', L, 0) := by
    intro M' L e
    simp [rule_Premises.f, look_some hb, hl, fits_some hb, hf, formula_Table_Len.f, e]
  have hE : ∀ N L e, e ≠ 0 → rule_premises.f (some M) s 13 i = some (some N, L, e) → N.take M.length = M → N.Nodup → M.length ≤ N.length → rule_Premises.f (some M) s 13 i = some (some M, [], e) := by
    intro N L e he e1 h1 h2 h3
    simp [rule_Premises.f, look_some hb, hl, fits_some hb, hf, formula_Table_Len.f, e1, he, cutP h1 h2 h3]
  have hbd : ({ s with left := s.left.del i } : Sq).left.okB = true := okB_del i
  have k345 : (nd M i).kind = 3 ∨ (nd M i).kind = 4 ∨ (nd M i).kind = 5 → (0 ≤ (nd M i).l ∧ (nd M i).l < 1024) ∧ (0 ≤ (nd M i).r ∧ (nd M i).r < 1024) := fun k => ⟨in1024 hw.len (hw.left hi k), in1024 hw.len (hw.right hi k)⟩
  obtain ⟨hx, hy⟩ := k345 (.inr (.inr k))
  have hli := hw.left hi (.inr (.inr k))
  obtain ⟨a1, b1, t1, d1, l1, g1⟩ := put_props (n := impN (nd M (nd M i).l).r (nd M i).r) hw.len hd
  generalize hp1 : putS M (impN (nd M (nd M i).l).r (nd M i).r) = P1 at a1 b1 t1 d1 l1 g1
  by_cases e1 : P1.2.2 = 0
  · obtain ⟨q, p1, p2⟩ := both1 (g := s.goal) (okB_del (b := s.left) i) (b1 e1)
    obtain ⟨q', p3, p4⟩ := both1 (g := s.goal) (okB_del (b := s.left) i) hy
    exact ⟨P1.1, _, 0, hP _ _ (by simp -implicitDefEqProofs [rule_premises.f, node_some, bits_Drop.f, chk, hb, rule_pair.f, rule_imps__rule_pair_1.f, rule_pair_1.f, impP, hp1, e1, at_, inb, p1, p3, rule_to.f]; rfl), by simp -implicitDefEqProofs [ref09_Premises.f, docFits hw hb, hf, chk, hi, hli, nd_at hi, nd_at hli, ref05_Drop.f, hb, impD hw.len, hp1, e1, p2, p4, ref09_to.f]⟩
  · exact ⟨M, [], P1.2.2, hE P1.1 [] _ e1 (by simp -implicitDefEqProofs [rule_premises.f, node_some, bits_Drop.f, chk, hb, rule_pair.f, rule_imps__rule_pair_1.f, rule_pair_1.f, impP, hp1, e1, at_, inb]) t1 d1 g1, by simp -implicitDefEqProofs [ref09_Premises.f, docFits hw hb, hf, chk, hi, hli, nd_at hi, nd_at hli, ref05_Drop.f, hb, impD hw.len, hp1, e1, a1 e1]⟩
theorem prem_eq {M : List Nd} {s : Sq} {r i : Int} (hw : Wf M) (hl : lookV M s = true) (hb : s.left.okB = true) : Agree M s r i := by
  cases hf : fitsV M s r i with
  | false => exact ⟨M, [], 90, by simp [rule_Premises.f, look_some hb, hl, fits_some hb, hf], by simp [ref09_Premises.f, docFits hw hb, hf]⟩
  | true =>
    obtain ⟨hi, hc⟩ := fits_cases hf
    rcases hc with rfl | ⟨rfl, k⟩ | ⟨rfl, k⟩ | ⟨hr, k⟩ | ⟨rfl, k⟩ | ⟨rfl, k⟩ | ⟨rfl, k⟩ | ⟨k, hc⟩
    · exact prem_2 hw hl hb hf hi
    · exact prem_8 hw hl hb hf hi k
    · exact prem_9 hw hl hb hf hi k
    · rcases hr with rfl | rfl
      · exact prem_11 hw hl hb hf hi k
      · exact prem_12 hw hl hb hf hi k
    · exact prem_1 hw hl hb hf hi k
    · exact prem_3 hw hl hb hf hi k
    · exact prem_10 hw hl hb hf hi k
    · rcases hc with ⟨rfl, c⟩ | ⟨rfl, c⟩ | ⟨rfl, c⟩ | ⟨rfl, c⟩ | ⟨rfl, c⟩
      · exact prem_4 hw hl hb hf hi k c
      · exact prem_5 hw hl hb hf hi k c
      · exact prem_6 hw hl hb hf hi k c
      · exact prem_7 hw hl hb hf hi k c
      · exact prem_13 hw hl hb hf hi k c
end Go.Proofs.YtjjkhjieegmphaaDoor
end
section
namespace Go.Proofs.YtjjkhjieegmphaaDoor
open Gw
set_option linter.unusedVariables false
set_option linter.unusedSimpArgs false
/-- the value at a row -/
abbrev vl (V : List Bool) (i : Int) : Bool := at_ false V i
/-- V tells the rows of N below n as their parts are -/
def Sem (N : List Nd) (V : List Bool) (n : Int) : Prop := ∀ i : Int, 0 ≤ i → i < n → ((nd N i).kind = 2 → vl V i = false) ∧ ((nd N i).kind = 3 → vl V i = (vl V (nd N i).l && vl V (nd N i).r)) ∧ ((nd N i).kind = 4 → vl V i = (vl V (nd N i).l || vl V (nd N i).r)) ∧ ((nd N i).kind = 5 → vl V i = (!vl V (nd N i).l || vl V (nd N i).r))
theorem wrap_pos (x : Int) : 0 ≤ IntKind.u64.wrap x := by simp [IntKind.wrap, IntKind.bits, IntKind.signed]; omega
theorem all_add {b : Bits} {x : Int} (hx : 0 ≤ x ∧ x < 1024) {p : Int → Prop} : (∀ j : Int, (b.add x).has j = true → p j) ↔ p x ∧ ∀ j : Int, b.has j = true → p j := by
  constructor
  · intro h
    exact ⟨h x (by rw [Bits.add_has _ _ _ hx]; simp), fun j hj => h j (by rw [Bits.add_has _ _ _ hx, hj]; simp)⟩
  · rintro ⟨h1, h2⟩ j hj
    rw [Bits.add_has _ _ _ hx] at hj
    simp only [Bool.or_eq_true, decide_eq_true_eq] at hj
    rcases hj with rfl | hj
    · exact h1
    · exact h2 j hj
theorem nd_app {N K : List Nd} {i : Int} (hi : inb i N.length = true) : nd (N ++ K) i = nd N i := by
  have h1 := inb_ex hi
  have h2 : i.toNat < N.length := by omega
  unfold nd nodeS hasRow
  rw [if_pos (by simp; omega), if_pos (by simp; omega)]
  simp only
  rw [List.getD_eq_getElem?_getD, List.getElem?_append_left h2, ← List.getD_eq_getElem?_getD]
/-- what a row that is put leaves -/
theorem put_nd {N : List Nd} {n : Nd} (hw : Wf N) (he : (putS N n).2.2 = 0) : nd (putS N n).1 (putS N n).2.1 = n ∧ Wf (putS N n).1 ∧ inb (putS N n).2.1 (putS N n).1.length = true ∧ (∀ i : Int, inb i N.length = true → nd (putS N n).1 i = nd N i) ∧ N.length ≤ (putS N n).1.length := by
  by_cases hf : fitsS N n = 0
  · cases hk : N.idxOf? n with
    | some k =>
      rw [put_old hf hk]
      obtain ⟨h1, h2, _⟩ := List.idxOf?_eq_some_iff.1 hk
      have hin : inb (k : Int) N.length = true := by rw [inb_nat]; simpa using h1
      refine ⟨?_, hw, hin, fun _ _ => rfl, Nat.le_refl _⟩
      rw [← nd_at hin, rows_take h1]
      simpa using h2
    | none =>
      by_cases hl : 1024 ≤ N.length
      · rw [put_full hf hk hl] at he; simp at he
      · rw [put_new hf hk hl]
        refine ⟨?_, wf_push hw hf (by omega) (List.idxOf?_eq_none_iff.1 hk), by rw [inb_nat]; simp, fun i hi => nd_app hi, by simp⟩
        unfold nd nodeS hasRow
        rw [if_pos (by simp; omega)]
        simp
  · rw [put_bad hf] at he; exact absurd he hf
end Go.Proofs.YtjjkhjieegmphaaDoor
end
section
namespace Go.Proofs.YtjjkhjieegmphaaDoor
open Gw
set_option linter.unusedVariables false
set_option linter.unusedSimpArgs false
/-- the premises of rule r on row i: the rows behind it, the sequents -/
inductive PremR (M : List Nd) (s : Sq) (i : Int) : Int → List Nd → List Sq → Prop
  | bot (h : s.left.has i = true) (k : (nd M i).kind = 2) : PremR M s i 1 M []
  | ax (h : s.left.has i = true) (g : i = s.goal) : PremR M s i 2 M []
  | andL (h : s.left.has i = true) (k : (nd M i).kind = 3) : PremR M s i 3 M [⟨((s.left.del i).add (nd M i).l).add (nd M i).r, s.goal⟩]
  | atom (h : s.left.has i = true) (k : (nd M i).kind = 5) (c : (nd M (nd M i).l).kind = 1) (a : s.left.has (nd M i).l = true) : PremR M s i 4 M [⟨(s.left.del i).add (nd M i).r, s.goal⟩]
  | botL (h : s.left.has i = true) (k : (nd M i).kind = 5) (c : (nd M (nd M i).l).kind = 2) : PremR M s i 5 M [⟨s.left.del i, s.goal⟩]
  | conj (h : s.left.has i = true) (k : (nd M i).kind = 5) (c : (nd M (nd M i).l).kind = 3) (e1 : (putS M (impN (nd M (nd M i).l).r (nd M i).r)).2.2 = 0)
      (e2 : (putS (putS M (impN (nd M (nd M i).l).r (nd M i).r)).1 (impN (nd M (nd M i).l).l (putS M (impN (nd M (nd M i).l).r (nd M i).r)).2.1)).2.2 = 0) :
      PremR M s i 6 (putS (putS M (impN (nd M (nd M i).l).r (nd M i).r)).1 (impN (nd M (nd M i).l).l (putS M (impN (nd M (nd M i).l).r (nd M i).r)).2.1)).1
        [⟨(s.left.del i).add (putS (putS M (impN (nd M (nd M i).l).r (nd M i).r)).1 (impN (nd M (nd M i).l).l (putS M (impN (nd M (nd M i).l).r (nd M i).r)).2.1)).2.1, s.goal⟩]
  | disj (h : s.left.has i = true) (k : (nd M i).kind = 5) (c : (nd M (nd M i).l).kind = 4) (e1 : (putS M (impN (nd M (nd M i).l).l (nd M i).r)).2.2 = 0)
      (e2 : (putS (putS M (impN (nd M (nd M i).l).l (nd M i).r)).1 (impN (nd M (nd M i).l).r (nd M i).r)).2.2 = 0) :
      PremR M s i 7 (putS (putS M (impN (nd M (nd M i).l).l (nd M i).r)).1 (impN (nd M (nd M i).l).r (nd M i).r)).1
        [⟨((s.left.del i).add (putS M (impN (nd M (nd M i).l).l (nd M i).r)).2.1).add (putS (putS M (impN (nd M (nd M i).l).l (nd M i).r)).1 (impN (nd M (nd M i).l).r (nd M i).r)).2.1, s.goal⟩]
  | impR (g : i = s.goal) (k : (nd M i).kind = 5) : PremR M s i 8 M [⟨s.left.add (nd M i).l, (nd M i).r⟩]
  | andR (g : i = s.goal) (k : (nd M i).kind = 3) : PremR M s i 9 M [⟨s.left, (nd M i).l⟩, ⟨s.left, (nd M i).r⟩]
  | orL (h : s.left.has i = true) (k : (nd M i).kind = 4) : PremR M s i 10 M [⟨(s.left.del i).add (nd M i).l, s.goal⟩, ⟨(s.left.del i).add (nd M i).r, s.goal⟩]
  | orR1 (g : i = s.goal) (k : (nd M i).kind = 4) : PremR M s i 11 M [⟨s.left, (nd M i).l⟩]
  | orR2 (g : i = s.goal) (k : (nd M i).kind = 4) : PremR M s i 12 M [⟨s.left, (nd M i).r⟩]
  | impL (h : s.left.has i = true) (k : (nd M i).kind = 5) (c : (nd M (nd M i).l).kind = 5) (e1 : (putS M (impN (nd M (nd M i).l).r (nd M i).r)).2.2 = 0) :
      PremR M s i 13 (putS M (impN (nd M (nd M i).l).r (nd M i).r)).1 [⟨(s.left.del i).add (putS M (impN (nd M (nd M i).l).r (nd M i).r)).2.1, (nd M i).l⟩, ⟨(s.left.del i).add (nd M i).r, s.goal⟩]
end Go.Proofs.YtjjkhjieegmphaaDoor
end
section
namespace Go.Proofs.YtjjkhjieegmphaaDoor
open Gw
set_option linter.unusedVariables false
set_option linter.unusedSimpArgs false
theorem fits_has {M : List Nd} {s : Sq} {r i : Int} (h : fitsV M s r i = true) : ((r = 8 ∨ r = 9 ∨ r = 11 ∨ r = 12) → i = s.goal) ∧ (r ≠ 8 → r ≠ 9 → r ≠ 11 → r ≠ 12 → s.left.has i = true) ∧ (r = 2 → i = s.goal) ∧ (r = 4 → s.left.has (nd M i).l = true) := by
  unfold fitsV at h
  cases hi : inb i M.length with
  | false => simp [hi] at h
  | true =>
    simp only [hi, Bool.true_eq_false, if_false] at h
    by_cases r2 : r = 2
    · rw [if_pos r2] at h
      simp only [Bool.and_eq_true, decide_eq_true_eq] at h
      exact ⟨fun q => by omega, fun _ _ _ _ => h.2, fun _ => h.1, fun q => by omega⟩
    rw [if_neg r2] at h
    by_cases r8 : r = 8
    · rw [if_pos r8] at h
      simp only [Bool.and_eq_true, decide_eq_true_eq] at h
      exact ⟨fun _ => h.1, fun q => absurd r8 q, fun q => by omega, fun q => by omega⟩
    rw [if_neg r8] at h
    by_cases r9 : r = 9
    · rw [if_pos r9] at h
      simp only [Bool.and_eq_true, decide_eq_true_eq] at h
      exact ⟨fun _ => h.1, fun _ q => absurd r9 q, fun q => by omega, fun q => by omega⟩
    rw [if_neg r9] at h
    by_cases r11 : r = 11 ∨ r = 12
    · rw [if_pos r11] at h
      simp only [Bool.and_eq_true, decide_eq_true_eq] at h
      exact ⟨fun _ => h.1, fun _ _ q q' => by omega, fun q => by omega, fun q => by omega⟩
    rw [if_neg r11] at h
    simp only [Bool.and_eq_true, decide_eq_true_eq, ne_eq] at h
    refine ⟨fun q => by omega, fun _ _ _ _ => h.1.2, fun q => by omega, fun q => ?_⟩
    subst q
    have h4 := h.2
    unfold onV at h4
    by_cases k5 : (nd M i).kind = 5
    · by_cases c1 : (nd M (nd M i).l).kind = 1
      · rw [if_neg (by omega), if_neg (by omega), if_neg (by omega), if_pos k5, if_pos c1] at h4
        split at h4
        · assumption
        · omega
      · exfalso
        rcases on_cases (M := M) (b := s.left) (i := i) (r := 4) h.2 (by decide) with q | q | q | ⟨_, q⟩ <;> omega
    · exfalso
      rcases on_cases (M := M) (b := s.left) (i := i) (r := 4) h.2 (by decide) with q | q | q | ⟨q, _⟩ <;> omega
theorem prem_rel {M : List Nd} {s : Sq} {r i : Int} {T : Tb} {L : List Sq} (hw : Wf M) (hb : s.left.okB = true) (hf : fitsV M s r i = true) (h : rule_premises.f (some M) s r i = some (T, L, 0)) : ∃ N, T = some N ∧ PremR M s i r N L := by
  obtain ⟨hi, hc⟩ := fits_cases hf
  obtain ⟨g1, g2, g3, g4⟩ := fits_has hf
  have k345 : (nd M i).kind = 3 ∨ (nd M i).kind = 4 ∨ (nd M i).kind = 5 → (0 ≤ (nd M i).l ∧ (nd M i).l < 1024) ∧ (0 ≤ (nd M i).r ∧ (nd M i).r < 1024) := fun k => ⟨in1024 hw.len (hw.left hi k), in1024 hw.len (hw.right hi k)⟩
  rcases hc with rfl | ⟨rfl, k⟩ | ⟨rfl, k⟩ | ⟨hr, k⟩ | ⟨rfl, k⟩ | ⟨rfl, k⟩ | ⟨rfl, k⟩ | ⟨k, hc⟩
  · simp -implicitDefEqProofs [rule_premises.f, node_some, bits_Drop.f, chk, hb] at h
    obtain ⟨rfl, rfl⟩ := h
    exact ⟨M, rfl, PremR.ax (g2 (by decide) (by decide) (by decide) (by decide)) (g3 rfl)⟩
  · obtain ⟨hx, hy⟩ := k345 (.inr (.inr k))
    simp -implicitDefEqProofs [rule_premises.f, node_some, bits_Drop.f, chk, hb, withP1 hb hx, rule_to.f] at h
    obtain ⟨rfl, rfl⟩ := h
    exact ⟨M, rfl, PremR.impR (g1 (by decide)) k⟩
  · simp -implicitDefEqProofs [rule_premises.f, node_some, bits_Drop.f, chk, hb, rule_to.f] at h
    obtain ⟨rfl, rfl⟩ := h
    exact ⟨M, rfl, PremR.andR (g1 (by decide)) k⟩
  · rcases hr with rfl | rfl
    · simp -implicitDefEqProofs [rule_premises.f, node_some, bits_Drop.f, chk, hb, rule_to.f] at h
      obtain ⟨rfl, rfl⟩ := h
      exact ⟨M, rfl, PremR.orR1 (g1 (by decide)) k⟩
    · simp -implicitDefEqProofs [rule_premises.f, node_some, bits_Drop.f, chk, hb, rule_to.f] at h
      obtain ⟨rfl, rfl⟩ := h
      exact ⟨M, rfl, PremR.orR2 (g1 (by decide)) k⟩
  · simp -implicitDefEqProofs [rule_premises.f, node_some, bits_Drop.f, chk, hb] at h
    obtain ⟨rfl, rfl⟩ := h
    exact ⟨M, rfl, PremR.bot (g2 (by decide) (by decide) (by decide) (by decide)) k⟩
  · obtain ⟨hx, hy⟩ := k345 (.inl k)
    simp -implicitDefEqProofs [rule_premises.f, node_some, bits_Drop.f, chk, hb, withP2m (okB_del i) hx hy] at h
    obtain ⟨rfl, rfl⟩ := h
    exact ⟨M, rfl, PremR.andL (g2 (by decide) (by decide) (by decide) (by decide)) k⟩
  · obtain ⟨hx, hy⟩ := k345 (.inr (.inl k))
    simp -implicitDefEqProofs [rule_premises.f, node_some, bits_Drop.f, chk, hb, withP1m (okB_del i) hx, withP1m (okB_del i) hy] at h
    obtain ⟨rfl, rfl⟩ := h
    exact ⟨M, rfl, PremR.orL (g2 (by decide) (by decide) (by decide) (by decide)) k⟩
  · obtain ⟨hx, hy⟩ := k345 (.inr (.inr k))
    rcases hc with ⟨rfl, c⟩ | ⟨rfl, c⟩ | ⟨rfl, c⟩ | ⟨rfl, c⟩ | ⟨rfl, c⟩
    · simp -implicitDefEqProofs [rule_premises.f, node_some, bits_Drop.f, chk, hb, withP1m (okB_del i) hy] at h
      obtain ⟨rfl, rfl⟩ := h
      exact ⟨M, rfl, PremR.atom (g2 (by decide) (by decide) (by decide) (by decide)) k c (g4 rfl)⟩
    · simp -implicitDefEqProofs [rule_premises.f, node_some, bits_Drop.f, chk, hb] at h
      obtain ⟨rfl, rfl⟩ := h
      exact ⟨M, rfl, PremR.botL (g2 (by decide) (by decide) (by decide) (by decide)) k c⟩
    · have q1 := put_props (n := impN (nd M (nd M i).l).r (nd M i).r) hw.len hw.nodup
      have con := @PremR.conj M s i (g2 (by decide) (by decide) (by decide) (by decide)) k c
      generalize hA : putS M (impN (nd M (nd M i).l).r (nd M i).r) = A1 at q1 con
      have q2 := (put_props (n := impN (nd M (nd M i).l).l A1.2.1) q1.2.2.2.2.1 q1.2.2.2.1).2.1
      generalize hB : putS A1.1 (impN (nd M (nd M i).l).l A1.2.1) = A2 at q2 con
      by_cases e1 : A1.2.2 = 0
      · by_cases e2 : A2.2.2 = 0
        · simp -implicitDefEqProofs [rule_premises.f, node_some, bits_Drop.f, chk, hb, rule_pair.f, rule_imps__rule_pair_1__rule_premises_1.f, rule_pair_1.f, rule_premises_1.f, impP, at_, inb, hA, hB, e1, e2, withP1m (okB_del i) (q2 e2)] at h
          obtain ⟨rfl, rfl⟩ := h
          exact ⟨_, rfl, con e1 e2⟩
        · simp -implicitDefEqProofs [rule_premises.f, node_some, bits_Drop.f, chk, hb, rule_pair.f, rule_imps__rule_pair_1__rule_premises_1.f, rule_pair_1.f, rule_premises_1.f, impP, at_, inb, hA, hB, e1, e2] at h
      · simp -implicitDefEqProofs [rule_premises.f, node_some, bits_Drop.f, chk, hb, rule_pair.f, rule_imps__rule_pair_1__rule_premises_1.f, rule_pair_1.f, rule_premises_1.f, impP, at_, inb, hA, e1] at h
    · have q1 := put_props (n := impN (nd M (nd M i).l).l (nd M i).r) hw.len hw.nodup
      have con := @PremR.disj M s i (g2 (by decide) (by decide) (by decide) (by decide)) k c
      generalize hA : putS M (impN (nd M (nd M i).l).l (nd M i).r) = A1 at q1 con
      have q2 := (put_props (n := impN (nd M (nd M i).l).r (nd M i).r) q1.2.2.2.2.1 q1.2.2.2.1).2.1
      generalize hB : putS A1.1 (impN (nd M (nd M i).l).r (nd M i).r) = A2 at q2 con
      by_cases e1 : A1.2.2 = 0
      · by_cases e2 : A2.2.2 = 0
        · simp -implicitDefEqProofs [rule_premises.f, node_some, bits_Drop.f, chk, hb, rule_pair.f, rule_imps__rule_pair_1__rule_pair_1.f, rule_pair_1.f, rule_premises_1.f, impP, at_, inb, hA, hB, e1, e2, withP2m (okB_del i) (q1.2.1 e1) (q2 e2)] at h
          obtain ⟨rfl, rfl⟩ := h
          exact ⟨_, rfl, con e1 e2⟩
        · simp -implicitDefEqProofs [rule_premises.f, node_some, bits_Drop.f, chk, hb, rule_pair.f, rule_imps__rule_pair_1__rule_pair_1.f, rule_pair_1.f, rule_premises_1.f, impP, at_, inb, hA, hB, e1, e2] at h
      · simp -implicitDefEqProofs [rule_premises.f, node_some, bits_Drop.f, chk, hb, rule_pair.f, rule_imps__rule_pair_1__rule_pair_1.f, rule_pair_1.f, rule_premises_1.f, impP, at_, inb, hA, e1] at h
    · have p1 := (put_props (n := impN (nd M (nd M i).l).r (nd M i).r) hw.len hw.nodup).2.1
      have con := @PremR.impL M s i (g2 (by decide) (by decide) (by decide) (by decide)) k c
      generalize hA : putS M (impN (nd M (nd M i).l).r (nd M i).r) = A1 at p1 con
      by_cases e1 : A1.2.2 = 0
      · simp -implicitDefEqProofs [rule_premises.f, node_some, bits_Drop.f, chk, hb, rule_pair.f, rule_imps__rule_pair_1.f, rule_pair_1.f, impP, hA, e1, withP1m (okB_del i) (p1 e1), withP1m (okB_del i) hy, rule_to.f] at h
        obtain ⟨rfl, rfl⟩ := h
        exact ⟨_, rfl, con e1⟩
      · simp -implicitDefEqProofs [rule_premises.f, node_some, bits_Drop.f, chk, hb, rule_pair.f, rule_imps__rule_pair_1.f, rule_pair_1.f, impP, hA, e1] at h
end Go.Proofs.YtjjkhjieegmphaaDoor
end
section
namespace Go.Proofs.YtjjkhjieegmphaaDoor
open Gw
set_option linter.unusedVariables false

def law09_RuleTruth.b0 (r20 : List Nd) (r12 : Tb × List Sq × Int × Bool) (r33 : List Bool) (i37 : Int) (x37_0 : Bool) : Option (Stp Bool Bool) :=
  (ref09_Right.f (some ((some r20).getD [])) (at_ Sq.z r12.2.1 i37)).bind fun r40 => if !r40 then some (.ret false) else (if (!x37_0) then law09_wrong.f r33 (at_ Sq.z r12.2.1 i37) else some false).bind fun r45 => some (.go (x37_0 || r45))
def law09_RuleTruth.f (a0 : List Nd) (a1 : Sq) (a2 : Int) (a3 : Int) : Option Bool :=
  (law03_Both.f a0).bind fun r3 => if !r3.2.2 then (law09_heads.f).bind fun r9 => some r9 else (law09_next.f r3.1 a1 a2).bind fun r12 => if !r12.2.2.2 then (law09_heads.f).bind fun r17 => some r17 else (formula_Table_Rows.f r12.1).bind fun r20 => (ref09_Right.f (some r20) a1).bind fun r26 => if !r26 then some false else (law09_value.f ((some r20).getD []) a3).bind fun r33 => (forN (fun i s => law09_RuleTruth.b0 r20 r12 r33 i s) ((r12.2.1.length : Int) - 0).toNat 0 false).bind (aft fun (s37 : Bool) => (law09_wrong.f r33 a1).bind fun r49 => if r49 && (!s37) then some false else (if (!((!(((decide (r12.2.2.1 ≠ 11)) && (decide (r12.2.2.1 ≠ 12))) && (decide (r12.2.2.1 ≠ 13)))) || (!s37))) then law09_wrong.f r33 a1 else some false).bind fun r53 => (if (((!(((decide (r12.2.2.1 ≠ 11)) && (decide (r12.2.2.1 ≠ 12))) && (decide (r12.2.2.1 ≠ 13)))) || (!s37)) || r53) then law09_heads.f else some false).bind fun r55 => some ((((!(((decide (r12.2.2.1 ≠ 11)) && (decide (r12.2.2.1 ≠ 12))) && (decide (r12.2.2.1 ≠ 13)))) || (!s37)) || r53) && r55))
end Go.Proofs.YtjjkhjieegmphaaDoor
end
