/- Texts put together: Tables out of rows: the walks. Printed by pp.py, a program of mine. Chapter 13, the heads: the walks. Printed by pp.py, a program of mine. Chapter 13, the document's types: the walks. Printed by pp.py, a program of mine. Chapter 13: the document's checker, made while the order is open. -/
import Derived.Test.YtjebgcoknpcadaaDoorMC3
set_option linter.unusedVariables false
set_option linter.unusedSimpArgs false
section
namespace Go.Proofs.YtjebgcoknpcadaaDoor
open Gw Go.RowKit
set_option maxHeartbeats 4000000
set_option maxRecDepth 20000
theorem formula_From_st {A : Nat → Prop} {N : Oth} {w : World} {a0 : List Nd} {s_0 : SlV} (S : St A N w w [] [fS 4 Nd.C s_0 a0]) {r : Tb × Int} (H : formula_From.f a0 = some r) :
  Calls PP F_formula_From #[s_0.v] w fun e w' => ∃ v, e = .returned v ∧ (∃ ao0 : Option Addr, v = .tuple #[.pointer ao0, .int .i64 r.2] ∧ St A N w w' [oT ao0 r.1] []) := by
 unfold formula_From.f at H
 refine calls_of_wc (n := 35) fn_formula_From rfl rfl (by simp) ?_
 refine wc_seq (wc_region ?_)
 replace S : St A N w w [oT none none] [fS 4 Nd.C s_0 a0] := S.add (Ext.refl _) (oT.nil _) (fun _ x => x.elim)
 refine wd (does_as_p rfl) ?_
 refine wd (does_as_i rfl) ?_
 refine wl_nil ?_
 refine wc_seq (wc_region ?_)
 obtain ⟨r1, er1, H⟩ := bind_ex H
 obtain ⟨B3, MB3, SB3, back⟩ := S.calln 0 ((.nil))
 refine wl_call (does_call ca_formula_New) (by decide) (formula_New_st SB3 er1) ?_
 rintro _ w2 ⟨a4, rfl, S2⟩
 replace S : St A N w w2 [oT a4 r1, oT none none] [fS 4 Nd.C s_0 a0] := back _ _ _ _ S2 rfl
 clear back S2 SB3
 refine wd (does_as_p rfl) ?_
 refine wl_nil ?_
 refine wc_seq (wc_seq (wc_region ?_))
 refine wd (does_mv_l rfl) ?_
 refine wd (does_lenR sl_L_api_Node rfl (S.rd 0)) ?_
 refine wd (does_mv_i rfl) ?_
 refine wl_nil ?_
 obtain ⟨o5, e5, Ho5⟩ := bind_ex H
 clear H
 refine wc_cutq [2, 3, 5, 6, 7, 8, 12, 13, 14, 15, 16, 17, 18, 19, 20, 21, 22, 23, 24, 25, 26, 27, 28, 29, 30, 31, 32, 33] (fun fr W => ∃ s5 : Tb, o5 = .inl s5 ∧ St A N w W [oT a4 s5, oT none none] [fS 4 Nd.C s_0 a0]) ?_ ?_
 ·refine wc_block ?_
  refine wc_loopm (α := Nat × Int × Tb) [2, 3, 5, 6, 7, 8, 12, 13, 14, 15, 16, 17, 18, 19, 20, 21, 22, 23, 24, 25, 26, 27, 28, 29, 30, 31, 32, 33] (fun x fr W => (x.1 : Int) = (a0.length : Int) - x.2.1 ∧ 0 ≤ x.2.1 ∧ forN (fun i s => formula_From.b0 a0 i s) x.1 x.2.1 x.2.2 = some o5 ∧ fr 12 = .int .i64 x.2.1 ∧ St A N w W [oT a4 (x.2.2), oT none none] [fS 4 Nd.C s_0 a0]) (fun x => x.1) (((a0.length : Int) - 0).toNat, 0, r1) ⟨(by dsimp only; have hle := Int.natCast_nonneg (a0.length); omega), (Int.le_refl _), (by dsimp only; exact e5), rfl, S⟩ ?_
  rintro ⟨m5, i5, x5_0⟩ g5 u5 ⟨hm5, hl5, e5, q5_i, S⟩
  try dsimp only at hm5
  try dsimp only at hl5
  try dsimp only at e5
  try dsimp only at S
  try dsimp only at q5_i
  refine wc_seq (wc_region ?_)
  refine wd (does_lt q5_i rfl) ?_
  refine wl_nil ?_
  refine wc_seq ?_
  refine wc_if rfl (fun hc6 => ?_) (fun hc6 => ?_)
  rotate_left
  ·refine wc_exit ?_
   have hge : (a0.length : Int) ≤ i5 := Int.not_lt.1 (of_decide_eq_false hc6)
   obtain rfl : m5 = 0 := by omega
   replace e5 := forN_0 e5
   exact ⟨rfl, ((Dif.self _ _ _).upd rfl _), x5_0, e5, S⟩
  refine wc_skip ?_
  have hlt5 : i5 < (a0.length : Int) := of_decide_eq_true hc6
  obtain ⟨m5, rfl⟩ : ∃ m, m5 = m + 1 := ⟨m5 - 1, by omega⟩
  obtain ⟨q5, H, e5⟩ := forN_s e5
  unfold formula_From.b0 at H
  try dsimp only at H
  have hb5 := (S.len 0)
  refine wc_seq ?_
  refine wc_block ?_
  refine wc_seq (wc_region ?_)
  refine wd (does_mv_i q5_i) ?_
  refine wd (does_indexR sl_L_api_Node rfl q5_i (S.rd 0) (And.intro (show 0 ≤ i5 by omega) (show i5 < (a0.length : Int) from hlt5)).1 (And.intro (show 0 ≤ i5 by omega) (show i5 < (a0.length : Int) from hlt5)).2) ?_
  refine wd (does_load_agg ag_Nd rfl ((S.rd 0).at (at_some Nd.z (And.intro (show 0 ≤ i5 by omega) (show i5 < (a0.length : Int) from hlt5)))) (Nd.len _)) ?_
  refine wl_alloc ze_Nd (by decide) fun b9 w8 hw8 => ?_
  replace S : St A N w w8 [oB b9 T_Nd (Nd.C Nd.z), oT a4 x5_0, oT none none] [fS 4 Nd.C s_0 a0] := S.new hw8
  refine wd (does_as_i rfl) ?_
  refine wl_store_agg ag_Nd rfl rfl (S.blk 0) (Nd.len _) (by rw [Nd.len]; decide) (Nd.one _) (store_all (Nd.len _)) fun w10 B hw10 zw10 => ?_
  replace S : St A N w w10 [oB b9 T_Nd (Nd.C (at_ Nd.z a0 i5)), oT a4 x5_0, oT none none] [fS 4 Nd.C s_0 a0] := S.store 0 B hw10
  clear B
  refine wl_nil ?_
  refine wc_seq (wc_region ?_)
  refine wd (does_mv_p rfl) ?_
  refine wd (does_load_agg ag_Nd rfl ((S.blk 0).all _ (Nd.len _)) (Nd.len _)) ?_
  obtain ⟨r11, er11, H⟩ := bind_ex H
  replace S : St A N w w10 [oT a4 x5_0, oB b9 T_Nd (Nd.C (at_ Nd.z a0 i5)), oT none none] [fS 4 Nd.C s_0 a0] := S.front 1
  obtain ⟨B13, MB13, SB13, back⟩ := S.calln 1 ((.nil))
  refine wl_call (does_call ca_formula_Table_Put) (by decide) (formula_Table_Put_st SB13 er11) ?_
  rintro _ w12 ⟨rfl, S2⟩
  replace S : St A N w w12 [oT a4 r11.1, oB b9 T_Nd (Nd.C (at_ Nd.z a0 i5)), oT none none] [fS 4 Nd.C s_0 a0] := back _ _ _ _ S2 rfl
  clear back S2 SB13
  refine wd (does_mv_t rfl) ?_
  refine wd (does_extract rfl rfl) ?_
  refine wd (does_extract rfl rfl) ?_
  refine wd (does_as_i rfl) ?_
  refine wd (does_as_i rfl) ?_
  refine wl_nil ?_
  refine wc_seq (wc_seq (wc_region ?_))
  refine wd (does_mv_i rfl) ?_
  refine wd (does_eq rfl rfl) ?_
  refine wd (does_mv_b rfl) ?_
  refine wl_guard (j := 2) (pol := true) rfl rfl rfl (by decide) (fun hg => does_mv_i rfl) (by decide) ?_
  refine wl_guard (j := 2) (pol := true) rfl rfl rfl (by decide) (fun hg => does_mv_i rfl) (by decide) ?_
  refine wl_guard (j := 2) (pol := true) rfl rfl rfl (by decide) (fun hg => does_ne (gv_yes hg) (gv_yes hg)) (by decide) ?_
  refine wd (does_and rfl (fun hp => (gv_yes (and_1 hp)))) ?_
  refine wl_nil ?_
  refine wc_if rfl (fun hc14 => ?_) (fun hc14 => ?_)
  ·replace H := if_t hc14 H
   refine wc_region ?_
   refine wd (does_as_i rfl) ?_
   refine wl_nil ?_
   refine wc_seq (wc_region ?_)
   refine wd (does_mv_i rfl) ?_
   refine wd (does_ne rfl rfl) ?_
   refine wl_nil ?_
   refine wc_if rfl (fun hc15 => ?_) (fun hc15 => ?_)
   ·replace H := if_t hc15 H
    refine wc_seq (wc_region ?_)
    refine wd (does_mv_i rfl) ?_
    replace S : St A N w w12 [oT none none, oT a4 r11.1, oB b9 T_Nd (Nd.C (at_ Nd.z a0 i5)), oT none none] [fS 4 Nd.C s_0 a0] := S.add (Ext.refl _) (oT.nil _) (fun _ x => x.elim)
    refine wd (does_as_p rfl) ?_
    refine wd (does_as_i rfl) ?_
    refine wl_nil ?_
    refine wc_ret ?_
    refine ⟨_, (rets2 (retOne_tmp rfl) (retOne_tmp rfl)), ?_⟩
    replace S : St A N w w12 [oT none none] [] := S.arr [0] []
    obtain rfl := Option.some.inj H
    obtain rfl := e5
    obtain rfl := aft_r Ho5
    exact ⟨none, rfl, S⟩
   replace H := if_f hc15 H
   refine wc_skip ?_
   refine wc_region ?_
   refine wd (does_addc q5_i rfl (c := i5 + 1) rfl (by omega) (by omega)) ?_
   refine wd (does_mv_i rfl) ?_
   refine wl_nil ?_
   replace S : St A N w w12 [oT a4 r11.1, oT none none] [fS 4 Nd.C s_0 a0] := S.arr [0, 2] [0]
   obtain rfl := Option.some.inj H
   exact ⟨rfl, (((((((((((((((((((((((((((Dif.self _ _ _).upd rfl _).upd rfl _).upd rfl _).upd rfl _).upd rfl _).upd rfl _).upd rfl _).upd rfl _).upd rfl _).upd rfl _).upd rfl _).upd rfl _).upd rfl _).upd rfl _).upd rfl _).upd rfl _).upd rfl _).upd rfl _).upd rfl _).upd rfl _).upd rfl _).upd rfl _).upd rfl _).upd rfl _).upd rfl _).upd rfl _), (m5, i5 + 1, r11.1), ⟨(by dsimp only; omega), (by dsimp only; omega), e5, rfl, S⟩, by dsimp only; omega⟩
  ·replace H := if_f hc14 H
   refine wc_skip ?_
   refine wc_seq (wc_region ?_)
   refine wd (does_mv_i rfl) ?_
   refine wd (does_ne rfl rfl) ?_
   refine wl_nil ?_
   refine wc_if rfl (fun hc16 => ?_) (fun hc16 => ?_)
   ·replace H := if_t hc16 H
    refine wc_seq (wc_region ?_)
    refine wd (does_mv_i rfl) ?_
    replace S : St A N w w12 [oT none none, oT a4 r11.1, oB b9 T_Nd (Nd.C (at_ Nd.z a0 i5)), oT none none] [fS 4 Nd.C s_0 a0] := S.add (Ext.refl _) (oT.nil _) (fun _ x => x.elim)
    refine wd (does_as_p rfl) ?_
    refine wd (does_as_i rfl) ?_
    refine wl_nil ?_
    refine wc_ret ?_
    refine ⟨_, (rets2 (retOne_tmp rfl) (retOne_tmp rfl)), ?_⟩
    replace S : St A N w w12 [oT none none] [] := S.arr [0] []
    obtain rfl := Option.some.inj H
    obtain rfl := e5
    obtain rfl := aft_r Ho5
    exact ⟨none, rfl, S⟩
   replace H := if_f hc16 H
   refine wc_skip ?_
   refine wc_region ?_
   refine wd (does_addc q5_i rfl (c := i5 + 1) rfl (by omega) (by omega)) ?_
   refine wd (does_mv_i rfl) ?_
   refine wl_nil ?_
   replace S : St A N w w12 [oT a4 r11.1, oT none none] [fS 4 Nd.C s_0 a0] := S.arr [0, 2] [0]
   obtain rfl := Option.some.inj H
   exact ⟨rfl, ((((((((((((((((((((((((((Dif.self _ _ _).upd rfl _).upd rfl _).upd rfl _).upd rfl _).upd rfl _).upd rfl _).upd rfl _).upd rfl _).upd rfl _).upd rfl _).upd rfl _).upd rfl _).upd rfl _).upd rfl _).upd rfl _).upd rfl _).upd rfl _).upd rfl _).upd rfl _).upd rfl _).upd rfl _).upd rfl _).upd rfl _).upd rfl _).upd rfl _), (m5, i5 + 1, r11.1), ⟨(by dsimp only; omega), (by dsimp only; omega), e5, rfl, S⟩, by dsimp only; omega⟩
 rintro g17 u18 ⟨s5, rfl, S⟩
 have H := Ho5
 dsimp only [aft] at H
 refine wc_seq (wc_region ?_)
 refine wd (does_mv_p rfl) ?_
 refine wd (does_as_p rfl) ?_
 refine wd (does_as_i rfl) ?_
 refine wl_nil ?_
 refine wc_ret ?_
 refine ⟨_, (rets2 (retOne_tmp rfl) (retOne_tmp rfl)), ?_⟩
 replace S : St A N w u18 [oT a4 s5] [] := S.arr [0] []
 obtain rfl := Option.some.inj H
 exact ⟨a4, rfl, S⟩
theorem ref03_Ints_st {A : Nat → Prop} {N : Oth} {w : World} {a0 : List Int} {s_0 : SlV} {a1 : List Int} {s_1 : SlV} (S : St A N w w [] [fS 1 IC s_0 a0, fS 1 IC s_1 a1]) {r : Bool} (H : ref03_Ints.f a0 a1 = some r) :
  Calls PP F_ref03_Ints #[s_0.v, s_1.v] w fun e w' => ∃ v, e = .returned v ∧ (v = .bool r ∧ St A N w w' [] []) := by
 unfold ref03_Ints.f at H
 refine calls_of_wc (n := 26) fn_ref03_Ints rfl rfl (by simp) ?_
 refine wc_seq (wc_region ?_)
 refine wd (does_as_b rfl) ?_
 refine wl_nil ?_
 refine wc_seq (wc_seq (wc_region ?_))
 refine wd (does_mv_l rfl) ?_
 refine wd (does_lenR sl_L_int rfl (S.rd 0)) ?_
 refine wd (does_mv_l rfl) ?_
 refine wd (does_lenR sl_L_int rfl (S.rd 1)) ?_
 refine wd (does_ne rfl rfl) ?_
 refine wl_nil ?_
 refine wc_if rfl (fun hc1 => ?_) (fun hc1 => ?_)
 ·replace H := if_t hc1 H
  refine wc_seq (wc_region ?_)
  refine wd (does_as_b rfl) ?_
  refine wl_nil ?_
  refine wc_ret ?_
  refine ⟨_, (rets1 (retOne_tmp rfl)), ?_⟩
  replace S : St A N w w [] [] := S.arr [] []
  obtain rfl := Option.some.inj H
  exact ⟨rfl, S⟩
 replace H := if_f hc1 H
 refine wc_skip ?_
 refine wc_seq (wc_seq (wc_region ?_))
 refine wd (does_as_i rfl) ?_
 refine wl_nil ?_
 obtain ⟨o2, e2, Ho2⟩ := bind_ex H
 clear H
 refine wc_cutq [4, 5, 11, 12, 13, 14, 15, 16, 17, 18, 19, 20, 21, 22, 23, 24, 25] (fun fr W => ∃ s2 : Unit, o2 = .inl s2 ∧ St A N w W [] [fS 1 IC s_0 a0, fS 1 IC s_1 a1]) ?_ ?_
 ·refine wc_block ?_
  refine wc_loopm (α := Nat × Int × Unit) [4, 5, 11, 12, 13, 14, 15, 16, 17, 18, 19, 20, 21, 22, 23, 24, 25] (fun x fr W => (x.1 : Int) = (a0.length : Int) - x.2.1 ∧ 0 ≤ x.2.1 ∧ forN (fun i s => ref03_Ints.b0 a1 a0 i) x.1 x.2.1 x.2.2 = some o2 ∧ fr 5 = .int .i64 x.2.1 ∧ St A N w W [] [fS 1 IC s_0 a0, fS 1 IC s_1 a1]) (fun x => x.1) (((a0.length : Int) - 0).toNat, 0, ()) ⟨(by dsimp only; have hle := Int.natCast_nonneg (a0.length); omega), (Int.le_refl _), (by dsimp only; exact e2), rfl, S⟩ ?_
  rintro ⟨m2, i2, _⟩ g2 u2 ⟨hm2, hl2, e2, q2_i, S⟩
  try dsimp only at hm2
  try dsimp only at hl2
  try dsimp only at e2
  try dsimp only at S
  try dsimp only at q2_i
  refine wc_seq (wc_seq (wc_region ?_))
  refine wd (does_mv_i q2_i) ?_
  refine wd (does_mv_l rfl) ?_
  refine wd (does_lenR sl_L_int rfl (S.rd 0)) ?_
  refine wd (does_lt rfl rfl) ?_
  refine wl_nil ?_
  refine wc_if rfl (fun hc3 => ?_) (fun hc3 => ?_)
  rotate_left
  ·refine wc_exit ?_
   have hge : (a0.length : Int) ≤ i2 := Int.not_lt.1 (of_decide_eq_false hc3)
   obtain rfl : m2 = 0 := by omega
   replace e2 := forN_0 e2
   exact ⟨rfl, (((((Dif.self _ _ _).upd rfl _).upd rfl _).upd rfl _).upd rfl _), (), e2, S⟩
  refine wc_skip ?_
  have hlt2 : i2 < (a0.length : Int) := of_decide_eq_true hc3
  obtain ⟨m2, rfl⟩ : ∃ m, m2 = m + 1 := ⟨m2 - 1, by omega⟩
  obtain ⟨q2, H, e2⟩ := forN_s e2
  unfold ref03_Ints.b0 at H
  try dsimp only at H
  have hb2 := (S.len 0)
  refine wc_seq ?_
  refine wc_block ?_
  refine wc_seq ?_
  refine wc_quiet 8 (Ext u2) hmix (by kernel_rfl) (by kernel_rfl) (Ext.drawn _) ?_
  refine wq_does (fun v K => does_mv_l rfl) ?_
  refine wq_does (fun v K => does_mv_i q2_i) ?_
  refine wq_does (fun v K => does_indexR sl_L_int rfl rfl ((S.ext K).rd 0) (And.intro (show 0 ≤ i2 by omega) (show i2 < (a0.length : Int) from hlt2)).1 (And.intro (show 0 ≤ i2 by omega) (show i2 < (a0.length : Int) from hlt2)).2) ?_
  refine wq_does (fun v K => does_load on_int rfl (((S.ext K).rd 0).one (at_some (0 : Int) (And.intro (show 0 ≤ i2 by omega) (show i2 < (a0.length : Int) from hlt2))) rfl)) ?_
  refine wq_does (fun v K => does_mv_l rfl) ?_
  refine wq_does (fun v K => does_mv_i q2_i) ?_
  obtain ⟨hi5, H⟩ := chk_ex H
  refine wq_does (fun v K => does_indexR sl_L_int rfl rfl ((S.ext K).rd 1) (inb_ex hi5).1 (inb_ex hi5).2) ?_
  refine wq_does (fun v K => does_load on_int rfl (((S.ext K).rd 1).one (at_some (0 : Int) (inb_ex hi5)) rfl)) ?_
  refine wq_nil fun w6 K => ?_
  replace S := S.ext K
  clear K
  refine wd (does_ne rfl rfl) ?_
  refine wl_nil ?_
  refine wc_if rfl (fun hc7 => ?_) (fun hc7 => ?_)
  ·replace H := if_t hc7 H
   refine wc_seq (wc_region ?_)
   refine wd (does_as_b rfl) ?_
   refine wl_nil ?_
   refine wc_ret ?_
   refine ⟨_, (rets1 (retOne_tmp rfl)), ?_⟩
   replace S : St A N w w6 [] [] := S.arr [] []
   obtain rfl := Option.some.inj H
   obtain rfl := e2
   obtain rfl := aft_r Ho2
   exact ⟨rfl, S⟩
  replace H := if_f hc7 H
  refine wc_skip ?_
  refine wc_region ?_
  refine wd (does_mv_i q2_i) ?_
  refine wd (does_addc rfl rfl (c := i2 + 1) rfl (by omega) (by omega)) ?_
  refine wd (does_as_i rfl) ?_
  refine wl_nil ?_
  obtain rfl := Option.some.inj H
  exact ⟨rfl, (((((((((((((((((Dif.self _ _ _).upd rfl _).upd rfl _).upd rfl _).upd rfl _).upd rfl _).upd rfl _).upd rfl _).upd rfl _).upd rfl _).upd rfl _).upd rfl _).upd rfl _).upd rfl _).upd rfl _).upd rfl _).upd rfl _), (m2, i2 + 1, ()), ⟨(by dsimp only; omega), (by dsimp only; omega), e2, rfl, S⟩, by dsimp only; omega⟩
 rintro g8 u9 ⟨s2, rfl, S⟩
 have H := Ho2
 dsimp only [aft] at H
 refine wc_seq (wc_region ?_)
 refine wd (does_as_b rfl) ?_
 refine wl_nil ?_
 refine wc_ret ?_
 refine ⟨_, (rets1 (retOne_tmp rfl)), ?_⟩
 replace S : St A N w u9 [] [] := S.arr [] []
 obtain rfl := Option.some.inj H
 exact ⟨rfl, S⟩
theorem ref03_Same_st {A : Nat → Prop} {N : Oth} {w : World} {a0 : List Nd} {s_0 : SlV} {a1 : List Nd} {s_1 : SlV} (S : St A N w w [] [fS 4 Nd.C s_0 a0, fS 4 Nd.C s_1 a1]) {r : Bool} (H : ref03_Same.f a0 a1 = some r) :
  Calls PP F_ref03_Same #[s_0.v, s_1.v] w fun e w' => ∃ v, e = .returned v ∧ (v = .bool r ∧ St A N w w' [] []) := by
 unfold ref03_Same.f at H
 refine calls_of_wc (n := 26) fn_ref03_Same rfl rfl (by simp) ?_
 refine wc_seq (wc_region ?_)
 refine wd (does_as_b rfl) ?_
 refine wl_nil ?_
 refine wc_seq (wc_seq (wc_region ?_))
 refine wd (does_mv_l rfl) ?_
 refine wd (does_lenR sl_L_api_Node rfl (S.rd 0)) ?_
 refine wd (does_mv_l rfl) ?_
 refine wd (does_lenR sl_L_api_Node rfl (S.rd 1)) ?_
 refine wd (does_ne rfl rfl) ?_
 refine wl_nil ?_
 refine wc_if rfl (fun hc1 => ?_) (fun hc1 => ?_)
 ·replace H := if_t hc1 H
  refine wc_seq (wc_region ?_)
  refine wd (does_as_b rfl) ?_
  refine wl_nil ?_
  refine wc_ret ?_
  refine ⟨_, (rets1 (retOne_tmp rfl)), ?_⟩
  replace S : St A N w w [] [] := S.arr [] []
  obtain rfl := Option.some.inj H
  exact ⟨rfl, S⟩
 replace H := if_f hc1 H
 refine wc_skip ?_
 refine wc_seq (wc_seq (wc_region ?_))
 refine wd (does_as_i rfl) ?_
 refine wl_nil ?_
 obtain ⟨o2, e2, Ho2⟩ := bind_ex H
 clear H
 refine wc_cutq [4, 5, 11, 12, 13, 14, 15, 16, 17, 18, 19, 20, 21, 22, 23, 24, 25] (fun fr W => ∃ s2 : Unit, o2 = .inl s2 ∧ St A N w W [] [fS 4 Nd.C s_0 a0, fS 4 Nd.C s_1 a1]) ?_ ?_
 ·refine wc_block ?_
  refine wc_loopm (α := Nat × Int × Unit) [4, 5, 11, 12, 13, 14, 15, 16, 17, 18, 19, 20, 21, 22, 23, 24, 25] (fun x fr W => (x.1 : Int) = (a0.length : Int) - x.2.1 ∧ 0 ≤ x.2.1 ∧ forN (fun i s => ref03_Same.b0 a1 a0 i) x.1 x.2.1 x.2.2 = some o2 ∧ fr 5 = .int .i64 x.2.1 ∧ St A N w W [] [fS 4 Nd.C s_0 a0, fS 4 Nd.C s_1 a1]) (fun x => x.1) (((a0.length : Int) - 0).toNat, 0, ()) ⟨(by dsimp only; have hle := Int.natCast_nonneg (a0.length); omega), (Int.le_refl _), (by dsimp only; exact e2), rfl, S⟩ ?_
  rintro ⟨m2, i2, _⟩ g2 u2 ⟨hm2, hl2, e2, q2_i, S⟩
  try dsimp only at hm2
  try dsimp only at hl2
  try dsimp only at e2
  try dsimp only at S
  try dsimp only at q2_i
  refine wc_seq (wc_seq (wc_region ?_))
  refine wd (does_mv_i q2_i) ?_
  refine wd (does_mv_l rfl) ?_
  refine wd (does_lenR sl_L_api_Node rfl (S.rd 0)) ?_
  refine wd (does_lt rfl rfl) ?_
  refine wl_nil ?_
  refine wc_if rfl (fun hc3 => ?_) (fun hc3 => ?_)
  rotate_left
  ·refine wc_exit ?_
   have hge : (a0.length : Int) ≤ i2 := Int.not_lt.1 (of_decide_eq_false hc3)
   obtain rfl : m2 = 0 := by omega
   replace e2 := forN_0 e2
   exact ⟨rfl, (((((Dif.self _ _ _).upd rfl _).upd rfl _).upd rfl _).upd rfl _), (), e2, S⟩
  refine wc_skip ?_
  have hlt2 : i2 < (a0.length : Int) := of_decide_eq_true hc3
  obtain ⟨m2, rfl⟩ : ∃ m, m2 = m + 1 := ⟨m2 - 1, by omega⟩
  obtain ⟨q2, H, e2⟩ := forN_s e2
  unfold ref03_Same.b0 at H
  try dsimp only at H
  have hb2 := (S.len 0)
  refine wc_seq ?_
  refine wc_block ?_
  refine wc_seq ?_
  refine wc_quiet 8 (Ext u2) hmix (by kernel_rfl) (by kernel_rfl) (Ext.drawn _) ?_
  refine wq_does (fun v K => does_mv_l rfl) ?_
  refine wq_does (fun v K => does_mv_i q2_i) ?_
  refine wq_does (fun v K => does_indexR sl_L_api_Node rfl rfl ((S.ext K).rd 0) (And.intro (show 0 ≤ i2 by omega) (show i2 < (a0.length : Int) from hlt2)).1 (And.intro (show 0 ≤ i2 by omega) (show i2 < (a0.length : Int) from hlt2)).2) ?_
  refine wq_does (fun v K => does_load_agg ag_Nd rfl (((S.ext K).rd 0).at (at_some Nd.z (And.intro (show 0 ≤ i2 by omega) (show i2 < (a0.length : Int) from hlt2)))) (Nd.len _)) ?_
  refine wq_does (fun v K => does_mv_l rfl) ?_
  refine wq_does (fun v K => does_mv_i q2_i) ?_
  obtain ⟨hi5, H⟩ := chk_ex H
  refine wq_does (fun v K => does_indexR sl_L_api_Node rfl rfl ((S.ext K).rd 1) (inb_ex hi5).1 (inb_ex hi5).2) ?_
  refine wq_does (fun v K => does_load_agg ag_Nd rfl (((S.ext K).rd 1).at (at_some Nd.z (inb_ex hi5))) (Nd.len _)) ?_
  refine wq_nil fun w6 K => ?_
  replace S := S.ext K
  clear K
  refine wd (does_nev eg_Nd (eq_Nd _ _) (by decide) rfl rfl) ?_
  refine wl_nil ?_
  refine wc_if rfl (fun hc7 => ?_) (fun hc7 => ?_)
  ·replace H := if_t hc7 H
   refine wc_seq (wc_region ?_)
   refine wd (does_as_b rfl) ?_
   refine wl_nil ?_
   refine wc_ret ?_
   refine ⟨_, (rets1 (retOne_tmp rfl)), ?_⟩
   replace S : St A N w w6 [] [] := S.arr [] []
   obtain rfl := Option.some.inj H
   obtain rfl := e2
   obtain rfl := aft_r Ho2
   exact ⟨rfl, S⟩
  replace H := if_f hc7 H
  refine wc_skip ?_
  refine wc_region ?_
  refine wd (does_mv_i q2_i) ?_
  refine wd (does_addc rfl rfl (c := i2 + 1) rfl (by omega) (by omega)) ?_
  refine wd (does_as_i rfl) ?_
  refine wl_nil ?_
  obtain rfl := Option.some.inj H
  exact ⟨rfl, (((((((((((((((((Dif.self _ _ _).upd rfl _).upd rfl _).upd rfl _).upd rfl _).upd rfl _).upd rfl _).upd rfl _).upd rfl _).upd rfl _).upd rfl _).upd rfl _).upd rfl _).upd rfl _).upd rfl _).upd rfl _).upd rfl _), (m2, i2 + 1, ()), ⟨(by dsimp only; omega), (by dsimp only; omega), e2, rfl, S⟩, by dsimp only; omega⟩
 rintro g8 u9 ⟨s2, rfl, S⟩
 have H := Ho2
 dsimp only [aft] at H
 refine wc_seq (wc_region ?_)
 refine wd (does_as_b rfl) ?_
 refine wl_nil ?_
 refine wc_ret ?_
 refine ⟨_, (rets1 (retOne_tmp rfl)), ?_⟩
 replace S : St A N w u9 [] [] := S.arr [] []
 obtain rfl := Option.some.inj H
 exact ⟨rfl, S⟩
theorem ref03_T_Has_st {A : Nat → Prop} {N : Oth} {w : World} {a0 : Tb} {a_0 : Option Addr} {a1 : Int} (S : St A N w w [] [oR a_0 a0]) {r : Bool} (H : ref03_T_Has.f a0 a1 = some r) :
  Calls PP F_ref03_T_Has #[.pointer a_0, .int .i64 a1] w fun e w' => ∃ v, e = .returned v ∧ (v = .bool r ∧ St A N w w' [] []) := by
 unfold ref03_T_Has.f at H
 refine calls_of_wc (n := 16) fn_ref03_T_Has rfl rfl (by simp) ?_
 refine wc_seq (wc_region ?_)
 refine wd (does_as_b rfl) ?_
 refine wl_nil ?_
 refine wc_seq (wc_region ?_)
 refine wd (does_mv_i rfl) ?_
 refine wd (does_ge rfl rfl) ?_
 refine wd (does_mv_b rfl) ?_
 refine wl_guard (j := 2) (pol := true) rfl rfl rfl (by decide) (fun hg => does_mv_i rfl) (by decide) ?_
 refine wl_guard (j := 2) (pol := true) rfl rfl rfl (by decide) (fun hg => does_mv_p rfl) (by decide) ?_
 obtain ⟨ht1, H⟩ := chk_ex H
 obtain ⟨p2, s3, hp4, S⟩ := S.seeR 0 ht1
 replace S : St A N w w [] [oB p2 T_RTab (RTab.C ⟨s3⟩), fS 4 Nd.C s3 (a0.getD []), oR a_0 a0] := S
 refine wl_guard (j := 2) (pol := true) rfl rfl rfl (by decide) (fun hg => does_nilCheck (((gv_yes hg) : _ = Value.pointer a_0).trans (congrArg Value.pointer hp4))) (by decide) ?_
 refine wl_guard (j := 2) (pol := true) rfl rfl rfl (by decide) (fun hg => does_fieldAddr fl_RTab_n (gv_yes hg) (o' := 0) rfl) (by decide) ?_
 refine wl_guard (j := 2) (pol := true) rfl rfl rfl (by decide) (fun hg => does_load on_L_api_Node (gv_yes hg) ((S.blkZ 0).cell (RTab.get_n _))) (by decide) ?_
 refine wl_guard (j := 2) (pol := true) rfl rfl rfl (by decide) (fun hg => does_lenR sl_L_api_Node (gv_yes hg) (S.rd 1)) (by decide) ?_
 refine wl_guard (j := 2) (pol := true) rfl rfl rfl (by decide) (fun hg => does_lt (gv_yes hg) (gv_yes hg)) (by decide) ?_
 refine wd (does_and rfl (fun hp => (gv_yes (and_1 hp)))) ?_
 refine wd (does_as_b rfl) ?_
 replace S : St A N w w [] [oR a_0 a0] := S.zs [2]
 refine wl_nil ?_
 refine wc_ret ?_
 refine ⟨_, (rets1 (retOne_tmp rfl)), ?_⟩
 replace S : St A N w w [] [] := S.arr [] []
 obtain rfl := Option.some.inj H
 exact ⟨rfl, S⟩
theorem ref03_T_Find_st {A : Nat → Prop} {N : Oth} {w : World} {a0 : Tb} {a_0 : Option Addr} {a1 : Nd} (S : St A N w w [] [oR a_0 a0]) {r : Int × Bool} (H : ref03_T_Find.f a0 a1 = some r) :
  Calls PP F_ref03_T_Find #[.pointer a_0, .agg (Nd.C a1).toArray] w fun e w' => ∃ v, e = .returned v ∧ (v = .tuple #[.int .i64 r.1, .bool r.2] ∧ St A N w w' [] []) := by
 unfold ref03_T_Find.f at H
 refine calls_of_wc (n := 26) fn_ref03_T_Find rfl rfl (by simp) ?_
 refine wc_seq (wc_region ?_)
 refine wl_box_agg rfl (by decide) fun b2 w1 hw1 => ?_
 replace S : St A N w w1 [oB b2 T_Nd (Nd.C a1)] [oR a_0 a0] := S.new hw1
 refine wd (does_as_i rfl) ?_
 refine wd (does_as_b rfl) ?_
 refine wl_nil ?_
 refine wc_seq (wc_seq (wc_region ?_))
 refine wd (does_as_i rfl) ?_
 refine wl_nil ?_
 obtain ⟨ht3, H⟩ := chk_ex H
 obtain ⟨o4, e4, Ho4⟩ := bind_ex H
 clear H
 refine wc_cutq [4, 5, 6, 7, 8, 9, 10, 11, 12, 13, 14, 15, 16, 17, 18, 19, 20, 21, 22, 23, 24, 25] (fun fr W => ∃ s4 : Unit, o4 = .inl s4 ∧ St A N w W [oB b2 T_Nd (Nd.C a1)] [oR a_0 a0]) ?_ ?_
 ·refine wc_block ?_
  refine wc_loopm (α := Nat × Int × Unit) [4, 5, 6, 7, 8, 9, 10, 11, 12, 13, 14, 15, 16, 17, 18, 19, 20, 21, 22, 23, 24, 25] (fun x fr W => (x.1 : Int) = ((a0.getD []).length : Int) - x.2.1 ∧ 0 ≤ x.2.1 ∧ forN (fun i s => ref03_T_Find.b0 a0 a1 i) x.1 x.2.1 x.2.2 = some o4 ∧ fr 6 = .int .i64 x.2.1 ∧ St A N w W [oB b2 T_Nd (Nd.C a1)] [oR a_0 a0]) (fun x => x.1) ((((a0.getD []).length : Int) - 0).toNat, 0, ()) ⟨(by dsimp only; have hle := Int.natCast_nonneg ((a0.getD []).length); omega), (Int.le_refl _), (by dsimp only; exact e4), rfl, S⟩ ?_
  rintro ⟨m4, i4, _⟩ g4 u4 ⟨hm4, hl4, e4, q4_i, S⟩
  try dsimp only at hm4
  try dsimp only at hl4
  try dsimp only at e4
  try dsimp only at S
  try dsimp only at q4_i
  refine wc_seq (wc_seq (wc_region ?_))
  refine wd (does_mv_i q4_i) ?_
  refine wd (does_mv_p rfl) ?_
  obtain ⟨p5, s6, hp7, S⟩ := S.seeR 0 ht3
  replace S : St A N w u4 [oB b2 T_Nd (Nd.C a1)] [oB p5 T_RTab (RTab.C ⟨s6⟩), fS 4 Nd.C s6 (a0.getD []), oR a_0 a0] := S
  refine wd (does_nilCheck (congrArg Value.pointer hp7)) ?_
  refine wd (does_fieldAddr fl_RTab_n rfl (o' := 0) rfl) ?_
  refine wd (does_load on_L_api_Node rfl ((S.blkZ 0).cell (RTab.get_n _))) ?_
  refine wd (does_lenR sl_L_api_Node rfl (S.rd 1)) ?_
  refine wd (does_lt rfl rfl) ?_
  replace S : St A N w u4 [oB b2 T_Nd (Nd.C a1)] [oR a_0 a0] := S.zs [2]
  refine wl_nil ?_
  refine wc_if rfl (fun hc8 => ?_) (fun hc8 => ?_)
  rotate_left
  ·refine wc_exit ?_
   have hge : ((a0.getD []).length : Int) ≤ i4 := Int.not_lt.1 (of_decide_eq_false hc8)
   obtain rfl : m4 = 0 := by omega
   replace e4 := forN_0 e4
   exact ⟨rfl, ((((((((Dif.self _ _ _).upd rfl _).upd rfl _).upd rfl _).upd rfl _).upd rfl _).upd rfl _).upd rfl _), (), e4, S⟩
  refine wc_skip ?_
  have hlt4 : i4 < ((a0.getD []).length : Int) := of_decide_eq_true hc8
  obtain ⟨m4, rfl⟩ : ∃ m, m4 = m + 1 := ⟨m4 - 1, by omega⟩
  obtain ⟨q4, H, e4⟩ := forN_s e4
  unfold ref03_T_Find.b0 at H
  try dsimp only at H
  have hb4 := (S.lenRZ 0)
  refine wc_seq ?_
  refine wc_block ?_
  refine wc_seq ?_
  refine wc_quiet 8 (Ext u4) hmix (by kernel_rfl) (by kernel_rfl) (Ext.drawn _) ?_
  refine wq_does (fun v K => does_mv_p rfl) ?_
  obtain ⟨p9, s10, hp11, S⟩ := S.seeR 0 ht3
  replace S : St A N w u4 [oB b2 T_Nd (Nd.C a1)] [oB p9 T_RTab (RTab.C ⟨s10⟩), fS 4 Nd.C s10 (a0.getD []), oR a_0 a0] := S
  refine wq_does (fun v K => does_nilCheck (congrArg Value.pointer hp11)) ?_
  refine wq_does (fun v K => does_fieldAddr fl_RTab_n rfl (o' := 0) rfl) ?_
  refine wq_does (fun v K => does_load on_L_api_Node rfl (((S.ext K).blkZ 0).cell (RTab.get_n _))) ?_
  refine wq_does (fun v K => does_mv_i q4_i) ?_
  refine wq_does (fun v K => does_indexR sl_L_api_Node rfl rfl ((S.ext K).rd 1) (And.intro (show 0 ≤ i4 by omega) (show i4 < ((a0.getD []).length : Int) from hlt4)).1 (And.intro (show 0 ≤ i4 by omega) (show i4 < ((a0.getD []).length : Int) from hlt4)).2) ?_
  refine wq_does (fun v K => does_load_agg ag_Nd rfl (((S.ext K).rd 1).at (at_some Nd.z (And.intro (show 0 ≤ i4 by omega) (show i4 < ((a0.getD []).length : Int) from hlt4)))) (Nd.len _)) ?_
  refine wq_does (fun v K => does_load_agg ag_Nd rfl (((S.ext K).blk 0).all _ (Nd.len _)) (Nd.len _)) ?_
  refine wq_nil fun w13 K => ?_
  replace S := S.ext K
  clear K
  refine wd (does_eqv eg_Nd (eq_Nd _ _) (by decide) rfl rfl) ?_
  replace S : St A N w w13 [oB b2 T_Nd (Nd.C a1)] [oR a_0 a0] := S.zs [2]
  refine wl_nil ?_
  refine wc_if rfl (fun hc14 => ?_) (fun hc14 => ?_)
  ·replace H := if_t hc14 H
   refine wc_seq (wc_region ?_)
   refine wd (does_mv_i q4_i) ?_
   refine wd (does_as_i rfl) ?_
   refine wd (does_as_b rfl) ?_
   refine wl_nil ?_
   refine wc_ret ?_
   refine ⟨_, (rets2 (retOne_tmp rfl) (retOne_tmp rfl)), ?_⟩
   replace S : St A N w w13 [] [] := S.arr [] []
   obtain rfl := Option.some.inj H
   obtain rfl := e4
   obtain rfl := aft_r Ho4
   exact ⟨rfl, S⟩
  replace H := if_f hc14 H
  refine wc_skip ?_
  refine wc_region ?_
  refine wd (does_mv_i q4_i) ?_
  refine wd (does_addc rfl rfl (c := i4 + 1) rfl (by omega) (by omega)) ?_
  refine wd (does_as_i rfl) ?_
  refine wl_nil ?_
  obtain rfl := Option.some.inj H
  exact ⟨rfl, ((((((((((((((((((((Dif.self _ _ _).upd rfl _).upd rfl _).upd rfl _).upd rfl _).upd rfl _).upd rfl _).upd rfl _).upd rfl _).upd rfl _).upd rfl _).upd rfl _).upd rfl _).upd rfl _).upd rfl _).upd rfl _).upd rfl _).upd rfl _).upd rfl _).upd rfl _), (m4, i4 + 1, ()), ⟨(by dsimp only; omega), (by dsimp only; omega), e4, rfl, S⟩, by dsimp only; omega⟩
 rintro g15 u16 ⟨s4, rfl, S⟩
 have H := Ho4
 dsimp only [aft] at H
 refine wc_seq (wc_region ?_)
 refine wd (does_as_i rfl) ?_
 refine wd (does_as_b rfl) ?_
 refine wl_nil ?_
 refine wc_ret ?_
 refine ⟨_, (rets2 (retOne_tmp rfl) (retOne_tmp rfl)), ?_⟩
 replace S : St A N w u16 [] [] := S.arr [] []
 obtain rfl := Option.some.inj H
 exact ⟨rfl, S⟩
theorem ref03_T_Put_st {A : Nat → Prop} {N : Oth} {w : World} {a0 : Tb} {a_0 : Option Addr} {a1 : Nd} (S : St A N w w [oR a_0 a0] []) {r : Tb × Int × Int} (H : ref03_T_Put.f a0 a1 = some r) :
  Calls PP F_ref03_T_Put #[.pointer a_0, .agg (Nd.C a1).toArray] w fun e w' => ∃ v, e = .returned v ∧ (v = .tuple #[.int .i64 r.2.1, .int .i64 r.2.2] ∧ St A N w w' [oR a_0 r.1] []) := by
 unfold ref03_T_Put.f at H
 refine calls_of_wc (n := 90) fn_ref03_T_Put rfl rfl (by simp) ?_
 refine wc_seq (wc_region ?_)
 refine wl_box_agg rfl (by decide) fun b2 w1 hw1 => ?_
 replace S : St A N w w1 [oB b2 T_Nd (Nd.C a1), oR a_0 a0] [] := S.new hw1
 refine wd (does_as_i rfl) ?_
 refine wd (does_as_i rfl) ?_
 refine wl_nil ?_
 refine wc_seq (wc_seq (wc_region ?_))
 refine wd (does_fieldAddr fl_Nd_kind rfl (o' := 0) rfl) ?_
 refine wd (does_load on_api_Kind rfl ((S.blk 0).cell (Nd.get_kind _))) ?_
 refine wl_nil ?_
 obtain ⟨o3, e3, Ho3⟩ := bind_ex H
 replace H := e3; clear e3
 refine wc_cutq [4, 5, 10, 11, 12, 13, 14, 15, 16, 17, 18, 19, 20, 21, 22, 23, 24, 25, 26, 27, 28, 29, 30, 31, 32, 33, 34, 35, 36, 37, 38, 39, 40, 41, 42, 43, 44, 45, 46, 47, 48, 49, 50, 51, 52, 53, 54, 55, 56, 57, 58, 59] (fun fr W => ∃ s3 : Tb, o3 = .inl s3 ∧ St A N w W [oB b2 T_Nd (Nd.C a1), oR a_0 s3] []) ?_ ?_
 ·refine wc_block ?_
  refine wc_seq (wc_region ?_)
  refine wd (does_eq rfl rfl) ?_
  refine wd (does_as_b rfl) ?_
  refine wl_nil ?_
  refine wc_if rfl (fun hc4 => ?_) (fun hc4 => ?_)
  ·replace H := if_t hc4 H
   refine wc_seq (wc_seq (wc_region ?_))
   refine wd (does_fieldAddr fl_Nd_l rfl (o' := 2) rfl) ?_
   refine wd (does_load on_int rfl ((S.blk 0).cell (Nd.get_l _))) ?_
   refine wd (does_ne rfl rfl) ?_
   refine wd (does_mv_b rfl) ?_
   refine wl_guard (j := 3) (pol := false) rfl rfl rfl (by decide) (fun hg => does_fieldAddr fl_Nd_r rfl (o' := 3) rfl) (by decide) ?_
   refine wl_guard (j := 3) (pol := false) rfl rfl rfl (by decide) (fun hg => does_load on_int (gv_yes hg) ((S.blk 0).cell (Nd.get_r _))) (by decide) ?_
   refine wl_guard (j := 3) (pol := false) rfl rfl rfl (by decide) (fun hg => does_ne (gv_yes hg) rfl) (by decide) ?_
   refine wd (does_or rfl (fun hp => (gv_yes (and_1 hp)))) ?_
   refine wl_nil ?_
   refine wc_if rfl (fun hc5 => ?_) (fun hc5 => ?_)
   ·replace H := if_t hc5 H
    refine wc_seq (wc_region ?_)
    refine wd (does_as_i rfl) ?_
    refine wd (does_as_i rfl) ?_
    refine wl_nil ?_
    refine wc_ret ?_
    refine ⟨_, (rets2 (retOne_tmp rfl) (retOne_tmp rfl)), ?_⟩
    replace S : St A N w w1 [oR a_0 a0] [] := S.arr [1] []
    obtain rfl := Option.some.inj H
    obtain rfl := aft_r Ho3
    exact ⟨rfl, S⟩
   replace H := if_f hc5 H
   refine wc_skip ?_
   refine wc_seq (wc_region ?_)
   refine wd (does_fieldAddr fl_Nd_name rfl (o' := 1) rfl) ?_
   refine wd (does_load on_string rfl ((S.blk 0).cell (Nd.get_name _))) ?_
   obtain ⟨r6, er6, H⟩ := bind_ex H
   obtain ⟨B8, MB8, SB8, back⟩ := S.calln 0 ((.nil))
   refine wl_call (does_call ca_ref03_Word) (by decide) (ref03_Word_st SB8 er6) ?_
   rintro _ w7 ⟨rfl, S2⟩
   replace S : St A N w w7 [oB b2 T_Nd (Nd.C a1), oR a_0 a0] [] := back _ _ _ _ S2 rfl
   clear back S2 SB8
   refine wd (does_not rfl) ?_
   refine wl_nil ?_
   refine wc_if rfl (fun hc9 => ?_) (fun hc9 => ?_)
   ·replace H := if_t hc9 H
    refine wc_seq (wc_region ?_)
    refine wd (does_as_i rfl) ?_
    refine wd (does_as_i rfl) ?_
    refine wl_nil ?_
    refine wc_ret ?_
    refine ⟨_, (rets2 (retOne_tmp rfl) (retOne_tmp rfl)), ?_⟩
    replace S : St A N w w7 [oR a_0 a0] [] := S.arr [1] []
    obtain rfl := Option.some.inj H
    obtain rfl := aft_r Ho3
    exact ⟨rfl, S⟩
   replace H := if_f hc9 H
   refine wc_skip ?_
   obtain rfl := Option.some.inj H
   exact ⟨rfl, (((((((((((((((Dif.refl _ _).upd rfl _).upd rfl _).upd rfl _).upd rfl _).upd rfl _).upd rfl _).upd rfl _).upd rfl _).upd rfl _).upd rfl _).upd rfl _).upd rfl _).upd rfl _).upd rfl _), a0, rfl, S⟩
  ·replace H := if_f hc4 H
   refine wc_seq (wc_region ?_)
   refine wd (does_eq rfl rfl) ?_
   refine wd (does_as_b rfl) ?_
   refine wl_nil ?_
   refine wc_if rfl (fun hc10 => ?_) (fun hc10 => ?_)
   ·replace H := if_t hc10 H
    refine wc_seq (wc_region ?_)
    refine wd (does_fieldAddr fl_Nd_name rfl (o' := 1) rfl) ?_
    refine wd (does_load on_string rfl ((S.blk 0).cell (Nd.get_name _))) ?_
    refine wd (does_nes rfl rfl) ?_
    refine wd (does_mv_b rfl) ?_
    refine wl_guard (j := 3) (pol := false) rfl rfl rfl (by decide) (fun hg => does_fieldAddr fl_Nd_l rfl (o' := 2) rfl) (by decide) ?_
    refine wl_guard (j := 3) (pol := false) rfl rfl rfl (by decide) (fun hg => does_load on_int (gv_yes hg) ((S.blk 0).cell (Nd.get_l _))) (by decide) ?_
    refine wl_guard (j := 3) (pol := false) rfl rfl rfl (by decide) (fun hg => does_ne (gv_yes hg) rfl) (by decide) ?_
    refine wd (does_or rfl (fun hp => (gv_yes (and_1 hp)))) ?_
    refine wd (does_mv_b rfl) ?_
    refine wl_guard (j := 8) (pol := false) rfl rfl rfl (by decide) (fun hg => does_fieldAddr fl_Nd_r rfl (o' := 3) rfl) (by decide) ?_
    refine wl_guard (j := 8) (pol := false) rfl rfl rfl (by decide) (fun hg => does_load on_int (gv_yes hg) ((S.blk 0).cell (Nd.get_r _))) (by decide) ?_
    refine wl_guard (j := 8) (pol := false) rfl rfl rfl (by decide) (fun hg => does_ne (gv_yes hg) rfl) (by decide) ?_
    refine wd (does_or rfl (fun hp => (gv_yes (and_1 hp)))) ?_
    refine wl_nil ?_
    refine wc_if rfl (fun hc11 => ?_) (fun hc11 => ?_)
    ·replace H := if_t hc11 H
     refine wc_seq (wc_region ?_)
     refine wd (does_as_i rfl) ?_
     refine wd (does_as_i rfl) ?_
     refine wl_nil ?_
     refine wc_ret ?_
     refine ⟨_, (rets2 (retOne_tmp rfl) (retOne_tmp rfl)), ?_⟩
     replace S : St A N w w1 [oR a_0 a0] [] := S.arr [1] []
     obtain rfl := Option.some.inj H
     obtain rfl := aft_r Ho3
     exact ⟨rfl, S⟩
    replace H := if_f hc11 H
    refine wc_skip ?_
    obtain rfl := Option.some.inj H
    exact ⟨rfl, ((((((((((((((((((Dif.refl _ _).upd rfl _).upd rfl _).upd rfl _).upd rfl _).upd rfl _).upd rfl _).upd rfl _).upd rfl _).upd rfl _).upd rfl _).upd rfl _).upd rfl _).upd rfl _).upd rfl _).upd rfl _).upd rfl _).upd rfl _), a0, rfl, S⟩
   ·replace H := if_f hc10 H
    refine wc_seq (wc_seq (wc_region ?_))
    refine wd (does_eq rfl rfl) ?_
    refine wd (does_as_b rfl) ?_
    refine wl_nil ?_
    obtain ⟨o12, e12, Ho12⟩ := bind_ex H
    replace H := e12; clear e12
    refine wc_cutq [39, 41, 42] (fun fr W => fr 39 = .bool o12 ∧ St A N w W [oB b2 T_Nd (Nd.C a1), oR a_0 a0] []) ?_ ?_
    ·refine wc_if rfl (fun hc13 => ?_) (fun hc13 => ?_)
     ·replace H := if_t hc13 H
      refine wc_skip ?_
      obtain rfl := Option.some.inj H
      exact ⟨rfl, (Dif.refl _ _), rfl, S⟩
     ·replace H := if_f hc13 H
      refine wc_seq (wc_region ?_)
      refine wd (does_eq rfl rfl) ?_
      refine wd (does_as_b rfl) ?_
      refine wl_nil ?_
      refine wc_if rfl (fun hc14 => ?_) (fun hc14 => ?_)
      ·replace H := if_t hc14 H
       refine wc_skip ?_
       obtain rfl := Option.some.inj H
       exact ⟨rfl, (((Dif.refl _ _).upd rfl _).upd rfl _), rfl, S⟩
      ·replace H := if_f hc14 H
       refine wc_region ?_
       refine wd (does_eq rfl rfl) ?_
       refine wd (does_as_b rfl) ?_
       refine wl_nil ?_
       obtain rfl := Option.some.inj H
       exact ⟨rfl, (((((Dif.refl _ _).upd rfl _).upd rfl _).upd rfl _).upd rfl _), rfl, S⟩
    rintro g15 u16 ⟨p12_39, S⟩
    have H := Ho12
    refine wc_if p12_39 (fun hc17 => ?_) (fun hc17 => ?_)
    rotate_left
    ·replace H := if_f hc17 H
     refine wc_seq (wc_region ?_)
     refine wd (does_as_i rfl) ?_
     refine wd (does_as_i rfl) ?_
     refine wl_nil ?_
     refine wc_ret ?_
     refine ⟨_, (rets2 (retOne_tmp rfl) (retOne_tmp rfl)), ?_⟩
     replace S : St A N w u16 [oR a_0 a0] [] := S.arr [1] []
     obtain rfl := Option.some.inj H
     obtain rfl := aft_r Ho3
     exact ⟨rfl, S⟩
    replace H := if_t hc17 H
    refine wc_seq (wc_region ?_)
    refine wd (does_fieldAddr fl_Nd_name rfl (o' := 1) rfl) ?_
    refine wd (does_load on_string rfl ((S.blk 0).cell (Nd.get_name _))) ?_
    refine wd (does_nes rfl rfl) ?_
    refine wd (does_mv_b rfl) ?_
    refine wl_guard (j := 3) (pol := false) rfl rfl rfl (by decide) (fun hg => does_mv_p rfl) (by decide) ?_
    refine wl_guard (j := 3) (pol := false) rfl rfl rfl (by decide) (fun hg => does_fieldAddr fl_Nd_l rfl (o' := 2) rfl) (by decide) ?_
    refine wl_guard (j := 3) (pol := false) rfl rfl rfl (by decide) (fun hg => does_load on_int (gv_yes hg) ((S.blk 0).cell (Nd.get_l _))) (by decide) ?_
    obtain ⟨r18, er18, H⟩ := bind_ex H
    refine wl_gcall (j := 3) (pol := false) rfl rfl rfl (by decide) (fun hg => does_callg ca_ref03_T_Has (cons2 (gv_yes hg) (cons2 (gv_yes hg) rfl))) (by decide) (fun hg => (have ⟨M, SS⟩ := S.lend ((.o 1 rfl .nil)); quiet (ref03_T_Has_st SS (if_t (by simpa using hg) er18)) (fun v w' h => ⟨h.1, _, _, h.2⟩))) fun w19 hw19 => ?_
    replace S := S.ext hw19
    refine wl_guard (j := 3) (pol := false) rfl rfl rfl (by decide) (fun hg => does_not (gv_yes hg)) (by decide) ?_
    refine wd (does_or rfl (fun hp => (gv_yes (and_1 hp)))) ?_
    refine wd (does_mv_b rfl) ?_
    refine wl_guard (j := 10) (pol := false) rfl rfl rfl (by decide) (fun hg => does_mv_p rfl) (by decide) ?_
    refine wl_guard (j := 10) (pol := false) rfl rfl rfl (by decide) (fun hg => does_fieldAddr fl_Nd_r rfl (o' := 3) rfl) (by decide) ?_
    refine wl_guard (j := 10) (pol := false) rfl rfl rfl (by decide) (fun hg => does_load on_int (gv_yes hg) ((S.blk 0).cell (Nd.get_r _))) (by decide) ?_
    obtain ⟨r20, er20, H⟩ := bind_ex H
    refine wl_gcall (j := 10) (pol := false) rfl rfl rfl (by decide) (fun hg => does_callg ca_ref03_T_Has (cons2 (gv_yes hg) (cons2 (gv_yes hg) rfl))) (by decide) (fun hg => (have ⟨M, SS⟩ := S.lend ((.o 1 rfl .nil)); quiet (ref03_T_Has_st SS (if_t (by simpa using hg) er20)) (fun v w' h => ⟨h.1, _, _, h.2⟩))) fun w21 hw21 => ?_
    replace S := S.ext hw21
    refine wl_guard (j := 10) (pol := false) rfl rfl rfl (by decide) (fun hg => does_not (gv_yes hg)) (by decide) ?_
    refine wd (does_or rfl (fun hp => (gv_yes (and_1 hp)))) ?_
    refine wl_nil ?_
    refine wc_if rfl (fun hc22 => ?_) (fun hc22 => ?_)
    ·replace H := if_t hc22 H
     refine wc_seq (wc_region ?_)
     refine wd (does_as_i rfl) ?_
     refine wd (does_as_i rfl) ?_
     refine wl_nil ?_
     refine wc_ret ?_
     refine ⟨_, (rets2 (retOne_tmp rfl) (retOne_tmp rfl)), ?_⟩
     replace S : St A N w w21 [oR a_0 a0] [] := S.arr [1] []
     obtain rfl := Option.some.inj H
     obtain rfl := aft_r Ho3
     exact ⟨rfl, S⟩
    replace H := if_f hc22 H
    refine wc_skip ?_
    obtain rfl := Option.some.inj H
    exact ⟨rfl, (((((((((((((((((((((((((Dif.refl _ _).upd rfl _).upd rfl _).upd rfl _).upd rfl _).upd rfl _).upd rfl _).mask rfl _).upd rfl _).upd rfl _).upd rfl _).upd rfl _).upd rfl _).upd rfl _).upd rfl _).upd rfl _).upd rfl _).upd rfl _).upd rfl _).upd rfl _).upd rfl _).upd rfl _).upd rfl _).upd rfl _).upd rfl _), a0, rfl, S⟩
 rintro g23 u24 ⟨s3, rfl, S⟩
 have H := Ho3
 dsimp only [aft] at H
 refine wc_seq (wc_region ?_)
 refine wd (does_mv_p rfl) ?_
 refine wd (does_load_agg ag_Nd rfl ((S.blk 0).all _ (Nd.len _)) (Nd.len _)) ?_
 obtain ⟨r25, er25, H⟩ := bind_ex H
 obtain ⟨B27, MB27, SB27, back⟩ := S.calln 0 ((.o 1 rfl .nil))
 refine wl_call (does_call ca_ref03_T_Find) (by decide) (ref03_T_Find_st SB27 er25) ?_
 rintro _ w26 ⟨rfl, S2⟩
 replace S : St A N w w26 [oB b2 T_Nd (Nd.C a1), oR a_0 s3] [] := back _ _ _ _ S2 rfl
 clear back S2 SB27
 refine wd (does_mv_t rfl) ?_
 refine wd (does_extract rfl rfl) ?_
 refine wd (does_extract rfl rfl) ?_
 refine wd (does_as_i rfl) ?_
 refine wd (does_as_b rfl) ?_
 refine wl_nil ?_
 refine wc_seq (wc_seq (wc_region ?_))
 refine wd (does_mv_b rfl) ?_
 refine wl_nil ?_
 refine wc_if rfl (fun hc28 => ?_) (fun hc28 => ?_)
 ·replace H := if_t hc28 H
  refine wc_seq (wc_region ?_)
  refine wd (does_mv_i rfl) ?_
  refine wd (does_as_i rfl) ?_
  refine wd (does_as_i rfl) ?_
  refine wl_nil ?_
  refine wc_ret ?_
  refine ⟨_, (rets2 (retOne_tmp rfl) (retOne_tmp rfl)), ?_⟩
  replace S : St A N w w26 [oR a_0 s3] [] := S.arr [1] []
  obtain rfl := Option.some.inj H
  exact ⟨rfl, S⟩
 replace H := if_f hc28 H
 refine wc_skip ?_
 refine wc_seq (wc_seq (wc_region ?_))
 refine wd (does_mv_p rfl) ?_
 obtain ⟨ht29, H⟩ := chk_ex H
 obtain ⟨p30, s31, hp32, S⟩ := S.openR 1 ht29
 replace S : St A N w w26 [oB p30 T_RTab (RTab.C ⟨s31⟩), oS T_Nd 4 Nd.C s31 (s3.getD []), oB b2 T_Nd (Nd.C a1)] [] := S
 refine wd (does_nilCheck (congrArg Value.pointer hp32)) ?_
 refine wd (does_fieldAddr fl_RTab_n rfl (o' := 0) rfl) ?_
 refine wd (does_load on_L_api_Node rfl ((S.blk 0).cell (RTab.get_n _))) ?_
 refine wd (does_lenR sl_L_api_Node rfl (S.rdO 1)) ?_
 refine wd (does_ge rfl rfl) ?_
 replace S := S.front 1
 replace S := S.front 1
 replace S : St A N w w26 [oR a_0 (some (s3.getD [])), oB b2 T_Nd (Nd.C a1)] [] := S.shutR hp32
 refine wl_nil ?_
 refine wc_if rfl (fun hc33 => ?_) (fun hc33 => ?_)
 ·replace H := if_t hc33 H
  refine wc_seq (wc_region ?_)
  refine wd (does_as_i rfl) ?_
  refine wd (does_as_i rfl) ?_
  refine wl_nil ?_
  refine wc_ret ?_
  refine ⟨_, (rets2 (retOne_tmp rfl) (retOne_tmp rfl)), ?_⟩
  replace S : St A N w w26 [oR a_0 (some (s3.getD []))] [] := S.arr [0] []
  obtain rfl := Option.some.inj H
  exact ⟨rfl, S⟩
 replace H := if_f hc33 H
 refine wc_skip ?_
 refine wc_seq ?_
 obtain ⟨p34, s35, hp36, S⟩ := S.openR 0 rfl
 replace S : St A N w w26 [oB p34 T_RTab (RTab.C ⟨s35⟩), oS T_Nd 4 Nd.C s35 (s3.getD []), oB b2 T_Nd (Nd.C a1)] [] := S
 obtain ⟨ha37, H⟩ := chk_ex H
 have ha37 := of_decide_eq_true ha37
 have hSO := S.sl 1
 have hSlt := hSO.lt
 have SH : ∀ v, Chg s35.fp w26 v → St A (N.or s35.fp) w v [oB p34 T_RTab (RTab.C ⟨s35⟩), oB b2 T_Nd (Nd.C a1)] [] := fun v hc => S.away 1 (hc := hc)
 refine wc_draw 8 ⟨fun L v => Chg s35.fp w26 v ∧ (L 7 = false → Ext w26 v), fun L a b => Chg s35.fp a b ∧ (L 7 = true → Ext a b), fun i v u => match i with
  | 0 => v = Value.pointer a_0
  | 1 => v = Value.pointer a_0
  | 2 => v = Value.pointer (some ⟨p34, 0, none⟩)
  | 3 => v = Value.pointer (some ⟨p34, 0, none⟩)
  | 4 => v = s35.v
  | 5 => v = Value.agg (Nd.C a1).toArray
  | 6 => ∃ b sl, v = SlV.v sl ∧ sl = ⟨some ⟨b, 0, none⟩, 1, 1⟩ ∧ Blk u b T_Nd (Nd.C a1) ∧ ¬ s35.fp b
  | 7 => ∃ s', v = SlV.v s' ∧ Own u 0 T_Nd 4 s' (((s3.getD []) ++ [a1]).map Nd.C) ∧ ∀ i, s'.fp i → s35.fp i ∨ w26.heap.size ≤ i
  | _ => True⟩ hmix (by kernel_rfl) ?_ ⟨(Ext.drawn _).mono (fun _ _ x => x.elim), fun _ => Ext.drawn _⟩ ⟨?_, ?_, ?_, ?_, ?_, ?_, ?_, ?_, trivial⟩ ?_
 ·intro L i v a b hLi hle hv
  match i, hLi, hv with
  | 0, _, hv => exact hv
  | 1, _, hv => exact hv
  | 2, _, hv => exact hv
  | 3, _, hv => exact hv
  | 4, _, hv => exact hv
  | 5, _, hv => exact hv
  | 6, _, ⟨b, sl, e1, e2, hb, hn⟩ => exact ⟨b, sl, e1, e2, hb.chg hle.1 hn, hn⟩
  | 7, hLi, ⟨s', e1, ho, hg⟩ => exact ⟨s', e1, ho.ext (hle.2 hLi), hg⟩
  | _ + 8, _, _ => exact trivial
 ·rintro L g v hL hT 
  refine wl_does (does_mv_p rfl) (by decide) (wl_nil (ob ⟨hT.1, fun h => hT.2 h⟩ ⟨Chg.refl _ _, fun _ => Ext.refl _⟩ rfl))
 ·rintro L g v hL hT 
  refine wl_does (does_mv_p rfl) (by decide) (wl_nil (ob ⟨hT.1, fun h => hT.2 h⟩ ⟨Chg.refl _ _, fun _ => Ext.refl _⟩ rfl))
 ·rintro L g v hL hT hv1
  refine wl_does (does_nilCheck ((hv1 : _ = Value.pointer a_0).trans (congrArg Value.pointer hp36))) (by decide) (wl_nil (ob ⟨hT.1, fun h => hT.2 h⟩ ⟨Chg.refl _ _, fun _ => Ext.refl _⟩ rfl))
 ·rintro L g v hL hT hv2
  refine wl_does (does_fieldAddr fl_RTab_n hv2 (o' := 0) rfl) (by decide) (wl_nil (ob ⟨hT.1, fun h => hT.2 h⟩ ⟨Chg.refl _ _, fun _ => Ext.refl _⟩ rfl))
 ·rintro L g v hL hT hv3
  refine wl_does (does_load on_L_api_Node hv3 (((SH v hT.1).blk 0).cell (RTab.get_n _))) (by decide) (wl_nil (ob ⟨hT.1, fun h => hT.2 h⟩ ⟨Chg.refl _ _, fun _ => Ext.refl _⟩ rfl))
 ·rintro L g v hL hT 
  refine wl_does (does_load_agg ag_Nd rfl (((SH v hT.1).blk 1).all _ (Nd.len _)) (Nd.len _)) (by decide) (wl_nil (ob ⟨hT.1, fun h => hT.2 h⟩ ⟨Chg.refl _ _, fun _ => Ext.refl _⟩ rfl))
 ·rintro L g v hL hT hv5
  refine wl_lit1 sl_L_api_Node el_Nd.zero hv5 rfl (Nd.len _) (by decide) (by decide) fun b v' sl hn hq => wl_nil (ob ⟨hT.1.thenExt hn.ext, fun h => (hT.2 h).trans hn.ext⟩ ⟨hn.ext.mono (fun _ _ x => x.elim), fun _ => hn.ext⟩ ⟨b, sl, rfl, hq, hn.blk, fun e => by have := hSlt _ e; have := hn.at_; have := hT.1.size; omega⟩)
 ·rintro L g v hL hT hv4 ⟨b, sl, hv6, hq, hb, hnb⟩
  refine wl_push (C := Nd.C) sl_L_api_Node el_Nd hv4 hv6 (hSO.ext (hT.2 hL)) hb hq (Nd.len _) (Nd.one _) ha37 (by omega) (by decide) fun s' v' ho hc hg => wl_nil (ob ⟨hT.1.trans hc, fun h => (by cases h)⟩ ⟨hc, fun h => (by rw [hL] at h; cases h)⟩ ⟨s', rfl, ho, fun i e => (hg i e).imp id (fun h => Nat.le_trans hT.1.size h)⟩)
 rintro L g w38 hLm hT hv40_0 hv40_1 hv40_2 hv40_3 hv40_4 hv40_5 ⟨b, sl, hv40_6, hq, hb, hnb⟩ ⟨s39, hv40_7, O, gO⟩
 replace S : St A N w w38 [oS T_Nd 4 Nd.C s39 ((s3.getD []) ++ [a1]), oB p34 T_RTab (RTab.C ⟨s35⟩), oB b2 T_Nd (Nd.C a1)] [] := S.push 1 O (by rw [List.length_append, List.length_singleton]; omega) hT.1 gO
 clear O gO SH hSO hSlt
 refine wd (does_nilCheck ((hv40_0 : _ = Value.pointer a_0).trans (congrArg Value.pointer hp36))) ?_
 refine wd (does_fieldAddr fl_RTab_n rfl (o' := 0) rfl) ?_
 refine wl_store on_L_api_Node rfl hv40_7 (S.blk 1) (by rw [RTab.len]; decide) (SlV.one _ _ rfl) (RTab.set_n _ _) fun w41 B hw41 zw41 => ?_
 replace S : St A N w w41 [oB p34 T_RTab (RTab.C ⟨s39⟩), oS T_Nd 4 Nd.C s39 ((s3.getD []) ++ [a1]), oB b2 T_Nd (Nd.C a1)] [] := S.store 1 B hw41
 clear B
 replace S := S.front 1
 replace S := S.front 1
 replace S : St A N w w41 [oR a_0 (some ((s3.getD []) ++ [a1])), oB b2 T_Nd (Nd.C a1)] [] := S.shutR hp36
 refine wl_nil ?_
 refine wc_seq (wc_region ?_)
 refine wd (does_mv_p rfl) ?_
 obtain ⟨p42, s43, hp44, S⟩ := S.openR 0 rfl
 replace S : St A N w w41 [oB p42 T_RTab (RTab.C ⟨s43⟩), oS T_Nd 4 Nd.C s43 ((s3.getD []) ++ [a1]), oB b2 T_Nd (Nd.C a1)] [] := S
 refine wd (does_nilCheck (congrArg Value.pointer hp44)) ?_
 refine wd (does_fieldAddr fl_RTab_n rfl (o' := 0) rfl) ?_
 refine wd (does_load on_L_api_Node rfl ((S.blk 0).cell (RTab.get_n _))) ?_
 refine wd (does_lenR sl_L_api_Node rfl (S.rdO 1)) ?_
 refine wd (does_sub rfl rfl) ?_
 refine wd (does_as_i rfl) ?_
 refine wd (does_as_i rfl) ?_
 replace S := S.front 1
 replace S := S.front 1
 replace S : St A N w w41 [oR a_0 (some ((s3.getD []) ++ [a1])), oB b2 T_Nd (Nd.C a1)] [] := S.shutR hp44
 refine wl_nil ?_
 refine wc_ret ?_
 refine ⟨_, (rets2 (retOne_tmp rfl) (retOne_tmp rfl)), ?_⟩
 replace S : St A N w w41 [oR a_0 (some ((s3.getD []) ++ [a1]))] [] := S.arr [0] []
 obtain rfl := Option.some.inj H
 exact ⟨rfl, S⟩
theorem ref03_From_st {A : Nat → Prop} {N : Oth} {w : World} {a0 : List Nd} {s_0 : SlV} (S : St A N w w [] [fS 4 Nd.C s_0 a0]) {r : Tb × Int} (H : ref03_From.f a0 = some r) :
  Calls PP F_ref03_From #[s_0.v] w fun e w' => ∃ v, e = .returned v ∧ (∃ ao0 : Option Addr, v = .tuple #[.pointer ao0, .int .i64 r.2] ∧ St A N w w' [oR ao0 r.1] []) := by
 unfold ref03_From.f at H
 refine calls_of_wc (n := 32) fn_ref03_From rfl rfl (by simp) ?_
 refine wc_seq (wc_region ?_)
 replace S : St A N w w [oR none none] [fS 4 Nd.C s_0 a0] := S.add (Ext.refl _) (oR.nil _) (fun _ x => x.elim)
 refine wd (does_as_p rfl) ?_
 refine wd (does_as_i rfl) ?_
 refine wl_nil ?_
 refine wc_seq (wc_region ?_)
 refine wd (does_build bu_RTab Bld.nil) ?_
 refine wl_box_agg rfl (by decide) fun b2 w1 hw1 => ?_
 replace S : St A N w w1 [oR (some ⟨b2, 0, none⟩) (some []), oR none none] [fS 4 Nd.C s_0 a0] := ((S.nil T_Nd 4 Nd.C).new hw1).shutR rfl
 refine wd (does_as_p rfl) ?_
 refine wl_nil ?_
 refine wc_seq (wc_seq (wc_region ?_))
 refine wd (does_as_i rfl) ?_
 refine wl_nil ?_
 obtain ⟨o3, e3, Ho3⟩ := bind_ex H
 clear H
 refine wc_cutq [2, 3, 5, 6, 7, 10, 11, 12, 13, 14, 15, 16, 17, 18, 19, 20, 21, 22, 23, 24, 25, 26, 27, 28, 29, 30] (fun fr W => ∃ s3 : Tb, o3 = .inl s3 ∧ St A N w W [oR (some ⟨b2, 0, none⟩) s3, oR none none] [fS 4 Nd.C s_0 a0]) ?_ ?_
 ·refine wc_block ?_
  refine wc_loopm (α := Nat × Int × Tb) [2, 3, 5, 6, 7, 10, 11, 12, 13, 14, 15, 16, 17, 18, 19, 20, 21, 22, 23, 24, 25, 26, 27, 28, 29, 30] (fun x fr W => (x.1 : Int) = (a0.length : Int) - x.2.1 ∧ 0 ≤ x.2.1 ∧ forN (fun i s => ref03_From.b0 a0 i s) x.1 x.2.1 x.2.2 = some o3 ∧ fr 5 = .int .i64 x.2.1 ∧ St A N w W [oR (some ⟨b2, 0, none⟩) (x.2.2), oR none none] [fS 4 Nd.C s_0 a0]) (fun x => x.1) (((a0.length : Int) - 0).toNat, 0, (some [])) ⟨(by dsimp only; have hle := Int.natCast_nonneg (a0.length); omega), (Int.le_refl _), (by dsimp only; exact e3), rfl, S⟩ ?_
  rintro ⟨m3, i3, x3_0⟩ g3 u3 ⟨hm3, hl3, e3, q3_i, S⟩
  try dsimp only at hm3
  try dsimp only at hl3
  try dsimp only at e3
  try dsimp only at S
  try dsimp only at q3_i
  refine wc_seq (wc_seq (wc_region ?_))
  refine wd (does_mv_i q3_i) ?_
  refine wd (does_mv_l rfl) ?_
  refine wd (does_lenR sl_L_api_Node rfl (S.rd 0)) ?_
  refine wd (does_lt rfl rfl) ?_
  refine wl_nil ?_
  refine wc_if rfl (fun hc4 => ?_) (fun hc4 => ?_)
  rotate_left
  ·refine wc_exit ?_
   have hge : (a0.length : Int) ≤ i3 := Int.not_lt.1 (of_decide_eq_false hc4)
   obtain rfl : m3 = 0 := by omega
   replace e3 := forN_0 e3
   exact ⟨rfl, (((((Dif.self _ _ _).upd rfl _).upd rfl _).upd rfl _).upd rfl _), x3_0, e3, S⟩
  refine wc_skip ?_
  have hlt3 : i3 < (a0.length : Int) := of_decide_eq_true hc4
  obtain ⟨m3, rfl⟩ : ∃ m, m3 = m + 1 := ⟨m3 - 1, by omega⟩
  obtain ⟨q3, H, e3⟩ := forN_s e3
  unfold ref03_From.b0 at H
  try dsimp only at H
  have hb3 := (S.len 0)
  refine wc_seq ?_
  refine wc_block ?_
  refine wc_seq (wc_region ?_)
  refine wd (does_mv_p rfl) ?_
  refine wd (does_mv_l rfl) ?_
  refine wd (does_mv_i q3_i) ?_
  refine wd (does_indexR sl_L_api_Node rfl rfl (S.rd 0) (And.intro (show 0 ≤ i3 by omega) (show i3 < (a0.length : Int) from hlt3)).1 (And.intro (show 0 ≤ i3 by omega) (show i3 < (a0.length : Int) from hlt3)).2) ?_
  refine wd (does_load_agg ag_Nd rfl ((S.rd 0).at (at_some Nd.z (And.intro (show 0 ≤ i3 by omega) (show i3 < (a0.length : Int) from hlt3)))) (Nd.len _)) ?_
  obtain ⟨r6, er6, H⟩ := bind_ex H
  obtain ⟨B8, MB8, SB8, back⟩ := S.calln 1 ((.nil))
  refine wl_call (does_call ca_ref03_T_Put) (by decide) (ref03_T_Put_st SB8 er6) ?_
  rintro _ w7 ⟨rfl, S2⟩
  replace S : St A N w w7 [oR (some ⟨b2, 0, none⟩) r6.1, oR none none] [fS 4 Nd.C s_0 a0] := back _ _ _ _ S2 rfl
  clear back S2 SB8
  refine wd (does_mv_t rfl) ?_
  refine wd (does_extract rfl rfl) ?_
  refine wd (does_extract rfl rfl) ?_
  refine wd (does_as_i rfl) ?_
  refine wd (does_as_i rfl) ?_
  refine wl_nil ?_
  refine wc_seq (wc_seq (wc_region ?_))
  refine wd (does_mv_i rfl) ?_
  refine wd (does_ne rfl rfl) ?_
  refine wl_nil ?_
  refine wc_if rfl (fun hc9 => ?_) (fun hc9 => ?_)
  ·replace H := if_t hc9 H
   refine wc_seq (wc_region ?_)
   refine wd (does_mv_i rfl) ?_
   replace S : St A N w w7 [oR none none, oR (some ⟨b2, 0, none⟩) r6.1, oR none none] [fS 4 Nd.C s_0 a0] := S.add (Ext.refl _) (oR.nil _) (fun _ x => x.elim)
   refine wd (does_as_p rfl) ?_
   refine wd (does_as_i rfl) ?_
   refine wl_nil ?_
   refine wc_ret ?_
   refine ⟨_, (rets2 (retOne_tmp rfl) (retOne_tmp rfl)), ?_⟩
   replace S : St A N w w7 [oR none none] [] := S.arr [0] []
   obtain rfl := Option.some.inj H
   obtain rfl := e3
   obtain rfl := aft_r Ho3
   exact ⟨none, rfl, S⟩
  replace H := if_f hc9 H
  refine wc_skip ?_
  refine wc_seq (wc_region ?_)
  refine wd (does_mv_i rfl) ?_
  refine wd (does_mv_i q3_i) ?_
  refine wd (does_ne rfl rfl) ?_
  refine wl_nil ?_
  refine wc_if rfl (fun hc10 => ?_) (fun hc10 => ?_)
  ·replace H := if_t hc10 H
   refine wc_seq (wc_region ?_)
   replace S : St A N w w7 [oR none none, oR (some ⟨b2, 0, none⟩) r6.1, oR none none] [fS 4 Nd.C s_0 a0] := S.add (Ext.refl _) (oR.nil _) (fun _ x => x.elim)
   refine wd (does_as_p rfl) ?_
   refine wd (does_as_i rfl) ?_
   refine wl_nil ?_
   refine wc_ret ?_
   refine ⟨_, (rets2 (retOne_tmp rfl) (retOne_tmp rfl)), ?_⟩
   replace S : St A N w w7 [oR none none] [] := S.arr [0] []
   obtain rfl := Option.some.inj H
   obtain rfl := e3
   obtain rfl := aft_r Ho3
   exact ⟨none, rfl, S⟩
  replace H := if_f hc10 H
  refine wc_skip ?_
  refine wc_region ?_
  refine wd (does_mv_i q3_i) ?_
  refine wd (does_addc rfl rfl (c := i3 + 1) rfl (by omega) (by omega)) ?_
  refine wd (does_as_i rfl) ?_
  refine wl_nil ?_
  obtain rfl := Option.some.inj H
  exact ⟨rfl, ((((((((((((((((((((((((Dif.self _ _ _).upd rfl _).upd rfl _).upd rfl _).upd rfl _).upd rfl _).upd rfl _).upd rfl _).upd rfl _).upd rfl _).upd rfl _).upd rfl _).upd rfl _).upd rfl _).upd rfl _).upd rfl _).upd rfl _).upd rfl _).upd rfl _).upd rfl _).upd rfl _).upd rfl _).upd rfl _).upd rfl _), (m3, i3 + 1, r6.1), ⟨(by dsimp only; omega), (by dsimp only; omega), e3, rfl, S⟩, by dsimp only; omega⟩
 rintro g11 u12 ⟨s3, rfl, S⟩
 have H := Ho3
 dsimp only [aft] at H
 refine wc_seq (wc_region ?_)
 refine wd (does_mv_p rfl) ?_
 refine wd (does_as_p rfl) ?_
 refine wd (does_as_i rfl) ?_
 refine wl_nil ?_
 refine wc_ret ?_
 refine ⟨_, (rets2 (retOne_tmp rfl) (retOne_tmp rfl)), ?_⟩
 replace S : St A N w u12 [oR (some ⟨b2, 0, none⟩) s3] [] := S.arr [0] []
 obtain rfl := Option.some.inj H
 exact ⟨(some ⟨b2, 0, none⟩), rfl, S⟩
theorem law03_Like_st {A : Nat → Prop} {N : Oth} {w : World} {a0 : Tb} {a_0 : Option Addr} {a1 : Tb} {a_1 : Option Addr} (S : St A N w w [] [oT a_0 a0, oR a_1 a1]) {r : Bool} (H : law03_Like.f a0 a1 = some r) :
  Calls PP F_law03_Like #[.pointer a_0, .pointer a_1] w fun e w' => ∃ v, e = .returned v ∧ (v = .bool r ∧ St A N w w' [] []) := by
 unfold law03_Like.f at H
 refine calls_of_wc (n := 22) fn_law03_Like rfl rfl (by simp) ?_
 refine wc_seq (wc_region ?_)
 refine wd (does_as_b rfl) ?_
 refine wl_nil ?_
 refine wc_seq ?_
 obtain ⟨ht8, H⟩ := chk_ex H
 obtain ⟨p9, s10, hp11, S⟩ := S.seeR 1 ht8
 replace S : St A N w w [] [oB p9 T_RTab (RTab.C ⟨s10⟩), fS 4 Nd.C s10 (a1.getD []), oT a_0 a0, oR a_1 a1] := S
 refine wc_ws hmix fun w12 K => ?_
 replace S := S.ext K
 clear K
 obtain ⟨r13, er13, H⟩ := bind_ex H
 refine ws_semi 0 6 [1] (by kernel_rfl) (by decide) (by kernel_rfl)
  (V := fun i v u => match i with
  | 1 => ∃ sl, v = SlV.v sl ∧ (Rd u 4 sl (r13.map Nd.C) ∧ r13.length ≤ 140737488355328) ∧ (∀ j, sl.fp j → w12.heap.size ≤ j)
  | _ => True) ?_ ?_
 ·intro i v u u' hi hx hv
  match i, hv with
  | 1, ⟨b, e1, hr, hl⟩ => exact ⟨b, e1, ⟨hr.1.ext hx, hr.2⟩, hl⟩
  | 0, _ => exact trivial
  | _ + 2, _ => exact trivial
 refine wm_does (fun v K => does_mv_p rfl) rfl ?_
 refine wm_newcall (fun g v K G => (have ⟨M, SS⟩ := (S.ext K).lend ((.z 2 rfl .nil)); ⟨_, _, does_callg ca_formula_Table_Rows (cons2 rfl rfl), newc (formula_Table_Rows_st SS er13) fun _ _ ⟨s', hv, h⟩ => ⟨h.frame, s', hv, h.newS.1, fun i hi => by have := h.newS.2 i hi; have := K.size; omega⟩⟩)) rfl ?_
 refine wm_does (fun v K => does_mv_p rfl) rfl ?_
 refine wm_does (fun v K => does_nilCheck (congrArg Value.pointer hp11)) rfl ?_
 refine wm_does (fun v K => does_fieldAddr fl_RTab_n rfl (o' := 0) rfl) rfl ?_
 refine wm_does (fun v K => does_load on_L_api_Node rfl (((S.ext K).blkZ 0).cell (RTab.get_n _))) rfl ?_
 refine wm_nil fun g w15 K hV => ?_
 obtain ⟨s14, hv161, hr1, hf1⟩ := hV 1 rfl (by decide)
 replace S : St A N w w15 [] [fS 4 Nd.C s14 r13, oB p9 T_RTab (RTab.C ⟨s10⟩), fS 4 Nd.C s10 (a1.getD []), oT a_0 a0, oR a_1 a1] := S.addZs K (.s hr1.1 hr1.2 hf1 .nil)
 clear K hV
 refine ws_chain 6 8 (by kernel_rfl) (by decide) ?_
 obtain ⟨r17, er17, H⟩ := bind_ex H
 obtain ⟨B19, MB19, SB19, back⟩ := S.calln 0 ((.z 0 rfl (.z 2 rfl .nil)))
 refine wl_call (does_callg ca_ref03_Same (cons2 hv161 (cons2 rfl rfl))) (by decide) (ref03_Same_st SB19 er17) ?_
 rintro _ w18 ⟨rfl, S2⟩
 replace S : St A N w w18 [] [fS 4 Nd.C s14 r13, oB p9 T_RTab (RTab.C ⟨s10⟩), fS 4 Nd.C s10 (a1.getD []), oT a_0 a0, oR a_1 a1] := back _ _ _ _ S2 rfl
 clear back S2 SB19
 refine wd (does_mv_b rfl) ?_
 refine wl_nil ⟨rfl, ?_⟩
 obtain ⟨r20, er20, H⟩ := bind_ex H
 refine ws_semi 8 15 [] (by kernel_rfl) (by decide) (by kernel_rfl)
  (V := fun i v u => match i with
  | _ => True) ?_ ?_
 ·intro i v u u' hi hx hv
  match i, hv with
  | _, _ => exact trivial
 refine wm_guard (j := 7) (pol := true) rfl rfl rfl (fun hg v K => does_mv_p rfl) rfl ?_
 refine wm_gcall (j := 7) (pol := true) rfl rfl rfl (fun hg v => does_callg ca_formula_Table_Len (cons2 (gv_yes hg) rfl)) (fun hg v K => (have ⟨M, SS⟩ := (S.ext K).lend ((.z 3 rfl .nil)); quiet (formula_Table_Len_st SS (if_t (by simpa using hg) er20)) (fun v w' h => ⟨h.1, _, _, h.2⟩))) rfl ?_
 refine wm_guard (j := 7) (pol := true) rfl rfl rfl (fun hg v K => does_mv_p rfl) rfl ?_
 refine wm_guard (j := 7) (pol := true) rfl rfl rfl (fun hg v K => does_nilCheck (((gv_yes hg) : _ = Value.pointer a_1).trans (congrArg Value.pointer hp11))) rfl ?_
 refine wm_guard (j := 7) (pol := true) rfl rfl rfl (fun hg v K => does_fieldAddr fl_RTab_n (gv_yes hg) (o' := 0) rfl) rfl ?_
 refine wm_guard (j := 7) (pol := true) rfl rfl rfl (fun hg v K => does_load on_L_api_Node (gv_yes hg) (((S.ext K).blkZ 1).cell (RTab.get_n _))) rfl ?_
 refine wm_guard (j := 7) (pol := true) rfl rfl rfl (fun hg v K => does_lenR sl_L_api_Node (gv_yes hg) ((S.ext K).rd 2)) rfl ?_
 refine wm_nil fun g w21 K hV => ?_
 replace S := S.ext K
 clear K hV
 refine ws_tail 15 (by kernel_rfl) (by decide) ?_
 refine wl_guard (j := 7) (pol := true) rfl rfl rfl (by decide) (fun hg => does_eq (gv_yes hg) (gv_yes hg)) (by decide) ?_
 refine wd (does_and rfl (fun hp => (gv_yes (and_1 hp)))) ?_
 refine wd (does_as_b rfl) ?_
 replace S : St A N w w21 [] [fS 4 Nd.C s14 r13, oT a_0 a0, oR a_1 a1] := S.zs [0, 3, 4]
 refine wl_nil ?_
 refine wc_ret ?_
 refine ⟨_, (rets1 (retOne_tmp rfl)), ?_⟩
 replace S : St A N w w21 [] [] := S.arr [] []
 obtain rfl := Option.some.inj H
 exact ⟨rfl, S⟩
theorem law03_Both_st {A : Nat → Prop} {N : Oth} {w : World} {a0 : List Nd} {s_0 : SlV} (S : St A N w w [] [fS 4 Nd.C s_0 a0]) {r : Tb × Tb × Bool} (H : law03_Both.f a0 = some r) :
  Calls PP F_law03_Both #[s_0.v] w fun e w' => ∃ v, e = .returned v ∧ (∃ ao0 : Option Addr, ∃ ao1 : Option Addr, v = .tuple #[.pointer ao0, .pointer ao1, .bool r.2.2] ∧ St A N w w' [oT ao0 r.1, oR ao1 r.2.1] []) := by
 unfold law03_Both.f at H
 refine calls_of_wc (n := 27) fn_law03_Both rfl rfl (by simp) ?_
 refine wc_seq (wc_region ?_)
 replace S : St A N w w [oT none none] [fS 4 Nd.C s_0 a0] := S.add (Ext.refl _) (oT.nil _) (fun _ x => x.elim)
 refine wd (does_as_p rfl) ?_
 replace S : St A N w w [oR none none, oT none none] [fS 4 Nd.C s_0 a0] := S.add (Ext.refl _) (oR.nil _) (fun _ x => x.elim)
 refine wd (does_as_p rfl) ?_
 refine wd (does_as_b rfl) ?_
 refine wl_nil ?_
 refine wc_seq (wc_region ?_)
 refine wl_lits (C := Nd.C) (l := ([] : List Nd)) (vs := []) sl_L_api_Node el_Nd.zero rfl rfl (fun a _ => Nd.len a) (by decide) rfl (by decide) fun b2 w1 s3 hBw1 hw1 => ?_
 replace S : St A N w w1 [oS T_Nd 4 Nd.C s3 ([] : List Nd), oR none none, oT none none] [fS 4 Nd.C s_0 a0] := S.lit hBw1 hw1 (by simp)
 refine wd (does_mv_l rfl) ?_
 obtain ⟨ha6, H⟩ := chk_ex H
 have ha6 := of_decide_eq_true ha6
 refine wl_appendm (C := Nd.C) sl_L_api_Node el_Nd rfl rfl (S.sl 0) (S.rd 0) Nd.one ha6 (by omega) (by decide) fun s5 w4 O hw4 gw4 => ?_
 replace S : St A N w w4 [oS T_Nd 4 Nd.C s5 (([] : List Nd) ++ a0), oR none none, oT none none] [fS 4 Nd.C s_0 a0] := S.push 0 O (by first | (simp; done) | (simp; omega)) hw4 gw4
 clear O
 refine wd (does_as_l rfl) ?_
 refine wl_nil ?_
 refine wc_seq (wc_region ?_)
 refine wd (does_mv_l rfl) ?_
 obtain ⟨r7, er7, H⟩ := bind_ex H
 obtain ⟨B9, MB9, SB9, back⟩ := S.calln 0 ((.z 0 rfl .nil))
 refine wl_call (does_call ca_ref03_From) (by decide) (ref03_From_st SB9 er7) ?_
 rintro _ w8 ⟨a10, rfl, S2⟩
 replace S : St A N w w8 [oR a10 r7.1, oS T_Nd 4 Nd.C s5 (([] : List Nd) ++ a0), oR none none, oT none none] [fS 4 Nd.C s_0 a0] := back _ _ _ _ S2 rfl
 clear back S2 SB9
 refine wd (does_mv_t rfl) ?_
 refine wd (does_extract rfl rfl) ?_
 refine wd (does_extract rfl rfl) ?_
 refine wd (does_as_p rfl) ?_
 refine wd (does_as_i rfl) ?_
 refine wl_nil ?_
 refine wc_seq (wc_seq (wc_region ?_))
 refine wd (does_mv_i rfl) ?_
 refine wd (does_ne rfl rfl) ?_
 refine wl_nil ?_
 refine wc_if rfl (fun hc11 => ?_) (fun hc11 => ?_)
 ·replace H := if_t hc11 H
  refine wc_seq (wc_region ?_)
  replace S : St A N w w8 [oT none none, oR a10 r7.1, oS T_Nd 4 Nd.C s5 (([] : List Nd) ++ a0), oR none none, oT none none] [fS 4 Nd.C s_0 a0] := S.add (Ext.refl _) (oT.nil _) (fun _ x => x.elim)
  refine wd (does_as_p rfl) ?_
  replace S : St A N w w8 [oR none none, oT none none, oR a10 r7.1, oS T_Nd 4 Nd.C s5 (([] : List Nd) ++ a0), oR none none, oT none none] [fS 4 Nd.C s_0 a0] := S.add (Ext.refl _) (oR.nil _) (fun _ x => x.elim)
  refine wd (does_as_p rfl) ?_
  refine wd (does_as_b rfl) ?_
  refine wl_nil ?_
  refine wc_ret ?_
  refine ⟨_, (rets3 (retOne_tmp rfl) (retOne_tmp rfl) (retOne_tmp rfl)), ?_⟩
  replace S : St A N w w8 [oT none none, oR none none] [] := S.arr [1, 0] []
  obtain rfl := Option.some.inj H
  exact ⟨none, none, rfl, S⟩
 replace H := if_f hc11 H
 refine wc_skip ?_
 refine wc_seq (wc_region ?_)
 refine wd (does_mv_l rfl) ?_
 obtain ⟨r12, er12, H⟩ := bind_ex H
 obtain ⟨B14, MB14, SB14, back⟩ := S.calln 0 ((.s 1 rfl .nil))
 refine wl_call (does_call ca_formula_From) (by decide) (formula_From_st SB14 er12) ?_
 rintro _ w13 ⟨a15, rfl, S2⟩
 replace S : St A N w w13 [oT a15 r12.1, oR a10 r7.1, oS T_Nd 4 Nd.C s5 (([] : List Nd) ++ a0), oR none none, oT none none] [fS 4 Nd.C s_0 a0] := back _ _ _ _ S2 rfl
 clear back S2 SB14
 refine wd (does_mv_t rfl) ?_
 refine wd (does_extract rfl rfl) ?_
 refine wd (does_extract rfl rfl) ?_
 refine wd (does_as_p rfl) ?_
 refine wd (does_as_i rfl) ?_
 refine wl_nil ?_
 refine wc_seq (wc_region ?_)
 refine wd (does_mv_p rfl) ?_
 refine wd (does_mv_p rfl) ?_
 refine wd (does_as_p rfl) ?_
 refine wd (does_as_p rfl) ?_
 refine wd (does_as_b rfl) ?_
 refine wl_nil ?_
 refine wc_ret ?_
 refine ⟨_, (rets3 (retOne_tmp rfl) (retOne_tmp rfl) (retOne_tmp rfl)), ?_⟩
 replace S : St A N w w13 [oT a15 r12.1, oR a10 r7.1] [] := S.arr [0, 1] []
 obtain rfl := Option.some.inj H
 exact ⟨a15, a10, rfl, S⟩
end Go.Proofs.YtjebgcoknpcadaaDoor
end
section
namespace Go.Proofs.YtjebgcoknpcadaaDoor
open Gw Go.RowKit
set_option maxHeartbeats 4000000
set_option maxRecDepth 20000
theorem law13_v_st {A : Nat → Prop} {N : Oth} {w : World} {a0 : ByteArray} (S : St A N w w [] []) {r : PTerm} (H : law13_v.f a0 = some r) :
  Calls PP F_law13_v #[.string a0] w fun e w' => ∃ v, e = .returned v ∧ (∃ so0 : SlV, v = .agg (Term.C (⟨r.kind, r.name, r.other, r.form, so0⟩ : Term)).toArray ∧ St A N w w' [] [oDTerm so0 r.sub]) := by
 unfold law13_v.f at H
 refine calls_of_wc (n := 5) fn_law13_v rfl rfl (by simp) ?_
 refine wc_seq (wc_region ?_)
 refine wl_alloc ze_Term (by decide) fun b2 w1 hw1 => ?_
 replace S : St A N w w1 [oB b2 T_Term (Term.C (⟨0, ByteArray.empty, ByteArray.empty, 0, SlV.nil⟩ : Term))] [] := S.new hw1
 refine wl_nil ?_
 refine wc_seq (wc_region ?_)
 refine wd (does_mv_s rfl) ?_
 refine wd (Does.to (v' := .agg (Term.C (⟨1, a0, ByteArray.empty, 0, SlV.nil⟩ : Term)).toArray) (does_buildv (vs := [(0, .int .i64 1), (1, .string a0)]) bu_Term (consP rfl (consP rfl rfl)) (Bld.one rfl rfl (by rw [Term.len]; decide) (Term.set_kind _ _) (Bld.one rfl rfl (by rw [Term.len]; decide) (Term.set_name _ _) Bld.nil))) rfl) ?_
 refine wl_store_agg ag_Term rfl rfl (S.blk 0) (Term.len _) (by rw [Term.len]; decide) (Term.one _) (store_all (Term.len _)) fun w3 B hw3 zw3 => ?_
 replace S : St A N w w3 [oB b2 T_Term (Term.C (⟨1, a0, ByteArray.empty, 0, SlV.nil⟩ : Term))] [] := S.store 0 B hw3
 clear B
 refine wl_nil ?_
 refine wc_ret ?_
 replace S : St A N w w3 [oB b2 T_Term (Term.C (⟨1, a0, ByteArray.empty, 0, SlV.nil⟩ : Term))] [oDTerm SlV.nil ([])] := S.nilTm
 refine ⟨_, (rets1 (retOne_agg ag_Term rfl ((S.blk 0).all _ (Term.len _)) (Term.len _))), ?_⟩
 replace S : St A N w w3 [] [oDTerm SlV.nil ([])] := S.arr [] [0]
 obtain rfl := Option.some.inj H
 exact ⟨SlV.nil, rfl, S⟩
theorem law13_heads_st {A : Nat → Prop} {N : Oth} {w : World}  (S : St A N w w [] [oEt]) {k : Nat} {r : Bool} (H : law13_heads.f k  = some r) :
  Calls PP F_law13_heads #[] w fun e w' => ∃ v, e = .returned v ∧ (v = .bool r ∧ St A N w w' [] []) := by
 unfold law13_heads.f at H
 refine calls_of_wc (n := 108) fn_law13_heads rfl rfl (by simp) ?_
 refine wc_seq (wc_region ?_)
 refine wd (does_as_b rfl) ?_
 refine wl_nil ?_
 refine wc_seq (wc_region ?_)
 refine wd (does_build bu_Nd (Bld.one rfl rfl (by rw [Nd.len]; decide) (Nd.set_kind _ _) (Bld.one rfl rfl (by rw [Nd.len]; decide) (Nd.set_name _ _) Bld.nil))) ?_
 refine wd (does_build bu_Nd (Bld.one rfl rfl (by rw [Nd.len]; decide) (Nd.set_kind _ _) (Bld.one rfl rfl (by rw [Nd.len]; decide) (Nd.set_name _ _) Bld.nil))) ?_
 refine wd (does_build bu_Nd (Bld.one rfl rfl (by rw [Nd.len]; decide) (Nd.set_kind _ _) (Bld.one rfl rfl (by rw [Nd.len]; decide) (Nd.set_l _ _) (Bld.one rfl rfl (by rw [Nd.len]; decide) (Nd.set_r _ _) Bld.nil)))) ?_
 refine wd (does_build bu_Nd (Bld.one rfl rfl (by rw [Nd.len]; decide) (Nd.set_kind _ _) (Bld.one rfl rfl (by rw [Nd.len]; decide) (Nd.set_l _ _) (Bld.one rfl rfl (by rw [Nd.len]; decide) (Nd.set_r _ _) Bld.nil)))) ?_
 refine wd (does_build bu_Nd (Bld.one rfl rfl (by rw [Nd.len]; decide) (Nd.set_kind _ _) Bld.nil)) ?_
 refine wl_lits (C := Nd.C) (l := [{ Nd.z with kind := 1, name := (⟨#[112]⟩ : ByteArray) }, { Nd.z with kind := 1, name := (⟨#[113]⟩ : ByteArray) }, { Nd.z with kind := 3, l := 0, r := 1 }, { Nd.z with kind := 5, l := 2, r := 0 }, { Nd.z with kind := 2 }]) (vs := [.agg (Nd.C ({ Nd.z with kind := 1, name := (⟨#[112]⟩ : ByteArray) })).toArray, .agg (Nd.C ({ Nd.z with kind := 1, name := (⟨#[113]⟩ : ByteArray) })).toArray, .agg (Nd.C ({ Nd.z with kind := 3, l := 0, r := 1 })).toArray, .agg (Nd.C ({ Nd.z with kind := 5, l := 2, r := 0 })).toArray, .agg (Nd.C ({ Nd.z with kind := 2 })).toArray]) sl_L_api_Node el_Nd.zero rfl rfl (fun a _ => Nd.len a) (by decide) rfl (by decide) fun b2 w1 s3 hBw1 hw1 => ?_
 replace S : St A N w w1 [oS T_Nd 4 Nd.C s3 ([{ Nd.z with kind := 1, name := (⟨#[112]⟩ : ByteArray) }, { Nd.z with kind := 1, name := (⟨#[113]⟩ : ByteArray) }, { Nd.z with kind := 3, l := 0, r := 1 }, { Nd.z with kind := 5, l := 2, r := 0 }, { Nd.z with kind := 2 }])] [oEt] := S.lit hBw1 hw1 (by simp)
 obtain ⟨r4, er4, H⟩ := bind_ex H
 obtain ⟨B6, MB6, SB6, back⟩ := S.calln 0 ((.s 0 rfl .nil))
 refine wl_call (does_call ca_formula_From) (by decide) (formula_From_st SB6 er4) ?_
 rintro _ w5 ⟨a7, rfl, S2⟩
 replace S : St A N w w5 [oT a7 r4.1, oS T_Nd 4 Nd.C s3 ([{ Nd.z with kind := 1, name := (⟨#[112]⟩ : ByteArray) }, { Nd.z with kind := 1, name := (⟨#[113]⟩ : ByteArray) }, { Nd.z with kind := 3, l := 0, r := 1 }, { Nd.z with kind := 5, l := 2, r := 0 }, { Nd.z with kind := 2 }])] [oEt] := back _ _ _ _ S2 rfl
 clear back S2 SB6
 refine wd (does_mv_t rfl) ?_
 refine wd (does_extract rfl rfl) ?_
 refine wd (does_extract rfl rfl) ?_
 refine wd (does_as_p rfl) ?_
 refine wd (does_as_i rfl) ?_
 refine wl_nil ?_
 refine wc_seq (wc_region ?_)
 obtain ⟨r8, er8, H⟩ := bind_ex H
 obtain ⟨B10, MB10, SB10, back⟩ := S.sub [] [] [oT a7 r4.1, oS T_Nd 4 Nd.C s3 ([{ Nd.z with kind := 1, name := (⟨#[112]⟩ : ByteArray) }, { Nd.z with kind := 1, name := (⟨#[113]⟩ : ByteArray) }, { Nd.z with kind := 3, l := 0, r := 1 }, { Nd.z with kind := 5, l := 2, r := 0 }, { Nd.z with kind := 2 }])]
 refine wl_call (does_call ca_law13_v) (by decide) (law13_v_st SB10 er8) ?_
 rintro _ w9 ⟨s11, rfl, S2⟩
 replace S : St A N w w9 [oT a7 r4.1, oS T_Nd 4 Nd.C s3 ([{ Nd.z with kind := 1, name := (⟨#[112]⟩ : ByteArray) }, { Nd.z with kind := 1, name := (⟨#[113]⟩ : ByteArray) }, { Nd.z with kind := 3, l := 0, r := 1 }, { Nd.z with kind := 5, l := 2, r := 0 }, { Nd.z with kind := 2 }])] [oDTerm s11 r8.sub, oEt] := back _ _ _ _ _ S2 rfl rfl
 clear back S2 SB10
 refine wl_lits (C := Term.C) (l := [(⟨r8.kind, r8.name, r8.other, r8.form, s11⟩ : Term)]) (vs := [.agg (Term.C (⟨r8.kind, r8.name, r8.other, r8.form, s11⟩ : Term)).toArray]) sl_L_api_Term el_Term.zero rfl rfl (fun a _ => Term.len a) (by decide) rfl (by decide) fun b13 w12 s14 hBw12 hw12 => ?_
 replace S : St A N w w12 [oS T_Term 5 Term.C s14 ([(⟨r8.kind, r8.name, r8.other, r8.form, s11⟩ : Term)]), oT a7 r4.1, oS T_Nd 4 Nd.C s3 ([{ Nd.z with kind := 1, name := (⟨#[112]⟩ : ByteArray) }, { Nd.z with kind := 1, name := (⟨#[113]⟩ : ByteArray) }, { Nd.z with kind := 3, l := 0, r := 1 }, { Nd.z with kind := 5, l := 2, r := 0 }, { Nd.z with kind := 2 }])] [oDTerm s11 r8.sub, oEt] := S.lit hBw12 hw12 (by simp)
 replace S : St A N w w12 [oS T_Term 5 Term.C s14 ([(⟨r8.kind, r8.name, r8.other, r8.form, s11⟩ : Term)]), oT a7 r4.1, oS T_Nd 4 Nd.C s3 ([{ Nd.z with kind := 1, name := (⟨#[112]⟩ : ByteArray) }, { Nd.z with kind := 1, name := (⟨#[113]⟩ : ByteArray) }, { Nd.z with kind := 3, l := 0, r := 1 }, { Nd.z with kind := 5, l := 2, r := 0 }, { Nd.z with kind := 2 }])] [bigA fTerm ([] : List Term) ([] : List PTerm), oDTerm s11 r8.sub, oEt] := S.bigTm
 replace S : St A N w w12 [oS T_Term 5 Term.C s14 ([(⟨r8.kind, r8.name, r8.other, r8.form, s11⟩ : Term)]), oT a7 r4.1, oS T_Nd 4 Nd.C s3 ([{ Nd.z with kind := 1, name := (⟨#[112]⟩ : ByteArray) }, { Nd.z with kind := 1, name := (⟨#[113]⟩ : ByteArray) }, { Nd.z with kind := 3, l := 0, r := 1 }, { Nd.z with kind := 5, l := 2, r := 0 }, { Nd.z with kind := 2 }])] [bigA fTerm [(⟨r8.kind, r8.name, r8.other, r8.form, s11⟩ : Term)] [r8], oDTerm s11 r8.sub, oEt] := S.consTm (x := r8) 0
 replace S : St A N w w12 [oT a7 r4.1, oS T_Nd 4 Nd.C s3 ([{ Nd.z with kind := 1, name := (⟨#[112]⟩ : ByteArray) }, { Nd.z with kind := 1, name := (⟨#[113]⟩ : ByteArray) }, { Nd.z with kind := 3, l := 0, r := 1 }, { Nd.z with kind := 5, l := 2, r := 0 }, { Nd.z with kind := 2 }])] [oDTerm s14 ([r8]), bigA fTerm [(⟨r8.kind, r8.name, r8.other, r8.form, s11⟩ : Term)] [r8], oDTerm s11 r8.sub, oEt] := S.frzTm 0 0
 replace S : St A N w w12 [oT a7 r4.1, oS T_Nd 4 Nd.C s3 ([{ Nd.z with kind := 1, name := (⟨#[112]⟩ : ByteArray) }, { Nd.z with kind := 1, name := (⟨#[113]⟩ : ByteArray) }, { Nd.z with kind := 3, l := 0, r := 1 }, { Nd.z with kind := 5, l := 2, r := 0 }, { Nd.z with kind := 2 }])] [oDTerm s14 ([r8]), oDTerm s11 r8.sub, oEt] := S.zs [0, 2, 3]
 refine wd (Does.to (v' := .agg (Term.C (⟨5, ByteArray.empty, ByteArray.empty, 0, s14⟩ : Term)).toArray) (does_buildv (vs := [(0, .int .i64 5), (4, s14.v)]) bu_Term (consP rfl (consP rfl rfl)) (Bld.one rfl rfl (by rw [Term.len]; decide) (Term.set_kind _ _) (Bld.one rfl (SlV.one _ _ rfl) (by rw [Term.len]; decide) (Term.set_sub _ _) Bld.nil))) rfl) ?_
 refine wl_alloc ze_Term (by decide) fun b16 w15 hw15 => ?_
 replace S : St A N w w15 [oB b16 T_Term (Term.C (⟨0, ByteArray.empty, ByteArray.empty, 0, SlV.nil⟩ : Term)), oT a7 r4.1, oS T_Nd 4 Nd.C s3 ([{ Nd.z with kind := 1, name := (⟨#[112]⟩ : ByteArray) }, { Nd.z with kind := 1, name := (⟨#[113]⟩ : ByteArray) }, { Nd.z with kind := 3, l := 0, r := 1 }, { Nd.z with kind := 5, l := 2, r := 0 }, { Nd.z with kind := 2 }])] [oDTerm s14 ([r8]), oDTerm s11 r8.sub, oEt] := S.new hw15
 refine wl_store_agg ag_Term rfl rfl (S.blk 0) (Term.len _) (by rw [Term.len]; decide) (Term.one _) (store_all (Term.len _)) fun w17 B hw17 zw17 => ?_
 replace S : St A N w w17 [oB b16 T_Term (Term.C (⟨5, ByteArray.empty, ByteArray.empty, 0, s14⟩ : Term)), oT a7 r4.1, oS T_Nd 4 Nd.C s3 ([{ Nd.z with kind := 1, name := (⟨#[112]⟩ : ByteArray) }, { Nd.z with kind := 1, name := (⟨#[113]⟩ : ByteArray) }, { Nd.z with kind := 3, l := 0, r := 1 }, { Nd.z with kind := 5, l := 2, r := 0 }, { Nd.z with kind := 2 }])] [oDTerm s14 ([r8]), oDTerm s11 r8.sub, oEt] := S.store 0 B hw17
 clear B
 refine wl_nil ?_
 refine wc_seq (wc_region ?_)
 obtain ⟨r18, er18, H⟩ := bind_ex H
 obtain ⟨B20, MB20, SB20, back⟩ := S.sub [] [] [oB b16 T_Term (Term.C (⟨5, ByteArray.empty, ByteArray.empty, 0, s14⟩ : Term)), oT a7 r4.1, oS T_Nd 4 Nd.C s3 ([{ Nd.z with kind := 1, name := (⟨#[112]⟩ : ByteArray) }, { Nd.z with kind := 1, name := (⟨#[113]⟩ : ByteArray) }, { Nd.z with kind := 3, l := 0, r := 1 }, { Nd.z with kind := 5, l := 2, r := 0 }, { Nd.z with kind := 2 }])]
 refine wl_call (does_call ca_law13_v) (by decide) (law13_v_st SB20 er18) ?_
 rintro _ w19 ⟨s21, rfl, S2⟩
 replace S : St A N w w19 [oB b16 T_Term (Term.C (⟨5, ByteArray.empty, ByteArray.empty, 0, s14⟩ : Term)), oT a7 r4.1, oS T_Nd 4 Nd.C s3 ([{ Nd.z with kind := 1, name := (⟨#[112]⟩ : ByteArray) }, { Nd.z with kind := 1, name := (⟨#[113]⟩ : ByteArray) }, { Nd.z with kind := 3, l := 0, r := 1 }, { Nd.z with kind := 5, l := 2, r := 0 }, { Nd.z with kind := 2 }])] [oDTerm s21 r18.sub, oDTerm s14 ([r8]), oDTerm s11 r8.sub, oEt] := back _ _ _ _ _ S2 rfl rfl
 clear back S2 SB20
 refine wl_lits (C := Term.C) (l := [(⟨r18.kind, r18.name, r18.other, r18.form, s21⟩ : Term)]) (vs := [.agg (Term.C (⟨r18.kind, r18.name, r18.other, r18.form, s21⟩ : Term)).toArray]) sl_L_api_Term el_Term.zero rfl rfl (fun a _ => Term.len a) (by decide) rfl (by decide) fun b23 w22 s24 hBw22 hw22 => ?_
 replace S : St A N w w22 [oS T_Term 5 Term.C s24 ([(⟨r18.kind, r18.name, r18.other, r18.form, s21⟩ : Term)]), oB b16 T_Term (Term.C (⟨5, ByteArray.empty, ByteArray.empty, 0, s14⟩ : Term)), oT a7 r4.1, oS T_Nd 4 Nd.C s3 ([{ Nd.z with kind := 1, name := (⟨#[112]⟩ : ByteArray) }, { Nd.z with kind := 1, name := (⟨#[113]⟩ : ByteArray) }, { Nd.z with kind := 3, l := 0, r := 1 }, { Nd.z with kind := 5, l := 2, r := 0 }, { Nd.z with kind := 2 }])] [oDTerm s21 r18.sub, oDTerm s14 ([r8]), oDTerm s11 r8.sub, oEt] := S.lit hBw22 hw22 (by simp)
 replace S : St A N w w22 [oS T_Term 5 Term.C s24 ([(⟨r18.kind, r18.name, r18.other, r18.form, s21⟩ : Term)]), oB b16 T_Term (Term.C (⟨5, ByteArray.empty, ByteArray.empty, 0, s14⟩ : Term)), oT a7 r4.1, oS T_Nd 4 Nd.C s3 ([{ Nd.z with kind := 1, name := (⟨#[112]⟩ : ByteArray) }, { Nd.z with kind := 1, name := (⟨#[113]⟩ : ByteArray) }, { Nd.z with kind := 3, l := 0, r := 1 }, { Nd.z with kind := 5, l := 2, r := 0 }, { Nd.z with kind := 2 }])] [bigA fTerm ([] : List Term) ([] : List PTerm), oDTerm s21 r18.sub, oDTerm s14 ([r8]), oDTerm s11 r8.sub, oEt] := S.bigTm
 replace S : St A N w w22 [oS T_Term 5 Term.C s24 ([(⟨r18.kind, r18.name, r18.other, r18.form, s21⟩ : Term)]), oB b16 T_Term (Term.C (⟨5, ByteArray.empty, ByteArray.empty, 0, s14⟩ : Term)), oT a7 r4.1, oS T_Nd 4 Nd.C s3 ([{ Nd.z with kind := 1, name := (⟨#[112]⟩ : ByteArray) }, { Nd.z with kind := 1, name := (⟨#[113]⟩ : ByteArray) }, { Nd.z with kind := 3, l := 0, r := 1 }, { Nd.z with kind := 5, l := 2, r := 0 }, { Nd.z with kind := 2 }])] [bigA fTerm [(⟨r18.kind, r18.name, r18.other, r18.form, s21⟩ : Term)] [r18], oDTerm s21 r18.sub, oDTerm s14 ([r8]), oDTerm s11 r8.sub, oEt] := S.consTm (x := r18) 0
 replace S : St A N w w22 [oB b16 T_Term (Term.C (⟨5, ByteArray.empty, ByteArray.empty, 0, s14⟩ : Term)), oT a7 r4.1, oS T_Nd 4 Nd.C s3 ([{ Nd.z with kind := 1, name := (⟨#[112]⟩ : ByteArray) }, { Nd.z with kind := 1, name := (⟨#[113]⟩ : ByteArray) }, { Nd.z with kind := 3, l := 0, r := 1 }, { Nd.z with kind := 5, l := 2, r := 0 }, { Nd.z with kind := 2 }])] [oDTerm s24 ([r18]), bigA fTerm [(⟨r18.kind, r18.name, r18.other, r18.form, s21⟩ : Term)] [r18], oDTerm s21 r18.sub, oDTerm s14 ([r8]), oDTerm s11 r8.sub, oEt] := S.frzTm 0 0
 replace S : St A N w w22 [oB b16 T_Term (Term.C (⟨5, ByteArray.empty, ByteArray.empty, 0, s14⟩ : Term)), oT a7 r4.1, oS T_Nd 4 Nd.C s3 ([{ Nd.z with kind := 1, name := (⟨#[112]⟩ : ByteArray) }, { Nd.z with kind := 1, name := (⟨#[113]⟩ : ByteArray) }, { Nd.z with kind := 3, l := 0, r := 1 }, { Nd.z with kind := 5, l := 2, r := 0 }, { Nd.z with kind := 2 }])] [oDTerm s24 ([r18]), oDTerm s21 r18.sub, oDTerm s14 ([r8]), oDTerm s11 r8.sub, oEt] := S.zs [0, 2, 3, 4, 5]
 refine wd (Does.to (v' := .agg (Term.C (⟨6, ByteArray.empty, ByteArray.empty, 0, s24⟩ : Term)).toArray) (does_buildv (vs := [(0, .int .i64 6), (4, s24.v)]) bu_Term (consP rfl (consP rfl rfl)) (Bld.one rfl rfl (by rw [Term.len]; decide) (Term.set_kind _ _) (Bld.one rfl (SlV.one _ _ rfl) (by rw [Term.len]; decide) (Term.set_sub _ _) Bld.nil))) rfl) ?_
 refine wl_alloc ze_Term (by decide) fun b26 w25 hw25 => ?_
 replace S : St A N w w25 [oB b26 T_Term (Term.C (⟨0, ByteArray.empty, ByteArray.empty, 0, SlV.nil⟩ : Term)), oB b16 T_Term (Term.C (⟨5, ByteArray.empty, ByteArray.empty, 0, s14⟩ : Term)), oT a7 r4.1, oS T_Nd 4 Nd.C s3 ([{ Nd.z with kind := 1, name := (⟨#[112]⟩ : ByteArray) }, { Nd.z with kind := 1, name := (⟨#[113]⟩ : ByteArray) }, { Nd.z with kind := 3, l := 0, r := 1 }, { Nd.z with kind := 5, l := 2, r := 0 }, { Nd.z with kind := 2 }])] [oDTerm s24 ([r18]), oDTerm s21 r18.sub, oDTerm s14 ([r8]), oDTerm s11 r8.sub, oEt] := S.new hw25
 refine wl_store_agg ag_Term rfl rfl (S.blk 0) (Term.len _) (by rw [Term.len]; decide) (Term.one _) (store_all (Term.len _)) fun w27 B hw27 zw27 => ?_
 replace S : St A N w w27 [oB b26 T_Term (Term.C (⟨6, ByteArray.empty, ByteArray.empty, 0, s24⟩ : Term)), oB b16 T_Term (Term.C (⟨5, ByteArray.empty, ByteArray.empty, 0, s14⟩ : Term)), oT a7 r4.1, oS T_Nd 4 Nd.C s3 ([{ Nd.z with kind := 1, name := (⟨#[112]⟩ : ByteArray) }, { Nd.z with kind := 1, name := (⟨#[113]⟩ : ByteArray) }, { Nd.z with kind := 3, l := 0, r := 1 }, { Nd.z with kind := 5, l := 2, r := 0 }, { Nd.z with kind := 2 }])] [oDTerm s24 ([r18]), oDTerm s21 r18.sub, oDTerm s14 ([r8]), oDTerm s11 r8.sub, oEt] := S.store 0 B hw27
 clear B
 refine wl_nil ?_
 refine wc_seq (wc_region ?_)
 refine wd (does_mv_p rfl) ?_
 refine wd (does_load_agg ag_Term rfl ((S.blk 1).all _ (Term.len _)) (Term.len _)) ?_
 refine wl_lits (C := Term.C) (l := [(⟨5, ByteArray.empty, ByteArray.empty, 0, s14⟩ : Term)]) (vs := [.agg (Term.C (⟨5, ByteArray.empty, ByteArray.empty, 0, s14⟩ : Term)).toArray]) sl_L_api_Term el_Term.zero rfl rfl (fun a _ => Term.len a) (by decide) rfl (by decide) fun b29 w28 s30 hBw28 hw28 => ?_
 replace S : St A N w w28 [oS T_Term 5 Term.C s30 ([(⟨5, ByteArray.empty, ByteArray.empty, 0, s14⟩ : Term)]), oB b26 T_Term (Term.C (⟨6, ByteArray.empty, ByteArray.empty, 0, s24⟩ : Term)), oB b16 T_Term (Term.C (⟨5, ByteArray.empty, ByteArray.empty, 0, s14⟩ : Term)), oT a7 r4.1, oS T_Nd 4 Nd.C s3 ([{ Nd.z with kind := 1, name := (⟨#[112]⟩ : ByteArray) }, { Nd.z with kind := 1, name := (⟨#[113]⟩ : ByteArray) }, { Nd.z with kind := 3, l := 0, r := 1 }, { Nd.z with kind := 5, l := 2, r := 0 }, { Nd.z with kind := 2 }])] [oDTerm s24 ([r18]), oDTerm s21 r18.sub, oDTerm s14 ([r8]), oDTerm s11 r8.sub, oEt] := S.lit hBw28 hw28 (by simp)
 replace S : St A N w w28 [oS T_Term 5 Term.C s30 ([(⟨5, ByteArray.empty, ByteArray.empty, 0, s14⟩ : Term)]), oB b26 T_Term (Term.C (⟨6, ByteArray.empty, ByteArray.empty, 0, s24⟩ : Term)), oB b16 T_Term (Term.C (⟨5, ByteArray.empty, ByteArray.empty, 0, s14⟩ : Term)), oT a7 r4.1, oS T_Nd 4 Nd.C s3 ([{ Nd.z with kind := 1, name := (⟨#[112]⟩ : ByteArray) }, { Nd.z with kind := 1, name := (⟨#[113]⟩ : ByteArray) }, { Nd.z with kind := 3, l := 0, r := 1 }, { Nd.z with kind := 5, l := 2, r := 0 }, { Nd.z with kind := 2 }])] [bigA fTerm ([] : List Term) ([] : List PTerm), oDTerm s24 ([r18]), oDTerm s21 r18.sub, oDTerm s14 ([r8]), oDTerm s11 r8.sub, oEt] := S.bigTm
 replace S : St A N w w28 [oS T_Term 5 Term.C s30 ([(⟨5, ByteArray.empty, ByteArray.empty, 0, s14⟩ : Term)]), oB b26 T_Term (Term.C (⟨6, ByteArray.empty, ByteArray.empty, 0, s24⟩ : Term)), oB b16 T_Term (Term.C (⟨5, ByteArray.empty, ByteArray.empty, 0, s14⟩ : Term)), oT a7 r4.1, oS T_Nd 4 Nd.C s3 ([{ Nd.z with kind := 1, name := (⟨#[112]⟩ : ByteArray) }, { Nd.z with kind := 1, name := (⟨#[113]⟩ : ByteArray) }, { Nd.z with kind := 3, l := 0, r := 1 }, { Nd.z with kind := 5, l := 2, r := 0 }, { Nd.z with kind := 2 }])] [bigA fTerm [(⟨5, ByteArray.empty, ByteArray.empty, 0, s14⟩ : Term)] [(⟨5, ByteArray.empty, ByteArray.empty, 0, [r8]⟩ : PTerm)], oDTerm s24 ([r18]), oDTerm s21 r18.sub, oDTerm s14 ([r8]), oDTerm s11 r8.sub, oEt] := S.consTm (x := (⟨5, ByteArray.empty, ByteArray.empty, 0, [r8]⟩ : PTerm)) 2
 replace S : St A N w w28 [oB b26 T_Term (Term.C (⟨6, ByteArray.empty, ByteArray.empty, 0, s24⟩ : Term)), oB b16 T_Term (Term.C (⟨5, ByteArray.empty, ByteArray.empty, 0, s14⟩ : Term)), oT a7 r4.1, oS T_Nd 4 Nd.C s3 ([{ Nd.z with kind := 1, name := (⟨#[112]⟩ : ByteArray) }, { Nd.z with kind := 1, name := (⟨#[113]⟩ : ByteArray) }, { Nd.z with kind := 3, l := 0, r := 1 }, { Nd.z with kind := 5, l := 2, r := 0 }, { Nd.z with kind := 2 }])] [oDTerm s30 ([(⟨5, ByteArray.empty, ByteArray.empty, 0, [r8]⟩ : PTerm)]), bigA fTerm [(⟨5, ByteArray.empty, ByteArray.empty, 0, s14⟩ : Term)] [(⟨5, ByteArray.empty, ByteArray.empty, 0, [r8]⟩ : PTerm)], oDTerm s24 ([r18]), oDTerm s21 r18.sub, oDTerm s14 ([r8]), oDTerm s11 r8.sub, oEt] := S.frzTm 0 0
 replace S : St A N w w28 [oB b26 T_Term (Term.C (⟨6, ByteArray.empty, ByteArray.empty, 0, s24⟩ : Term)), oB b16 T_Term (Term.C (⟨5, ByteArray.empty, ByteArray.empty, 0, s14⟩ : Term)), oT a7 r4.1, oS T_Nd 4 Nd.C s3 ([{ Nd.z with kind := 1, name := (⟨#[112]⟩ : ByteArray) }, { Nd.z with kind := 1, name := (⟨#[113]⟩ : ByteArray) }, { Nd.z with kind := 3, l := 0, r := 1 }, { Nd.z with kind := 5, l := 2, r := 0 }, { Nd.z with kind := 2 }])] [oDTerm s30 ([(⟨5, ByteArray.empty, ByteArray.empty, 0, [r8]⟩ : PTerm)]), oDTerm s24 ([r18]), oDTerm s21 r18.sub, oDTerm s14 ([r8]), oDTerm s11 r8.sub, oEt] := S.zs [0, 2, 3, 4, 5, 6]
 refine wd (Does.to (v' := .agg (Term.C (⟨2, (⟨#[120]⟩ : ByteArray), ByteArray.empty, 0, s30⟩ : Term)).toArray) (does_buildv (vs := [(0, .int .i64 2), (1, .string (⟨#[120]⟩ : ByteArray)), (4, s30.v)]) bu_Term (consP rfl (consP rfl (consP rfl rfl))) (Bld.one rfl rfl (by rw [Term.len]; decide) (Term.set_kind _ _) (Bld.one rfl rfl (by rw [Term.len]; decide) (Term.set_name _ _) (Bld.one rfl (SlV.one _ _ rfl) (by rw [Term.len]; decide) (Term.set_sub _ _) Bld.nil)))) rfl) ?_
 replace S : St A N w w28 [oB b26 T_Term (Term.C (⟨6, ByteArray.empty, ByteArray.empty, 0, s24⟩ : Term)), oB b16 T_Term (Term.C (⟨5, ByteArray.empty, ByteArray.empty, 0, s14⟩ : Term)), oT a7 r4.1, oS T_Nd 4 Nd.C s3 ([{ Nd.z with kind := 1, name := (⟨#[112]⟩ : ByteArray) }, { Nd.z with kind := 1, name := (⟨#[113]⟩ : ByteArray) }, { Nd.z with kind := 3, l := 0, r := 1 }, { Nd.z with kind := 5, l := 2, r := 0 }, { Nd.z with kind := 2 }])] [fS 2 Hyp.C SlV.nil ([]), oDTerm s30 ([(⟨5, ByteArray.empty, ByteArray.empty, 0, [r8]⟩ : PTerm)]), oDTerm s24 ([r18]), oDTerm s21 r18.sub, oDTerm s14 ([r8]), oDTerm s11 r8.sub, oEt] := S.nilZ 2 Hyp.C
 obtain ⟨r31, er31, H⟩ := bind_ex H
 obtain ⟨B33, MB33, SB33, back⟩ := S.calln 0 ((.o 2 rfl (.z 0 rfl (.z 1 rfl (.z 6 rfl .nil)))))
 refine wl_call (does_callg ca_types_Check (cons2 rfl (cons2 SlV.nil_eq (cons2 rfl (cons2 rfl rfl))))) (by decide) (types_Check_st (a2 := (⟨2, (⟨#[120]⟩ : ByteArray), ByteArray.empty, 0, [(⟨5, ByteArray.empty, ByteArray.empty, 0, [r8]⟩ : PTerm)]⟩ : PTerm)) SB33 er31) ?_
 rintro _ w32 ⟨rfl, S2⟩
 replace S : St A N w w32 [oB b26 T_Term (Term.C (⟨6, ByteArray.empty, ByteArray.empty, 0, s24⟩ : Term)), oB b16 T_Term (Term.C (⟨5, ByteArray.empty, ByteArray.empty, 0, s14⟩ : Term)), oT a7 r4.1, oS T_Nd 4 Nd.C s3 ([{ Nd.z with kind := 1, name := (⟨#[112]⟩ : ByteArray) }, { Nd.z with kind := 1, name := (⟨#[113]⟩ : ByteArray) }, { Nd.z with kind := 3, l := 0, r := 1 }, { Nd.z with kind := 5, l := 2, r := 0 }, { Nd.z with kind := 2 }])] [fS 2 Hyp.C SlV.nil ([]), oDTerm s30 ([(⟨5, ByteArray.empty, ByteArray.empty, 0, [r8]⟩ : PTerm)]), oDTerm s24 ([r18]), oDTerm s21 r18.sub, oDTerm s14 ([r8]), oDTerm s11 r8.sub, oEt] := back _ _ _ _ S2 rfl
 clear back S2 SB33
 refine wd (does_as_i rfl) ?_
 refine wl_nil ?_
 refine wc_seq (wc_region ?_)
 refine wd (does_mv_p rfl) ?_
 refine wd (does_load_agg ag_Term rfl ((S.blk 0).all _ (Term.len _)) (Term.len _)) ?_
 refine wl_lits (C := Term.C) (l := [(⟨6, ByteArray.empty, ByteArray.empty, 0, s24⟩ : Term)]) (vs := [.agg (Term.C (⟨6, ByteArray.empty, ByteArray.empty, 0, s24⟩ : Term)).toArray]) sl_L_api_Term el_Term.zero rfl rfl (fun a _ => Term.len a) (by decide) rfl (by decide) fun b35 w34 s36 hBw34 hw34 => ?_
 replace S : St A N w w34 [oS T_Term 5 Term.C s36 ([(⟨6, ByteArray.empty, ByteArray.empty, 0, s24⟩ : Term)]), oB b26 T_Term (Term.C (⟨6, ByteArray.empty, ByteArray.empty, 0, s24⟩ : Term)), oB b16 T_Term (Term.C (⟨5, ByteArray.empty, ByteArray.empty, 0, s14⟩ : Term)), oT a7 r4.1, oS T_Nd 4 Nd.C s3 ([{ Nd.z with kind := 1, name := (⟨#[112]⟩ : ByteArray) }, { Nd.z with kind := 1, name := (⟨#[113]⟩ : ByteArray) }, { Nd.z with kind := 3, l := 0, r := 1 }, { Nd.z with kind := 5, l := 2, r := 0 }, { Nd.z with kind := 2 }])] [fS 2 Hyp.C SlV.nil ([]), oDTerm s30 ([(⟨5, ByteArray.empty, ByteArray.empty, 0, [r8]⟩ : PTerm)]), oDTerm s24 ([r18]), oDTerm s21 r18.sub, oDTerm s14 ([r8]), oDTerm s11 r8.sub, oEt] := S.lit hBw34 hw34 (by simp)
 replace S : St A N w w34 [oS T_Term 5 Term.C s36 ([(⟨6, ByteArray.empty, ByteArray.empty, 0, s24⟩ : Term)]), oB b26 T_Term (Term.C (⟨6, ByteArray.empty, ByteArray.empty, 0, s24⟩ : Term)), oB b16 T_Term (Term.C (⟨5, ByteArray.empty, ByteArray.empty, 0, s14⟩ : Term)), oT a7 r4.1, oS T_Nd 4 Nd.C s3 ([{ Nd.z with kind := 1, name := (⟨#[112]⟩ : ByteArray) }, { Nd.z with kind := 1, name := (⟨#[113]⟩ : ByteArray) }, { Nd.z with kind := 3, l := 0, r := 1 }, { Nd.z with kind := 5, l := 2, r := 0 }, { Nd.z with kind := 2 }])] [bigA fTerm ([] : List Term) ([] : List PTerm), fS 2 Hyp.C SlV.nil ([]), oDTerm s30 ([(⟨5, ByteArray.empty, ByteArray.empty, 0, [r8]⟩ : PTerm)]), oDTerm s24 ([r18]), oDTerm s21 r18.sub, oDTerm s14 ([r8]), oDTerm s11 r8.sub, oEt] := S.bigTm
 replace S : St A N w w34 [oS T_Term 5 Term.C s36 ([(⟨6, ByteArray.empty, ByteArray.empty, 0, s24⟩ : Term)]), oB b26 T_Term (Term.C (⟨6, ByteArray.empty, ByteArray.empty, 0, s24⟩ : Term)), oB b16 T_Term (Term.C (⟨5, ByteArray.empty, ByteArray.empty, 0, s14⟩ : Term)), oT a7 r4.1, oS T_Nd 4 Nd.C s3 ([{ Nd.z with kind := 1, name := (⟨#[112]⟩ : ByteArray) }, { Nd.z with kind := 1, name := (⟨#[113]⟩ : ByteArray) }, { Nd.z with kind := 3, l := 0, r := 1 }, { Nd.z with kind := 5, l := 2, r := 0 }, { Nd.z with kind := 2 }])] [bigA fTerm [(⟨6, ByteArray.empty, ByteArray.empty, 0, s24⟩ : Term)] [(⟨6, ByteArray.empty, ByteArray.empty, 0, [r18]⟩ : PTerm)], fS 2 Hyp.C SlV.nil ([]), oDTerm s30 ([(⟨5, ByteArray.empty, ByteArray.empty, 0, [r8]⟩ : PTerm)]), oDTerm s24 ([r18]), oDTerm s21 r18.sub, oDTerm s14 ([r8]), oDTerm s11 r8.sub, oEt] := S.consTm (x := (⟨6, ByteArray.empty, ByteArray.empty, 0, [r18]⟩ : PTerm)) 2
 replace S : St A N w w34 [oB b26 T_Term (Term.C (⟨6, ByteArray.empty, ByteArray.empty, 0, s24⟩ : Term)), oB b16 T_Term (Term.C (⟨5, ByteArray.empty, ByteArray.empty, 0, s14⟩ : Term)), oT a7 r4.1, oS T_Nd 4 Nd.C s3 ([{ Nd.z with kind := 1, name := (⟨#[112]⟩ : ByteArray) }, { Nd.z with kind := 1, name := (⟨#[113]⟩ : ByteArray) }, { Nd.z with kind := 3, l := 0, r := 1 }, { Nd.z with kind := 5, l := 2, r := 0 }, { Nd.z with kind := 2 }])] [oDTerm s36 ([(⟨6, ByteArray.empty, ByteArray.empty, 0, [r18]⟩ : PTerm)]), bigA fTerm [(⟨6, ByteArray.empty, ByteArray.empty, 0, s24⟩ : Term)] [(⟨6, ByteArray.empty, ByteArray.empty, 0, [r18]⟩ : PTerm)], fS 2 Hyp.C SlV.nil ([]), oDTerm s30 ([(⟨5, ByteArray.empty, ByteArray.empty, 0, [r8]⟩ : PTerm)]), oDTerm s24 ([r18]), oDTerm s21 r18.sub, oDTerm s14 ([r8]), oDTerm s11 r8.sub, oEt] := S.frzTm 0 0
 replace S : St A N w w34 [oB b26 T_Term (Term.C (⟨6, ByteArray.empty, ByteArray.empty, 0, s24⟩ : Term)), oB b16 T_Term (Term.C (⟨5, ByteArray.empty, ByteArray.empty, 0, s14⟩ : Term)), oT a7 r4.1, oS T_Nd 4 Nd.C s3 ([{ Nd.z with kind := 1, name := (⟨#[112]⟩ : ByteArray) }, { Nd.z with kind := 1, name := (⟨#[113]⟩ : ByteArray) }, { Nd.z with kind := 3, l := 0, r := 1 }, { Nd.z with kind := 5, l := 2, r := 0 }, { Nd.z with kind := 2 }])] [oDTerm s36 ([(⟨6, ByteArray.empty, ByteArray.empty, 0, [r18]⟩ : PTerm)]), fS 2 Hyp.C SlV.nil ([]), oDTerm s30 ([(⟨5, ByteArray.empty, ByteArray.empty, 0, [r8]⟩ : PTerm)]), oDTerm s24 ([r18]), oDTerm s21 r18.sub, oDTerm s14 ([r8]), oDTerm s11 r8.sub, oEt] := S.zs [0, 2, 3, 4, 5, 6, 7, 8]
 refine wd (Does.to (v' := .agg (Term.C (⟨2, (⟨#[120]⟩ : ByteArray), ByteArray.empty, 0, s36⟩ : Term)).toArray) (does_buildv (vs := [(0, .int .i64 2), (1, .string (⟨#[120]⟩ : ByteArray)), (4, s36.v)]) bu_Term (consP rfl (consP rfl (consP rfl rfl))) (Bld.one rfl rfl (by rw [Term.len]; decide) (Term.set_kind _ _) (Bld.one rfl rfl (by rw [Term.len]; decide) (Term.set_name _ _) (Bld.one rfl (SlV.one _ _ rfl) (by rw [Term.len]; decide) (Term.set_sub _ _) Bld.nil)))) rfl) ?_
 replace S : St A N w w34 [oB b26 T_Term (Term.C (⟨6, ByteArray.empty, ByteArray.empty, 0, s24⟩ : Term)), oB b16 T_Term (Term.C (⟨5, ByteArray.empty, ByteArray.empty, 0, s14⟩ : Term)), oT a7 r4.1, oS T_Nd 4 Nd.C s3 ([{ Nd.z with kind := 1, name := (⟨#[112]⟩ : ByteArray) }, { Nd.z with kind := 1, name := (⟨#[113]⟩ : ByteArray) }, { Nd.z with kind := 3, l := 0, r := 1 }, { Nd.z with kind := 5, l := 2, r := 0 }, { Nd.z with kind := 2 }])] [fS 2 Hyp.C SlV.nil ([]), oDTerm s36 ([(⟨6, ByteArray.empty, ByteArray.empty, 0, [r18]⟩ : PTerm)]), fS 2 Hyp.C SlV.nil ([]), oDTerm s30 ([(⟨5, ByteArray.empty, ByteArray.empty, 0, [r8]⟩ : PTerm)]), oDTerm s24 ([r18]), oDTerm s21 r18.sub, oDTerm s14 ([r8]), oDTerm s11 r8.sub, oEt] := S.nilZ 2 Hyp.C
 obtain ⟨r37, er37, H⟩ := bind_ex H
 obtain ⟨B39, MB39, SB39, back⟩ := S.calln 0 ((.o 2 rfl (.z 0 rfl (.z 1 rfl (.z 8 rfl .nil)))))
 refine wl_call (does_callg ca_types_Where (cons2 rfl (cons2 SlV.nil_eq (cons2 rfl (cons2 rfl rfl))))) (by decide) (types_Where_st (a2 := (⟨2, (⟨#[120]⟩ : ByteArray), ByteArray.empty, 0, [(⟨6, ByteArray.empty, ByteArray.empty, 0, [r18]⟩ : PTerm)]⟩ : PTerm)) SB39 er37) ?_
 rintro _ w38 ⟨s40, rfl, S2⟩
 replace S : St A N w w38 [oS T_int 1 IC s40 r37.1, oB b26 T_Term (Term.C (⟨6, ByteArray.empty, ByteArray.empty, 0, s24⟩ : Term)), oB b16 T_Term (Term.C (⟨5, ByteArray.empty, ByteArray.empty, 0, s14⟩ : Term)), oT a7 r4.1, oS T_Nd 4 Nd.C s3 ([{ Nd.z with kind := 1, name := (⟨#[112]⟩ : ByteArray) }, { Nd.z with kind := 1, name := (⟨#[113]⟩ : ByteArray) }, { Nd.z with kind := 3, l := 0, r := 1 }, { Nd.z with kind := 5, l := 2, r := 0 }, { Nd.z with kind := 2 }])] [fS 2 Hyp.C SlV.nil ([]), oDTerm s36 ([(⟨6, ByteArray.empty, ByteArray.empty, 0, [r18]⟩ : PTerm)]), fS 2 Hyp.C SlV.nil ([]), oDTerm s30 ([(⟨5, ByteArray.empty, ByteArray.empty, 0, [r8]⟩ : PTerm)]), oDTerm s24 ([r18]), oDTerm s21 r18.sub, oDTerm s14 ([r8]), oDTerm s11 r8.sub, oEt] := back _ _ _ _ S2 rfl
 clear back S2 SB39
 refine wd (does_mv_t rfl) ?_
 refine wd (does_extract rfl rfl) ?_
 refine wd (does_extract rfl rfl) ?_
 refine wd (does_as_l rfl) ?_
 refine wd (does_as_i rfl) ?_
 refine wl_nil ?_
 refine wc_seq (wc_region ?_)
 refine wd (does_mv_p rfl) ?_
 refine wd (does_build bu_Hyp (Bld.one rfl rfl (by rw [Hyp.len]; decide) (Hyp.set_name _ _) (Bld.one rfl rfl (by rw [Hyp.len]; decide) (Hyp.set_form _ _) Bld.nil))) ?_
 refine wl_lits (C := Hyp.C) (l := [(⟨(⟨#[120]⟩ : ByteArray), 2⟩ : Hyp)]) (vs := [.agg (Hyp.C (⟨(⟨#[120]⟩ : ByteArray), 2⟩ : Hyp)).toArray]) sl_L_api_Hyp el_Hyp.zero rfl rfl (fun a _ => Hyp.len a) (by decide) rfl (by decide) fun b42 w41 s43 hBw41 hw41 => ?_
 replace S : St A N w w41 [oS T_Hyp 2 Hyp.C s43 ([(⟨(⟨#[120]⟩ : ByteArray), 2⟩ : Hyp)]), oS T_int 1 IC s40 r37.1, oB b26 T_Term (Term.C (⟨6, ByteArray.empty, ByteArray.empty, 0, s24⟩ : Term)), oB b16 T_Term (Term.C (⟨5, ByteArray.empty, ByteArray.empty, 0, s14⟩ : Term)), oT a7 r4.1, oS T_Nd 4 Nd.C s3 ([{ Nd.z with kind := 1, name := (⟨#[112]⟩ : ByteArray) }, { Nd.z with kind := 1, name := (⟨#[113]⟩ : ByteArray) }, { Nd.z with kind := 3, l := 0, r := 1 }, { Nd.z with kind := 5, l := 2, r := 0 }, { Nd.z with kind := 2 }])] [fS 2 Hyp.C SlV.nil ([]), oDTerm s36 ([(⟨6, ByteArray.empty, ByteArray.empty, 0, [r18]⟩ : PTerm)]), fS 2 Hyp.C SlV.nil ([]), oDTerm s30 ([(⟨5, ByteArray.empty, ByteArray.empty, 0, [r8]⟩ : PTerm)]), oDTerm s24 ([r18]), oDTerm s21 r18.sub, oDTerm s14 ([r8]), oDTerm s11 r8.sub, oEt] := S.lit hBw41 hw41 (by simp)
 refine wd (does_load_agg ag_Term rfl ((S.blk 2).all _ (Term.len _)) (Term.len _)) ?_
 obtain ⟨r44, er44, H⟩ := bind_ex H
 obtain ⟨B46, MB46, SB46, back⟩ := S.calln 0 ((.o 4 rfl (.s 0 rfl (.z 4 rfl (.z 8 rfl .nil)))))
 refine wl_call (does_call ca_types_Infer) (by decide) (types_Infer_st (a2 := (⟨6, ByteArray.empty, ByteArray.empty, 0, [r18]⟩ : PTerm)) SB46 er44) ?_
 rintro _ w45 ⟨rfl, S2⟩
 replace S : St A N w w45 [oS T_Hyp 2 Hyp.C s43 ([(⟨(⟨#[120]⟩ : ByteArray), 2⟩ : Hyp)]), oS T_int 1 IC s40 r37.1, oB b26 T_Term (Term.C (⟨6, ByteArray.empty, ByteArray.empty, 0, s24⟩ : Term)), oB b16 T_Term (Term.C (⟨5, ByteArray.empty, ByteArray.empty, 0, s14⟩ : Term)), oT a7 r4.1, oS T_Nd 4 Nd.C s3 ([{ Nd.z with kind := 1, name := (⟨#[112]⟩ : ByteArray) }, { Nd.z with kind := 1, name := (⟨#[113]⟩ : ByteArray) }, { Nd.z with kind := 3, l := 0, r := 1 }, { Nd.z with kind := 5, l := 2, r := 0 }, { Nd.z with kind := 2 }])] [fS 2 Hyp.C SlV.nil ([]), oDTerm s36 ([(⟨6, ByteArray.empty, ByteArray.empty, 0, [r18]⟩ : PTerm)]), fS 2 Hyp.C SlV.nil ([]), oDTerm s30 ([(⟨5, ByteArray.empty, ByteArray.empty, 0, [r8]⟩ : PTerm)]), oDTerm s24 ([r18]), oDTerm s21 r18.sub, oDTerm s14 ([r8]), oDTerm s11 r8.sub, oEt] := back _ _ _ _ S2 rfl
 clear back S2 SB46
 refine wd (does_mv_t rfl) ?_
 refine wd (does_extract rfl rfl) ?_
 refine wd (does_extract rfl rfl) ?_
 refine wd (does_as_i rfl) ?_
 refine wd (does_as_i rfl) ?_
 refine wl_nil ?_
 refine wc_seq (wc_region ?_)
 refine wd (does_mv_p rfl) ?_
 obtain ⟨r47, er47, H⟩ := bind_ex H
 obtain ⟨B49, MB49, SB49, back⟩ := S.sub [] [] [oS T_Hyp 2 Hyp.C s43 ([(⟨(⟨#[120]⟩ : ByteArray), 2⟩ : Hyp)]), oS T_int 1 IC s40 r37.1, oB b26 T_Term (Term.C (⟨6, ByteArray.empty, ByteArray.empty, 0, s24⟩ : Term)), oB b16 T_Term (Term.C (⟨5, ByteArray.empty, ByteArray.empty, 0, s14⟩ : Term)), oT a7 r4.1, oS T_Nd 4 Nd.C s3 ([{ Nd.z with kind := 1, name := (⟨#[112]⟩ : ByteArray) }, { Nd.z with kind := 1, name := (⟨#[113]⟩ : ByteArray) }, { Nd.z with kind := 3, l := 0, r := 1 }, { Nd.z with kind := 5, l := 2, r := 0 }, { Nd.z with kind := 2 }])]
 refine wl_call (does_call ca_law13_v) (by decide) (law13_v_st SB49 er47) ?_
 rintro _ w48 ⟨s50, rfl, S2⟩
 replace S : St A N w w48 [oS T_Hyp 2 Hyp.C s43 ([(⟨(⟨#[120]⟩ : ByteArray), 2⟩ : Hyp)]), oS T_int 1 IC s40 r37.1, oB b26 T_Term (Term.C (⟨6, ByteArray.empty, ByteArray.empty, 0, s24⟩ : Term)), oB b16 T_Term (Term.C (⟨5, ByteArray.empty, ByteArray.empty, 0, s14⟩ : Term)), oT a7 r4.1, oS T_Nd 4 Nd.C s3 ([{ Nd.z with kind := 1, name := (⟨#[112]⟩ : ByteArray) }, { Nd.z with kind := 1, name := (⟨#[113]⟩ : ByteArray) }, { Nd.z with kind := 3, l := 0, r := 1 }, { Nd.z with kind := 5, l := 2, r := 0 }, { Nd.z with kind := 2 }])] [oDTerm s50 r47.sub, fS 2 Hyp.C SlV.nil ([]), oDTerm s36 ([(⟨6, ByteArray.empty, ByteArray.empty, 0, [r18]⟩ : PTerm)]), fS 2 Hyp.C SlV.nil ([]), oDTerm s30 ([(⟨5, ByteArray.empty, ByteArray.empty, 0, [r8]⟩ : PTerm)]), oDTerm s24 ([r18]), oDTerm s21 r18.sub, oDTerm s14 ([r8]), oDTerm s11 r8.sub, oEt] := back _ _ _ _ _ S2 rfl rfl
 clear back S2 SB49
 replace S : St A N w w48 [oS T_Hyp 2 Hyp.C s43 ([(⟨(⟨#[120]⟩ : ByteArray), 2⟩ : Hyp)]), oS T_int 1 IC s40 r37.1, oB b26 T_Term (Term.C (⟨6, ByteArray.empty, ByteArray.empty, 0, s24⟩ : Term)), oB b16 T_Term (Term.C (⟨5, ByteArray.empty, ByteArray.empty, 0, s14⟩ : Term)), oT a7 r4.1, oS T_Nd 4 Nd.C s3 ([{ Nd.z with kind := 1, name := (⟨#[112]⟩ : ByteArray) }, { Nd.z with kind := 1, name := (⟨#[113]⟩ : ByteArray) }, { Nd.z with kind := 3, l := 0, r := 1 }, { Nd.z with kind := 5, l := 2, r := 0 }, { Nd.z with kind := 2 }])] [fS 2 Hyp.C SlV.nil ([]), oDTerm s50 r47.sub, fS 2 Hyp.C SlV.nil ([]), oDTerm s36 ([(⟨6, ByteArray.empty, ByteArray.empty, 0, [r18]⟩ : PTerm)]), fS 2 Hyp.C SlV.nil ([]), oDTerm s30 ([(⟨5, ByteArray.empty, ByteArray.empty, 0, [r8]⟩ : PTerm)]), oDTerm s24 ([r18]), oDTerm s21 r18.sub, oDTerm s14 ([r8]), oDTerm s11 r8.sub, oEt] := S.nilZ 2 Hyp.C
 obtain ⟨r51, er51, H⟩ := bind_ex H
 obtain ⟨B53, MB53, SB53, back⟩ := S.calln 0 ((.o 4 rfl (.z 0 rfl (.z 1 rfl (.z 10 rfl .nil)))))
 refine wl_call (does_callg ca_types_Infer (cons2 rfl (cons2 SlV.nil_eq (cons2 rfl rfl)))) (by decide) (types_Infer_st (a2 := r47) SB53 er51) ?_
 rintro _ w52 ⟨rfl, S2⟩
 replace S : St A N w w52 [oS T_Hyp 2 Hyp.C s43 ([(⟨(⟨#[120]⟩ : ByteArray), 2⟩ : Hyp)]), oS T_int 1 IC s40 r37.1, oB b26 T_Term (Term.C (⟨6, ByteArray.empty, ByteArray.empty, 0, s24⟩ : Term)), oB b16 T_Term (Term.C (⟨5, ByteArray.empty, ByteArray.empty, 0, s14⟩ : Term)), oT a7 r4.1, oS T_Nd 4 Nd.C s3 ([{ Nd.z with kind := 1, name := (⟨#[112]⟩ : ByteArray) }, { Nd.z with kind := 1, name := (⟨#[113]⟩ : ByteArray) }, { Nd.z with kind := 3, l := 0, r := 1 }, { Nd.z with kind := 5, l := 2, r := 0 }, { Nd.z with kind := 2 }])] [fS 2 Hyp.C SlV.nil ([]), oDTerm s50 r47.sub, fS 2 Hyp.C SlV.nil ([]), oDTerm s36 ([(⟨6, ByteArray.empty, ByteArray.empty, 0, [r18]⟩ : PTerm)]), fS 2 Hyp.C SlV.nil ([]), oDTerm s30 ([(⟨5, ByteArray.empty, ByteArray.empty, 0, [r8]⟩ : PTerm)]), oDTerm s24 ([r18]), oDTerm s21 r18.sub, oDTerm s14 ([r8]), oDTerm s11 r8.sub, oEt] := back _ _ _ _ S2 rfl
 clear back S2 SB53
 refine wd (does_mv_t rfl) ?_
 refine wd (does_extract rfl rfl) ?_
 refine wd (does_extract rfl rfl) ?_
 refine wd (does_as_i rfl) ?_
 refine wd (does_as_i rfl) ?_
 refine wl_nil ?_
 refine wc_seq (wc_region ?_)
 refine wd (does_mv_p rfl) ?_
 obtain ⟨r54, er54, H⟩ := bind_ex H
 obtain ⟨B56, MB56, SB56, back⟩ := S.sub [] [] [oS T_Hyp 2 Hyp.C s43 ([(⟨(⟨#[120]⟩ : ByteArray), 2⟩ : Hyp)]), oS T_int 1 IC s40 r37.1, oB b26 T_Term (Term.C (⟨6, ByteArray.empty, ByteArray.empty, 0, s24⟩ : Term)), oB b16 T_Term (Term.C (⟨5, ByteArray.empty, ByteArray.empty, 0, s14⟩ : Term)), oT a7 r4.1, oS T_Nd 4 Nd.C s3 ([{ Nd.z with kind := 1, name := (⟨#[112]⟩ : ByteArray) }, { Nd.z with kind := 1, name := (⟨#[113]⟩ : ByteArray) }, { Nd.z with kind := 3, l := 0, r := 1 }, { Nd.z with kind := 5, l := 2, r := 0 }, { Nd.z with kind := 2 }])]
 refine wl_call (does_call ca_law13_v) (by decide) (law13_v_st SB56 er54) ?_
 rintro _ w55 ⟨s57, rfl, S2⟩
 replace S : St A N w w55 [oS T_Hyp 2 Hyp.C s43 ([(⟨(⟨#[120]⟩ : ByteArray), 2⟩ : Hyp)]), oS T_int 1 IC s40 r37.1, oB b26 T_Term (Term.C (⟨6, ByteArray.empty, ByteArray.empty, 0, s24⟩ : Term)), oB b16 T_Term (Term.C (⟨5, ByteArray.empty, ByteArray.empty, 0, s14⟩ : Term)), oT a7 r4.1, oS T_Nd 4 Nd.C s3 ([{ Nd.z with kind := 1, name := (⟨#[112]⟩ : ByteArray) }, { Nd.z with kind := 1, name := (⟨#[113]⟩ : ByteArray) }, { Nd.z with kind := 3, l := 0, r := 1 }, { Nd.z with kind := 5, l := 2, r := 0 }, { Nd.z with kind := 2 }])] [oDTerm s57 r54.sub, fS 2 Hyp.C SlV.nil ([]), oDTerm s50 r47.sub, fS 2 Hyp.C SlV.nil ([]), oDTerm s36 ([(⟨6, ByteArray.empty, ByteArray.empty, 0, [r18]⟩ : PTerm)]), fS 2 Hyp.C SlV.nil ([]), oDTerm s30 ([(⟨5, ByteArray.empty, ByteArray.empty, 0, [r8]⟩ : PTerm)]), oDTerm s24 ([r18]), oDTerm s21 r18.sub, oDTerm s14 ([r8]), oDTerm s11 r8.sub, oEt] := back _ _ _ _ _ S2 rfl rfl
 clear back S2 SB56
 refine wl_lits (C := Term.C) (l := [(⟨r54.kind, r54.name, r54.other, r54.form, s57⟩ : Term)]) (vs := [.agg (Term.C (⟨r54.kind, r54.name, r54.other, r54.form, s57⟩ : Term)).toArray]) sl_L_api_Term el_Term.zero rfl rfl (fun a _ => Term.len a) (by decide) rfl (by decide) fun b59 w58 s60 hBw58 hw58 => ?_
 replace S : St A N w w58 [oS T_Term 5 Term.C s60 ([(⟨r54.kind, r54.name, r54.other, r54.form, s57⟩ : Term)]), oS T_Hyp 2 Hyp.C s43 ([(⟨(⟨#[120]⟩ : ByteArray), 2⟩ : Hyp)]), oS T_int 1 IC s40 r37.1, oB b26 T_Term (Term.C (⟨6, ByteArray.empty, ByteArray.empty, 0, s24⟩ : Term)), oB b16 T_Term (Term.C (⟨5, ByteArray.empty, ByteArray.empty, 0, s14⟩ : Term)), oT a7 r4.1, oS T_Nd 4 Nd.C s3 ([{ Nd.z with kind := 1, name := (⟨#[112]⟩ : ByteArray) }, { Nd.z with kind := 1, name := (⟨#[113]⟩ : ByteArray) }, { Nd.z with kind := 3, l := 0, r := 1 }, { Nd.z with kind := 5, l := 2, r := 0 }, { Nd.z with kind := 2 }])] [oDTerm s57 r54.sub, fS 2 Hyp.C SlV.nil ([]), oDTerm s50 r47.sub, fS 2 Hyp.C SlV.nil ([]), oDTerm s36 ([(⟨6, ByteArray.empty, ByteArray.empty, 0, [r18]⟩ : PTerm)]), fS 2 Hyp.C SlV.nil ([]), oDTerm s30 ([(⟨5, ByteArray.empty, ByteArray.empty, 0, [r8]⟩ : PTerm)]), oDTerm s24 ([r18]), oDTerm s21 r18.sub, oDTerm s14 ([r8]), oDTerm s11 r8.sub, oEt] := S.lit hBw58 hw58 (by simp)
 replace S : St A N w w58 [oS T_Term 5 Term.C s60 ([(⟨r54.kind, r54.name, r54.other, r54.form, s57⟩ : Term)]), oS T_Hyp 2 Hyp.C s43 ([(⟨(⟨#[120]⟩ : ByteArray), 2⟩ : Hyp)]), oS T_int 1 IC s40 r37.1, oB b26 T_Term (Term.C (⟨6, ByteArray.empty, ByteArray.empty, 0, s24⟩ : Term)), oB b16 T_Term (Term.C (⟨5, ByteArray.empty, ByteArray.empty, 0, s14⟩ : Term)), oT a7 r4.1, oS T_Nd 4 Nd.C s3 ([{ Nd.z with kind := 1, name := (⟨#[112]⟩ : ByteArray) }, { Nd.z with kind := 1, name := (⟨#[113]⟩ : ByteArray) }, { Nd.z with kind := 3, l := 0, r := 1 }, { Nd.z with kind := 5, l := 2, r := 0 }, { Nd.z with kind := 2 }])] [bigA fTerm ([] : List Term) ([] : List PTerm), oDTerm s57 r54.sub, fS 2 Hyp.C SlV.nil ([]), oDTerm s50 r47.sub, fS 2 Hyp.C SlV.nil ([]), oDTerm s36 ([(⟨6, ByteArray.empty, ByteArray.empty, 0, [r18]⟩ : PTerm)]), fS 2 Hyp.C SlV.nil ([]), oDTerm s30 ([(⟨5, ByteArray.empty, ByteArray.empty, 0, [r8]⟩ : PTerm)]), oDTerm s24 ([r18]), oDTerm s21 r18.sub, oDTerm s14 ([r8]), oDTerm s11 r8.sub, oEt] := S.bigTm
 replace S : St A N w w58 [oS T_Term 5 Term.C s60 ([(⟨r54.kind, r54.name, r54.other, r54.form, s57⟩ : Term)]), oS T_Hyp 2 Hyp.C s43 ([(⟨(⟨#[120]⟩ : ByteArray), 2⟩ : Hyp)]), oS T_int 1 IC s40 r37.1, oB b26 T_Term (Term.C (⟨6, ByteArray.empty, ByteArray.empty, 0, s24⟩ : Term)), oB b16 T_Term (Term.C (⟨5, ByteArray.empty, ByteArray.empty, 0, s14⟩ : Term)), oT a7 r4.1, oS T_Nd 4 Nd.C s3 ([{ Nd.z with kind := 1, name := (⟨#[112]⟩ : ByteArray) }, { Nd.z with kind := 1, name := (⟨#[113]⟩ : ByteArray) }, { Nd.z with kind := 3, l := 0, r := 1 }, { Nd.z with kind := 5, l := 2, r := 0 }, { Nd.z with kind := 2 }])] [bigA fTerm [(⟨r54.kind, r54.name, r54.other, r54.form, s57⟩ : Term)] [r54], oDTerm s57 r54.sub, fS 2 Hyp.C SlV.nil ([]), oDTerm s50 r47.sub, fS 2 Hyp.C SlV.nil ([]), oDTerm s36 ([(⟨6, ByteArray.empty, ByteArray.empty, 0, [r18]⟩ : PTerm)]), fS 2 Hyp.C SlV.nil ([]), oDTerm s30 ([(⟨5, ByteArray.empty, ByteArray.empty, 0, [r8]⟩ : PTerm)]), oDTerm s24 ([r18]), oDTerm s21 r18.sub, oDTerm s14 ([r8]), oDTerm s11 r8.sub, oEt] := S.consTm (x := r54) 0
 replace S : St A N w w58 [oS T_Hyp 2 Hyp.C s43 ([(⟨(⟨#[120]⟩ : ByteArray), 2⟩ : Hyp)]), oS T_int 1 IC s40 r37.1, oB b26 T_Term (Term.C (⟨6, ByteArray.empty, ByteArray.empty, 0, s24⟩ : Term)), oB b16 T_Term (Term.C (⟨5, ByteArray.empty, ByteArray.empty, 0, s14⟩ : Term)), oT a7 r4.1, oS T_Nd 4 Nd.C s3 ([{ Nd.z with kind := 1, name := (⟨#[112]⟩ : ByteArray) }, { Nd.z with kind := 1, name := (⟨#[113]⟩ : ByteArray) }, { Nd.z with kind := 3, l := 0, r := 1 }, { Nd.z with kind := 5, l := 2, r := 0 }, { Nd.z with kind := 2 }])] [oDTerm s60 ([r54]), bigA fTerm [(⟨r54.kind, r54.name, r54.other, r54.form, s57⟩ : Term)] [r54], oDTerm s57 r54.sub, fS 2 Hyp.C SlV.nil ([]), oDTerm s50 r47.sub, fS 2 Hyp.C SlV.nil ([]), oDTerm s36 ([(⟨6, ByteArray.empty, ByteArray.empty, 0, [r18]⟩ : PTerm)]), fS 2 Hyp.C SlV.nil ([]), oDTerm s30 ([(⟨5, ByteArray.empty, ByteArray.empty, 0, [r8]⟩ : PTerm)]), oDTerm s24 ([r18]), oDTerm s21 r18.sub, oDTerm s14 ([r8]), oDTerm s11 r8.sub, oEt] := S.frzTm 0 0
 replace S : St A N w w58 [oS T_Hyp 2 Hyp.C s43 ([(⟨(⟨#[120]⟩ : ByteArray), 2⟩ : Hyp)]), oS T_int 1 IC s40 r37.1, oB b26 T_Term (Term.C (⟨6, ByteArray.empty, ByteArray.empty, 0, s24⟩ : Term)), oB b16 T_Term (Term.C (⟨5, ByteArray.empty, ByteArray.empty, 0, s14⟩ : Term)), oT a7 r4.1, oS T_Nd 4 Nd.C s3 ([{ Nd.z with kind := 1, name := (⟨#[112]⟩ : ByteArray) }, { Nd.z with kind := 1, name := (⟨#[113]⟩ : ByteArray) }, { Nd.z with kind := 3, l := 0, r := 1 }, { Nd.z with kind := 5, l := 2, r := 0 }, { Nd.z with kind := 2 }])] [oDTerm s60 ([r54]), oDTerm s57 r54.sub, fS 2 Hyp.C SlV.nil ([]), oDTerm s50 r47.sub, fS 2 Hyp.C SlV.nil ([]), oDTerm s36 ([(⟨6, ByteArray.empty, ByteArray.empty, 0, [r18]⟩ : PTerm)]), fS 2 Hyp.C SlV.nil ([]), oDTerm s30 ([(⟨5, ByteArray.empty, ByteArray.empty, 0, [r8]⟩ : PTerm)]), oDTerm s24 ([r18]), oDTerm s21 r18.sub, oDTerm s14 ([r8]), oDTerm s11 r8.sub, oEt] := S.zs [0, 2, 3, 4, 5, 6, 7, 8, 9, 10, 11, 12, 13]
 refine wd (Does.to (v' := .agg (Term.C (⟨2, (⟨#[120]⟩ : ByteArray), ByteArray.empty, 0, s60⟩ : Term)).toArray) (does_buildv (vs := [(0, .int .i64 2), (1, .string (⟨#[120]⟩ : ByteArray)), (4, s60.v)]) bu_Term (consP rfl (consP rfl (consP rfl rfl))) (Bld.one rfl rfl (by rw [Term.len]; decide) (Term.set_kind _ _) (Bld.one rfl rfl (by rw [Term.len]; decide) (Term.set_name _ _) (Bld.one rfl (SlV.one _ _ rfl) (by rw [Term.len]; decide) (Term.set_sub _ _) Bld.nil)))) rfl) ?_
 replace S : St A N w w58 [oS T_Hyp 2 Hyp.C s43 ([(⟨(⟨#[120]⟩ : ByteArray), 2⟩ : Hyp)]), oS T_int 1 IC s40 r37.1, oB b26 T_Term (Term.C (⟨6, ByteArray.empty, ByteArray.empty, 0, s24⟩ : Term)), oB b16 T_Term (Term.C (⟨5, ByteArray.empty, ByteArray.empty, 0, s14⟩ : Term)), oT a7 r4.1, oS T_Nd 4 Nd.C s3 ([{ Nd.z with kind := 1, name := (⟨#[112]⟩ : ByteArray) }, { Nd.z with kind := 1, name := (⟨#[113]⟩ : ByteArray) }, { Nd.z with kind := 3, l := 0, r := 1 }, { Nd.z with kind := 5, l := 2, r := 0 }, { Nd.z with kind := 2 }])] [fS 2 Hyp.C SlV.nil ([]), oDTerm s60 ([r54]), oDTerm s57 r54.sub, fS 2 Hyp.C SlV.nil ([]), oDTerm s50 r47.sub, fS 2 Hyp.C SlV.nil ([]), oDTerm s36 ([(⟨6, ByteArray.empty, ByteArray.empty, 0, [r18]⟩ : PTerm)]), fS 2 Hyp.C SlV.nil ([]), oDTerm s30 ([(⟨5, ByteArray.empty, ByteArray.empty, 0, [r8]⟩ : PTerm)]), oDTerm s24 ([r18]), oDTerm s21 r18.sub, oDTerm s14 ([r8]), oDTerm s11 r8.sub, oEt] := S.nilZ 2 Hyp.C
 obtain ⟨r61, er61, H⟩ := bind_ex H
 obtain ⟨B63, MB63, SB63, back⟩ := S.calln 0 ((.o 4 rfl (.z 0 rfl (.z 1 rfl (.z 13 rfl .nil)))))
 refine wl_call (does_callg ca_types_Infer (cons2 rfl (cons2 SlV.nil_eq (cons2 rfl rfl)))) (by decide) (types_Infer_st (a2 := (⟨2, (⟨#[120]⟩ : ByteArray), ByteArray.empty, 0, [r54]⟩ : PTerm)) SB63 er61) ?_
 rintro _ w62 ⟨rfl, S2⟩
 replace S : St A N w w62 [oS T_Hyp 2 Hyp.C s43 ([(⟨(⟨#[120]⟩ : ByteArray), 2⟩ : Hyp)]), oS T_int 1 IC s40 r37.1, oB b26 T_Term (Term.C (⟨6, ByteArray.empty, ByteArray.empty, 0, s24⟩ : Term)), oB b16 T_Term (Term.C (⟨5, ByteArray.empty, ByteArray.empty, 0, s14⟩ : Term)), oT a7 r4.1, oS T_Nd 4 Nd.C s3 ([{ Nd.z with kind := 1, name := (⟨#[112]⟩ : ByteArray) }, { Nd.z with kind := 1, name := (⟨#[113]⟩ : ByteArray) }, { Nd.z with kind := 3, l := 0, r := 1 }, { Nd.z with kind := 5, l := 2, r := 0 }, { Nd.z with kind := 2 }])] [fS 2 Hyp.C SlV.nil ([]), oDTerm s60 ([r54]), oDTerm s57 r54.sub, fS 2 Hyp.C SlV.nil ([]), oDTerm s50 r47.sub, fS 2 Hyp.C SlV.nil ([]), oDTerm s36 ([(⟨6, ByteArray.empty, ByteArray.empty, 0, [r18]⟩ : PTerm)]), fS 2 Hyp.C SlV.nil ([]), oDTerm s30 ([(⟨5, ByteArray.empty, ByteArray.empty, 0, [r8]⟩ : PTerm)]), oDTerm s24 ([r18]), oDTerm s21 r18.sub, oDTerm s14 ([r8]), oDTerm s11 r8.sub, oEt] := back _ _ _ _ S2 rfl
 clear back S2 SB63
 refine wd (does_mv_t rfl) ?_
 refine wd (does_extract rfl rfl) ?_
 refine wd (does_extract rfl rfl) ?_
 refine wd (does_as_i rfl) ?_
 refine wd (does_as_i rfl) ?_
 refine wl_nil ?_
 refine wc_seq (wc_region ?_)
 refine wd (does_mv_p rfl) ?_
 refine wd (does_build bu_Hyp (Bld.one rfl rfl (by rw [Hyp.len]; decide) (Hyp.set_name _ _) (Bld.one rfl rfl (by rw [Hyp.len]; decide) (Hyp.set_form _ _) Bld.nil))) ?_
 refine wl_lits (C := Hyp.C) (l := [(⟨(⟨#[120]⟩ : ByteArray), 4⟩ : Hyp)]) (vs := [.agg (Hyp.C (⟨(⟨#[120]⟩ : ByteArray), 4⟩ : Hyp)).toArray]) sl_L_api_Hyp el_Hyp.zero rfl rfl (fun a _ => Hyp.len a) (by decide) rfl (by decide) fun b65 w64 s66 hBw64 hw64 => ?_
 replace S : St A N w w64 [oS T_Hyp 2 Hyp.C s66 ([(⟨(⟨#[120]⟩ : ByteArray), 4⟩ : Hyp)]), oS T_Hyp 2 Hyp.C s43 ([(⟨(⟨#[120]⟩ : ByteArray), 2⟩ : Hyp)]), oS T_int 1 IC s40 r37.1, oB b26 T_Term (Term.C (⟨6, ByteArray.empty, ByteArray.empty, 0, s24⟩ : Term)), oB b16 T_Term (Term.C (⟨5, ByteArray.empty, ByteArray.empty, 0, s14⟩ : Term)), oT a7 r4.1, oS T_Nd 4 Nd.C s3 ([{ Nd.z with kind := 1, name := (⟨#[112]⟩ : ByteArray) }, { Nd.z with kind := 1, name := (⟨#[113]⟩ : ByteArray) }, { Nd.z with kind := 3, l := 0, r := 1 }, { Nd.z with kind := 5, l := 2, r := 0 }, { Nd.z with kind := 2 }])] [fS 2 Hyp.C SlV.nil ([]), oDTerm s60 ([r54]), oDTerm s57 r54.sub, fS 2 Hyp.C SlV.nil ([]), oDTerm s50 r47.sub, fS 2 Hyp.C SlV.nil ([]), oDTerm s36 ([(⟨6, ByteArray.empty, ByteArray.empty, 0, [r18]⟩ : PTerm)]), fS 2 Hyp.C SlV.nil ([]), oDTerm s30 ([(⟨5, ByteArray.empty, ByteArray.empty, 0, [r8]⟩ : PTerm)]), oDTerm s24 ([r18]), oDTerm s21 r18.sub, oDTerm s14 ([r8]), oDTerm s11 r8.sub, oEt] := S.lit hBw64 hw64 (by simp)
 obtain ⟨r67, er67, H⟩ := bind_ex H
 obtain ⟨B69, MB69, SB69, back⟩ := S.sub [] [] [oS T_Hyp 2 Hyp.C s66 ([(⟨(⟨#[120]⟩ : ByteArray), 4⟩ : Hyp)]), oS T_Hyp 2 Hyp.C s43 ([(⟨(⟨#[120]⟩ : ByteArray), 2⟩ : Hyp)]), oS T_int 1 IC s40 r37.1, oB b26 T_Term (Term.C (⟨6, ByteArray.empty, ByteArray.empty, 0, s24⟩ : Term)), oB b16 T_Term (Term.C (⟨5, ByteArray.empty, ByteArray.empty, 0, s14⟩ : Term)), oT a7 r4.1, oS T_Nd 4 Nd.C s3 ([{ Nd.z with kind := 1, name := (⟨#[112]⟩ : ByteArray) }, { Nd.z with kind := 1, name := (⟨#[113]⟩ : ByteArray) }, { Nd.z with kind := 3, l := 0, r := 1 }, { Nd.z with kind := 5, l := 2, r := 0 }, { Nd.z with kind := 2 }])]
 refine wl_call (does_call ca_law13_v) (by decide) (law13_v_st SB69 er67) ?_
 rintro _ w68 ⟨s70, rfl, S2⟩
 replace S : St A N w w68 [oS T_Hyp 2 Hyp.C s66 ([(⟨(⟨#[120]⟩ : ByteArray), 4⟩ : Hyp)]), oS T_Hyp 2 Hyp.C s43 ([(⟨(⟨#[120]⟩ : ByteArray), 2⟩ : Hyp)]), oS T_int 1 IC s40 r37.1, oB b26 T_Term (Term.C (⟨6, ByteArray.empty, ByteArray.empty, 0, s24⟩ : Term)), oB b16 T_Term (Term.C (⟨5, ByteArray.empty, ByteArray.empty, 0, s14⟩ : Term)), oT a7 r4.1, oS T_Nd 4 Nd.C s3 ([{ Nd.z with kind := 1, name := (⟨#[112]⟩ : ByteArray) }, { Nd.z with kind := 1, name := (⟨#[113]⟩ : ByteArray) }, { Nd.z with kind := 3, l := 0, r := 1 }, { Nd.z with kind := 5, l := 2, r := 0 }, { Nd.z with kind := 2 }])] [oDTerm s70 r67.sub, fS 2 Hyp.C SlV.nil ([]), oDTerm s60 ([r54]), oDTerm s57 r54.sub, fS 2 Hyp.C SlV.nil ([]), oDTerm s50 r47.sub, fS 2 Hyp.C SlV.nil ([]), oDTerm s36 ([(⟨6, ByteArray.empty, ByteArray.empty, 0, [r18]⟩ : PTerm)]), fS 2 Hyp.C SlV.nil ([]), oDTerm s30 ([(⟨5, ByteArray.empty, ByteArray.empty, 0, [r8]⟩ : PTerm)]), oDTerm s24 ([r18]), oDTerm s21 r18.sub, oDTerm s14 ([r8]), oDTerm s11 r8.sub, oEt] := back _ _ _ _ _ S2 rfl rfl
 clear back S2 SB69
 refine wl_lits (C := Term.C) (l := [(⟨r67.kind, r67.name, r67.other, r67.form, s70⟩ : Term)]) (vs := [.agg (Term.C (⟨r67.kind, r67.name, r67.other, r67.form, s70⟩ : Term)).toArray]) sl_L_api_Term el_Term.zero rfl rfl (fun a _ => Term.len a) (by decide) rfl (by decide) fun b72 w71 s73 hBw71 hw71 => ?_
 replace S : St A N w w71 [oS T_Term 5 Term.C s73 ([(⟨r67.kind, r67.name, r67.other, r67.form, s70⟩ : Term)]), oS T_Hyp 2 Hyp.C s66 ([(⟨(⟨#[120]⟩ : ByteArray), 4⟩ : Hyp)]), oS T_Hyp 2 Hyp.C s43 ([(⟨(⟨#[120]⟩ : ByteArray), 2⟩ : Hyp)]), oS T_int 1 IC s40 r37.1, oB b26 T_Term (Term.C (⟨6, ByteArray.empty, ByteArray.empty, 0, s24⟩ : Term)), oB b16 T_Term (Term.C (⟨5, ByteArray.empty, ByteArray.empty, 0, s14⟩ : Term)), oT a7 r4.1, oS T_Nd 4 Nd.C s3 ([{ Nd.z with kind := 1, name := (⟨#[112]⟩ : ByteArray) }, { Nd.z with kind := 1, name := (⟨#[113]⟩ : ByteArray) }, { Nd.z with kind := 3, l := 0, r := 1 }, { Nd.z with kind := 5, l := 2, r := 0 }, { Nd.z with kind := 2 }])] [oDTerm s70 r67.sub, fS 2 Hyp.C SlV.nil ([]), oDTerm s60 ([r54]), oDTerm s57 r54.sub, fS 2 Hyp.C SlV.nil ([]), oDTerm s50 r47.sub, fS 2 Hyp.C SlV.nil ([]), oDTerm s36 ([(⟨6, ByteArray.empty, ByteArray.empty, 0, [r18]⟩ : PTerm)]), fS 2 Hyp.C SlV.nil ([]), oDTerm s30 ([(⟨5, ByteArray.empty, ByteArray.empty, 0, [r8]⟩ : PTerm)]), oDTerm s24 ([r18]), oDTerm s21 r18.sub, oDTerm s14 ([r8]), oDTerm s11 r8.sub, oEt] := S.lit hBw71 hw71 (by simp)
 replace S : St A N w w71 [oS T_Term 5 Term.C s73 ([(⟨r67.kind, r67.name, r67.other, r67.form, s70⟩ : Term)]), oS T_Hyp 2 Hyp.C s66 ([(⟨(⟨#[120]⟩ : ByteArray), 4⟩ : Hyp)]), oS T_Hyp 2 Hyp.C s43 ([(⟨(⟨#[120]⟩ : ByteArray), 2⟩ : Hyp)]), oS T_int 1 IC s40 r37.1, oB b26 T_Term (Term.C (⟨6, ByteArray.empty, ByteArray.empty, 0, s24⟩ : Term)), oB b16 T_Term (Term.C (⟨5, ByteArray.empty, ByteArray.empty, 0, s14⟩ : Term)), oT a7 r4.1, oS T_Nd 4 Nd.C s3 ([{ Nd.z with kind := 1, name := (⟨#[112]⟩ : ByteArray) }, { Nd.z with kind := 1, name := (⟨#[113]⟩ : ByteArray) }, { Nd.z with kind := 3, l := 0, r := 1 }, { Nd.z with kind := 5, l := 2, r := 0 }, { Nd.z with kind := 2 }])] [bigA fTerm ([] : List Term) ([] : List PTerm), oDTerm s70 r67.sub, fS 2 Hyp.C SlV.nil ([]), oDTerm s60 ([r54]), oDTerm s57 r54.sub, fS 2 Hyp.C SlV.nil ([]), oDTerm s50 r47.sub, fS 2 Hyp.C SlV.nil ([]), oDTerm s36 ([(⟨6, ByteArray.empty, ByteArray.empty, 0, [r18]⟩ : PTerm)]), fS 2 Hyp.C SlV.nil ([]), oDTerm s30 ([(⟨5, ByteArray.empty, ByteArray.empty, 0, [r8]⟩ : PTerm)]), oDTerm s24 ([r18]), oDTerm s21 r18.sub, oDTerm s14 ([r8]), oDTerm s11 r8.sub, oEt] := S.bigTm
 replace S : St A N w w71 [oS T_Term 5 Term.C s73 ([(⟨r67.kind, r67.name, r67.other, r67.form, s70⟩ : Term)]), oS T_Hyp 2 Hyp.C s66 ([(⟨(⟨#[120]⟩ : ByteArray), 4⟩ : Hyp)]), oS T_Hyp 2 Hyp.C s43 ([(⟨(⟨#[120]⟩ : ByteArray), 2⟩ : Hyp)]), oS T_int 1 IC s40 r37.1, oB b26 T_Term (Term.C (⟨6, ByteArray.empty, ByteArray.empty, 0, s24⟩ : Term)), oB b16 T_Term (Term.C (⟨5, ByteArray.empty, ByteArray.empty, 0, s14⟩ : Term)), oT a7 r4.1, oS T_Nd 4 Nd.C s3 ([{ Nd.z with kind := 1, name := (⟨#[112]⟩ : ByteArray) }, { Nd.z with kind := 1, name := (⟨#[113]⟩ : ByteArray) }, { Nd.z with kind := 3, l := 0, r := 1 }, { Nd.z with kind := 5, l := 2, r := 0 }, { Nd.z with kind := 2 }])] [bigA fTerm [(⟨r67.kind, r67.name, r67.other, r67.form, s70⟩ : Term)] [r67], oDTerm s70 r67.sub, fS 2 Hyp.C SlV.nil ([]), oDTerm s60 ([r54]), oDTerm s57 r54.sub, fS 2 Hyp.C SlV.nil ([]), oDTerm s50 r47.sub, fS 2 Hyp.C SlV.nil ([]), oDTerm s36 ([(⟨6, ByteArray.empty, ByteArray.empty, 0, [r18]⟩ : PTerm)]), fS 2 Hyp.C SlV.nil ([]), oDTerm s30 ([(⟨5, ByteArray.empty, ByteArray.empty, 0, [r8]⟩ : PTerm)]), oDTerm s24 ([r18]), oDTerm s21 r18.sub, oDTerm s14 ([r8]), oDTerm s11 r8.sub, oEt] := S.consTm (x := r67) 0
 replace S : St A N w w71 [oS T_Hyp 2 Hyp.C s66 ([(⟨(⟨#[120]⟩ : ByteArray), 4⟩ : Hyp)]), oS T_Hyp 2 Hyp.C s43 ([(⟨(⟨#[120]⟩ : ByteArray), 2⟩ : Hyp)]), oS T_int 1 IC s40 r37.1, oB b26 T_Term (Term.C (⟨6, ByteArray.empty, ByteArray.empty, 0, s24⟩ : Term)), oB b16 T_Term (Term.C (⟨5, ByteArray.empty, ByteArray.empty, 0, s14⟩ : Term)), oT a7 r4.1, oS T_Nd 4 Nd.C s3 ([{ Nd.z with kind := 1, name := (⟨#[112]⟩ : ByteArray) }, { Nd.z with kind := 1, name := (⟨#[113]⟩ : ByteArray) }, { Nd.z with kind := 3, l := 0, r := 1 }, { Nd.z with kind := 5, l := 2, r := 0 }, { Nd.z with kind := 2 }])] [oDTerm s73 ([r67]), bigA fTerm [(⟨r67.kind, r67.name, r67.other, r67.form, s70⟩ : Term)] [r67], oDTerm s70 r67.sub, fS 2 Hyp.C SlV.nil ([]), oDTerm s60 ([r54]), oDTerm s57 r54.sub, fS 2 Hyp.C SlV.nil ([]), oDTerm s50 r47.sub, fS 2 Hyp.C SlV.nil ([]), oDTerm s36 ([(⟨6, ByteArray.empty, ByteArray.empty, 0, [r18]⟩ : PTerm)]), fS 2 Hyp.C SlV.nil ([]), oDTerm s30 ([(⟨5, ByteArray.empty, ByteArray.empty, 0, [r8]⟩ : PTerm)]), oDTerm s24 ([r18]), oDTerm s21 r18.sub, oDTerm s14 ([r8]), oDTerm s11 r8.sub, oEt] := S.frzTm 0 0
 replace S : St A N w w71 [oS T_Hyp 2 Hyp.C s66 ([(⟨(⟨#[120]⟩ : ByteArray), 4⟩ : Hyp)]), oS T_Hyp 2 Hyp.C s43 ([(⟨(⟨#[120]⟩ : ByteArray), 2⟩ : Hyp)]), oS T_int 1 IC s40 r37.1, oB b26 T_Term (Term.C (⟨6, ByteArray.empty, ByteArray.empty, 0, s24⟩ : Term)), oB b16 T_Term (Term.C (⟨5, ByteArray.empty, ByteArray.empty, 0, s14⟩ : Term)), oT a7 r4.1, oS T_Nd 4 Nd.C s3 ([{ Nd.z with kind := 1, name := (⟨#[112]⟩ : ByteArray) }, { Nd.z with kind := 1, name := (⟨#[113]⟩ : ByteArray) }, { Nd.z with kind := 3, l := 0, r := 1 }, { Nd.z with kind := 5, l := 2, r := 0 }, { Nd.z with kind := 2 }])] [oDTerm s73 ([r67]), oDTerm s70 r67.sub, fS 2 Hyp.C SlV.nil ([]), oDTerm s60 ([r54]), oDTerm s57 r54.sub, fS 2 Hyp.C SlV.nil ([]), oDTerm s50 r47.sub, fS 2 Hyp.C SlV.nil ([]), oDTerm s36 ([(⟨6, ByteArray.empty, ByteArray.empty, 0, [r18]⟩ : PTerm)]), fS 2 Hyp.C SlV.nil ([]), oDTerm s30 ([(⟨5, ByteArray.empty, ByteArray.empty, 0, [r8]⟩ : PTerm)]), oDTerm s24 ([r18]), oDTerm s21 r18.sub, oDTerm s14 ([r8]), oDTerm s11 r8.sub, oEt] := S.zs [0, 2, 3, 4, 5, 6, 7, 8, 9, 10, 11, 12, 13, 14, 15, 16]
 refine wd (Does.to (v' := .agg (Term.C (⟨10, ByteArray.empty, ByteArray.empty, 0, s73⟩ : Term)).toArray) (does_buildv (vs := [(0, .int .i64 10), (4, s73.v)]) bu_Term (consP rfl (consP rfl rfl)) (Bld.one rfl rfl (by rw [Term.len]; decide) (Term.set_kind _ _) (Bld.one rfl (SlV.one _ _ rfl) (by rw [Term.len]; decide) (Term.set_sub _ _) Bld.nil))) rfl) ?_
 obtain ⟨r74, er74, H⟩ := bind_ex H
 obtain ⟨B76, MB76, SB76, back⟩ := S.calln 0 ((.o 5 rfl (.s 0 rfl (.z 0 rfl (.z 15 rfl .nil)))))
 refine wl_call (does_call ca_types_Check) (by decide) (types_Check_st (a2 := (⟨10, ByteArray.empty, ByteArray.empty, 0, [r67]⟩ : PTerm)) SB76 er74) ?_
 rintro _ w75 ⟨rfl, S2⟩
 replace S : St A N w w75 [oS T_Hyp 2 Hyp.C s66 ([(⟨(⟨#[120]⟩ : ByteArray), 4⟩ : Hyp)]), oS T_Hyp 2 Hyp.C s43 ([(⟨(⟨#[120]⟩ : ByteArray), 2⟩ : Hyp)]), oS T_int 1 IC s40 r37.1, oB b26 T_Term (Term.C (⟨6, ByteArray.empty, ByteArray.empty, 0, s24⟩ : Term)), oB b16 T_Term (Term.C (⟨5, ByteArray.empty, ByteArray.empty, 0, s14⟩ : Term)), oT a7 r4.1, oS T_Nd 4 Nd.C s3 ([{ Nd.z with kind := 1, name := (⟨#[112]⟩ : ByteArray) }, { Nd.z with kind := 1, name := (⟨#[113]⟩ : ByteArray) }, { Nd.z with kind := 3, l := 0, r := 1 }, { Nd.z with kind := 5, l := 2, r := 0 }, { Nd.z with kind := 2 }])] [oDTerm s73 ([r67]), oDTerm s70 r67.sub, fS 2 Hyp.C SlV.nil ([]), oDTerm s60 ([r54]), oDTerm s57 r54.sub, fS 2 Hyp.C SlV.nil ([]), oDTerm s50 r47.sub, fS 2 Hyp.C SlV.nil ([]), oDTerm s36 ([(⟨6, ByteArray.empty, ByteArray.empty, 0, [r18]⟩ : PTerm)]), fS 2 Hyp.C SlV.nil ([]), oDTerm s30 ([(⟨5, ByteArray.empty, ByteArray.empty, 0, [r8]⟩ : PTerm)]), oDTerm s24 ([r18]), oDTerm s21 r18.sub, oDTerm s14 ([r8]), oDTerm s11 r8.sub, oEt] := back _ _ _ _ S2 rfl
 clear back S2 SB76
 refine wd (does_as_i rfl) ?_
 refine wl_nil ?_
 refine wc_seq (wc_region ?_)
 refine wd (does_mv_i rfl) ?_
 refine wd (does_eq rfl rfl) ?_
 refine wd (does_mv_b rfl) ?_
 refine wl_guard (j := 2) (pol := true) rfl rfl rfl (by decide) (fun hg => does_mv_i rfl) (by decide) ?_
 refine wl_guard (j := 2) (pol := true) rfl rfl rfl (by decide) (fun hg => does_eq (gv_yes hg) rfl) (by decide) ?_
 refine wd (does_and rfl (fun hp => (gv_yes (and_1 hp)))) ?_
 refine wd (does_mv_b rfl) ?_
 refine wl_guard (j := 6) (pol := true) rfl rfl rfl (by decide) (fun hg => does_mv_i rfl) (by decide) ?_
 refine wl_guard (j := 6) (pol := true) rfl rfl rfl (by decide) (fun hg => does_eq (gv_yes hg) rfl) (by decide) ?_
 refine wd (does_and rfl (fun hp => (gv_yes (and_1 hp)))) ?_
 refine wd (does_mv_b rfl) ?_
 refine wl_guard (j := 10) (pol := true) rfl rfl rfl (by decide) (fun hg => does_mv_l rfl) (by decide) ?_
 obtain ⟨hg77, H⟩ := chk_ex H
 refine wl_gon (j := 10) (pol := true) rfl rfl rfl (by decide) (by simpa using hg77) ?_
 refine wl_lits (C := IC) (l := [0]) (vs := [.int .i64 0]) sl_L_int el_int.zero rfl rfl (fun _ _ => rfl) (by decide) rfl (by decide) fun b79 w78 s80 hBw78 hw78 => ?_
 replace S : St A N w w78 [oS T_int 1 IC s80 ([0]), oS T_Hyp 2 Hyp.C s66 ([(⟨(⟨#[120]⟩ : ByteArray), 4⟩ : Hyp)]), oS T_Hyp 2 Hyp.C s43 ([(⟨(⟨#[120]⟩ : ByteArray), 2⟩ : Hyp)]), oS T_int 1 IC s40 r37.1, oB b26 T_Term (Term.C (⟨6, ByteArray.empty, ByteArray.empty, 0, s24⟩ : Term)), oB b16 T_Term (Term.C (⟨5, ByteArray.empty, ByteArray.empty, 0, s14⟩ : Term)), oT a7 r4.1, oS T_Nd 4 Nd.C s3 ([{ Nd.z with kind := 1, name := (⟨#[112]⟩ : ByteArray) }, { Nd.z with kind := 1, name := (⟨#[113]⟩ : ByteArray) }, { Nd.z with kind := 3, l := 0, r := 1 }, { Nd.z with kind := 5, l := 2, r := 0 }, { Nd.z with kind := 2 }])] [oDTerm s73 ([r67]), oDTerm s70 r67.sub, fS 2 Hyp.C SlV.nil ([]), oDTerm s60 ([r54]), oDTerm s57 r54.sub, fS 2 Hyp.C SlV.nil ([]), oDTerm s50 r47.sub, fS 2 Hyp.C SlV.nil ([]), oDTerm s36 ([(⟨6, ByteArray.empty, ByteArray.empty, 0, [r18]⟩ : PTerm)]), fS 2 Hyp.C SlV.nil ([]), oDTerm s30 ([(⟨5, ByteArray.empty, ByteArray.empty, 0, [r8]⟩ : PTerm)]), oDTerm s24 ([r18]), oDTerm s21 r18.sub, oDTerm s14 ([r8]), oDTerm s11 r8.sub, oEt] := S.lit hBw78 hw78 (by simp)
 obtain ⟨r81, er81, H⟩ := bind_ex H
 refine wl_gcall (j := 10) (pol := true) rfl rfl rfl (by decide) (fun hg => does_callg ca_ref03_Ints (cons2 (gv_yes hg) (cons2 rfl rfl))) (by decide) (fun hg => (have ⟨M, SS⟩ := S.lend ((.s 3 rfl (.s 0 rfl .nil))); quiet (ref03_Ints_st SS (if_t (by simpa using hg) er81)) (fun v w' h => ⟨h.1, _, _, h.2⟩))) fun w82 hw82 => ?_
 replace S := S.ext hw82
 refine wd (does_and rfl (fun hp => (gv_yes (and_1 hp)))) ?_
 refine wd (does_mv_b rfl) ?_
 refine wl_guard (j := 15) (pol := true) rfl rfl rfl (by decide) (fun hg => does_mv_i rfl) (by decide) ?_
 refine wl_guard (j := 15) (pol := true) rfl rfl rfl (by decide) (fun hg => does_eq (gv_yes hg) rfl) (by decide) ?_
 refine wd (does_and rfl (fun hp => (gv_yes (and_1 hp)))) ?_
 refine wd (does_mv_b rfl) ?_
 refine wl_guard (j := 19) (pol := true) rfl rfl rfl (by decide) (fun hg => does_mv_i rfl) (by decide) ?_
 refine wl_guard (j := 19) (pol := true) rfl rfl rfl (by decide) (fun hg => does_eq (gv_yes hg) rfl) (by decide) ?_
 refine wd (does_and rfl (fun hp => (gv_yes (and_1 hp)))) ?_
 refine wd (does_mv_b rfl) ?_
 refine wl_guard (j := 23) (pol := true) rfl rfl rfl (by decide) (fun hg => does_mv_i rfl) (by decide) ?_
 refine wl_guard (j := 23) (pol := true) rfl rfl rfl (by decide) (fun hg => does_eq (gv_yes hg) rfl) (by decide) ?_
 refine wd (does_and rfl (fun hp => (gv_yes (and_1 hp)))) ?_
 refine wd (does_mv_b rfl) ?_
 refine wl_guard (j := 27) (pol := true) rfl rfl rfl (by decide) (fun hg => does_mv_i rfl) (by decide) ?_
 refine wl_guard (j := 27) (pol := true) rfl rfl rfl (by decide) (fun hg => does_eq (gv_yes hg) rfl) (by decide) ?_
 refine wd (does_and rfl (fun hp => (gv_yes (and_1 hp)))) ?_
 refine wd (does_mv_b rfl) ?_
 refine wl_guard (j := 31) (pol := true) rfl rfl rfl (by decide) (fun hg => does_mv_i rfl) (by decide) ?_
 refine wl_guard (j := 31) (pol := true) rfl rfl rfl (by decide) (fun hg => does_eq (gv_yes hg) rfl) (by decide) ?_
 refine wd (does_and rfl (fun hp => (gv_yes (and_1 hp)))) ?_
 refine wd (does_as_b rfl) ?_
 refine wl_nil ?_
 refine wc_ret ?_
 refine ⟨_, (rets1 (retOne_tmp rfl)), ?_⟩
 replace S : St A N w w82 [] [] := S.arr [] []
 obtain rfl := Option.some.inj H
 exact ⟨rfl, S⟩
end Go.Proofs.YtjebgcoknpcadaaDoor
end
section
namespace Go.Proofs.YtjebgcoknpcadaaDoor
open Gw Go.RowKit
set_option maxHeartbeats 4000000
set_option maxRecDepth 20000
theorem ref13_C_refuse_st {A : Nat → Prop} {N : Oth} {w : World} {a0 : PC} {a_0 : Option Addr} {g_0_1 : Option Addr} {a1 : Int} (S : St A N w w [oC a_0 g_0_1 a0] []) {r : PC × Int × Int} (H : ref13_C_refuse.f a0 a1 = some r) :
  Calls PP F_ref13_C_refuse #[.pointer a_0, .int .i64 a1] w fun e w' => ∃ v, e = .returned v ∧ (v = .tuple #[.int .i64 r.2.1, .int .i64 r.2.2] ∧ St A N w w' [oC a_0 g_0_1 r.1] []) := by
 unfold ref13_C_refuse.f at H
 refine calls_of_wc (n := 16) fn_ref13_C_refuse rfl rfl (by simp) ?_
 refine wc_seq (wc_region ?_)
 refine wd (does_as_i rfl) ?_
 refine wd (does_as_i rfl) ?_
 refine wl_nil ?_
 refine wc_seq (wc_region ?_)
 refine wd (does_mv_p rfl) ?_
 refine wl_lits (C := IC) (l := ([] : List Int)) (vs := []) sl_L_int el_int.zero rfl rfl (fun _ _ => rfl) (by decide) rfl (by decide) fun b2 w1 s3 hBw1 hw1 => ?_
 replace S : St A N w w1 [oS T_int 1 IC s3 ([] : List Int), oC a_0 g_0_1 a0] [] := S.lit hBw1 hw1 (by simp)
 refine wd (does_mv_p rfl) ?_
 obtain ⟨p4, s6, s7, s8, hp5, S⟩ := S.open_oC 1
 replace S : St A N w w1 [oB p4 T_RC (RC.C (⟨g_0_1, s6, s7, s8⟩ : RC)), oR g_0_1 a0.t, oS T_Hyp 2 Hyp.C s6 a0.hyps, oS T_int 1 IC s7 a0.way, oS T_int 1 IC s8 a0.wrong, oS T_int 1 IC s3 ([] : List Int)] [] := S
 refine wd (does_nilCheck (congrArg Value.pointer hp5)) ?_
 refine wd (does_fieldAddr fl_RC_way rfl (o' := 2) rfl) ?_
 refine wd (does_load on_L_int rfl ((S.blk 0).cell (RC.get_way _))) ?_
 obtain ⟨ha11, H⟩ := chk_ex H
 have ha11 := of_decide_eq_true ha11
 refine wl_appendm (C := IC) sl_L_int el_int rfl rfl (S.sl 5) (S.rdO 3) (fun a v hv => by rw [List.mem_singleton.1 hv]; rfl) ha11 (by omega) (by decide) fun s10 w9 O hw9 gw9 => ?_
 replace S : St A N w w9 [oS T_int 1 IC s10 (([] : List Int) ++ a0.way), oB p4 T_RC (RC.C (⟨g_0_1, s6, s7, s8⟩ : RC)), oR g_0_1 a0.t, oS T_Hyp 2 Hyp.C s6 a0.hyps, oS T_int 1 IC s7 a0.way, oS T_int 1 IC s8 a0.wrong] [] := S.push 5 O (by first | (simp; done) | (simp; omega)) hw9 gw9
 clear O
 refine wd (does_nilCheck (congrArg Value.pointer hp5)) ?_
 refine wd (does_fieldAddr fl_RC_wrong rfl (o' := 3) rfl) ?_
 refine wl_store on_L_int rfl rfl (S.blk 1) (by rw [RC.len]; decide) (SlV.one _ _ rfl) (RC.set_wrong _ _) fun w12 B hw12 zw12 => ?_
 replace S : St A N w w12 [oB p4 T_RC (RC.C (⟨g_0_1, s6, s7, s10⟩ : RC)), oS T_int 1 IC s10 (([] : List Int) ++ a0.way), oR g_0_1 a0.t, oS T_Hyp 2 Hyp.C s6 a0.hyps, oS T_int 1 IC s7 a0.way, oS T_int 1 IC s8 a0.wrong] [] := S.store 1 B hw12
 clear B
 replace S := S.front 1
 replace S := S.front 4
 replace S := S.front 4
 replace S := S.front 4
 replace S := S.front 4
 replace S : St A N w w12 [oC a_0 g_0_1 (⟨a0.t, a0.hyps, a0.way, ([] : List Int) ++ a0.way⟩ : PC), oS T_int 1 IC s8 a0.wrong] [] := S.shut_oC hp5
 refine wl_nil ?_
 refine wc_seq (wc_region ?_)
 refine wd (does_mv_i rfl) ?_
 refine wd (does_as_i rfl) ?_
 refine wd (does_as_i rfl) ?_
 refine wl_nil ?_
 refine wc_ret ?_
 refine ⟨_, (rets2 (retOne_tmp rfl) (retOne_tmp rfl)), ?_⟩
 replace S : St A N w w12 [oC a_0 g_0_1 (⟨a0.t, a0.hyps, a0.way, ([] : List Int) ++ a0.way⟩ : PC)] [] := S.arr [0] []
 obtain rfl := Option.some.inj H
 exact ⟨rfl, S⟩
theorem ref13_C_node_st {A : Nat → Prop} {N : Oth} {w : World} {a0 : PC} {a_0 : Option Addr} {g_0_1 : Option Addr} {a1 : Int} (S : St A N w w [] [oC a_0 g_0_1 a0]) {r : Nd} (H : ref13_C_node.f a0 a1 = some r) :
  Calls PP F_ref13_C_node #[.pointer a_0, .int .i64 a1] w fun e w' => ∃ v, e = .returned v ∧ (v = .agg (Nd.C r).toArray ∧ St A N w w' [] []) := by
 unfold ref13_C_node.f at H
 refine calls_of_wc (n := 15) fn_ref13_C_node rfl rfl (by simp) ?_
 refine wc_seq (wc_region ?_)
 refine wl_alloc ze_Nd (by decide) fun b2 w1 hw1 => ?_
 replace S : St A N w w1 [oB b2 T_Nd (Nd.C Nd.z)] [oC a_0 g_0_1 a0] := S.new hw1
 refine wl_nil ?_
 refine wc_seq (wc_region ?_)
 refine wd (does_mv_p rfl) ?_
 obtain ⟨p3, s5, s6, s7, hp4, S⟩ := S.see_oC 0
 replace S : St A N w w1 [oB b2 T_Nd (Nd.C Nd.z)] [oB p3 T_RC (RC.C (⟨g_0_1, s5, s6, s7⟩ : RC)), oR g_0_1 a0.t, fS 2 Hyp.C s5 a0.hyps, fS 1 IC s6 a0.way, fS 1 IC s7 a0.wrong, oC a_0 g_0_1 a0] := S
 refine wd (does_nilCheck (congrArg Value.pointer hp4)) ?_
 refine wd (does_fieldAddr fl_RC_t rfl (o' := 0) rfl) ?_
 refine wd (does_load on_Put rfl ((S.blkZ 0).cell (RC.get_t _))) ?_
 obtain ⟨ht8, H⟩ := chk_ex H
 obtain ⟨p9, s10, hp11, S⟩ := S.seeR 1 ht8
 replace S : St A N w w1 [oB b2 T_Nd (Nd.C Nd.z)] [oB p9 T_RTab (RTab.C ⟨s10⟩), fS 4 Nd.C s10 (a0.t.getD []), oB p3 T_RC (RC.C (⟨g_0_1, s5, s6, s7⟩ : RC)), oR g_0_1 a0.t, fS 2 Hyp.C s5 a0.hyps, fS 1 IC s6 a0.way, fS 1 IC s7 a0.wrong, oC a_0 g_0_1 a0] := S
 refine wd (does_nilCheck (congrArg Value.pointer hp11)) ?_
 refine wd (does_fieldAddr fl_RTab_n rfl (o' := 0) rfl) ?_
 refine wd (does_load on_L_api_Node rfl ((S.blkZ 0).cell (RTab.get_n _))) ?_
 refine wd (does_mv_i rfl) ?_
 obtain ⟨hi12, H⟩ := chk_ex H
 refine wd (does_indexR sl_L_api_Node rfl rfl (S.rd 1) (inb_ex hi12).1 (inb_ex hi12).2) ?_
 refine wd (does_load_agg ag_Nd rfl ((S.rd 1).at (at_some Nd.z (inb_ex hi12))) (Nd.len _)) ?_
 refine wl_store_agg ag_Nd rfl rfl (S.blk 0) (Nd.len _) (by rw [Nd.len]; decide) (Nd.one _) (store_all (Nd.len _)) fun w13 B hw13 zw13 => ?_
 replace S : St A N w w13 [oB b2 T_Nd (Nd.C (at_ Nd.z (a0.t.getD []) a1))] [oB p9 T_RTab (RTab.C ⟨s10⟩), fS 4 Nd.C s10 (a0.t.getD []), oB p3 T_RC (RC.C (⟨g_0_1, s5, s6, s7⟩ : RC)), oR g_0_1 a0.t, fS 2 Hyp.C s5 a0.hyps, fS 1 IC s6 a0.way, fS 1 IC s7 a0.wrong, oC a_0 g_0_1 a0] := S.store 0 B hw13
 clear B
 replace S : St A N w w13 [oB b2 T_Nd (Nd.C (at_ Nd.z (a0.t.getD []) a1))] [oB p3 T_RC (RC.C (⟨g_0_1, s5, s6, s7⟩ : RC)), oR g_0_1 a0.t, fS 2 Hyp.C s5 a0.hyps, fS 1 IC s6 a0.way, fS 1 IC s7 a0.wrong, oC a_0 g_0_1 a0] := S.zs [2, 3, 4, 5, 6, 7]
 replace S : St A N w w13 [oB b2 T_Nd (Nd.C (at_ Nd.z (a0.t.getD []) a1))] [oC a_0 g_0_1 a0] := S.zs [5]
 refine wl_nil ?_
 refine wc_ret ?_
 refine ⟨_, (rets1 (retOne_agg ag_Nd rfl ((S.blk 0).all _ (Nd.len _)) (Nd.len _))), ?_⟩
 replace S : St A N w w13 [] [] := S.arr [] []
 obtain rfl := Option.some.inj H
 exact ⟨rfl, S⟩
theorem ref13_C_told_gst {rec_ref13_C_Told : PC → PTerm → Option (PC × Int × Int)} (hrec_ref13_C_Told : ∀ {A : Nat → Prop} {N : Oth} {w : World} {a0 : PC} {a_0 : Option Addr} {g_0_1 : Option Addr} {a1 : PTerm} {s_1 : SlV} (S : St A N w w [oC a_0 g_0_1 a0] [oDTerm s_1 a1.sub]) {r : PC × Int × Int} (H : rec_ref13_C_Told a0 a1 = some r), Calls PP F_ref13_C_Told #[.pointer a_0, .agg (Term.C (⟨a1.kind, a1.name, a1.other, a1.form, s_1⟩ : Term)).toArray] w fun e w' => ∃ v, e = .returned v ∧ (v = .tuple #[.int .i64 r.2.1, .int .i64 r.2.2] ∧ St A N w w' [oC a_0 g_0_1 r.1] [])) {A : Nat → Prop} {N : Oth} {w : World} {a0 : PC} {a_0 : Option Addr} {g_0_1 : Option Addr} {a1 : PTerm} {s_1 : SlV} {a2 : Int} {a3 : List Hyp} {s_3 : SlV} (S : St A N w w [oC a_0 g_0_1 a0] [oDTerm s_1 a1.sub, fS 2 Hyp.C s_3 a3]) {r : PC × Int × Int} (H : ref13_C_told.g rec_ref13_C_Told a0 a1 a2 a3 = some r) :
  Calls PP F_ref13_C_told #[.pointer a_0, .agg (Term.C (⟨a1.kind, a1.name, a1.other, a1.form, s_1⟩ : Term)).toArray, .int .i64 a2, s_3.v] w fun e w' => ∃ v, e = .returned v ∧ (v = .tuple #[.int .i64 r.2.1, .int .i64 r.2.2] ∧ St A N w w' [oC a_0 g_0_1 r.1] []) := by
 unfold ref13_C_told.g at H
 refine calls_of_wc (n := 74) fn_ref13_C_told rfl rfl (by simp) ?_
 refine wc_seq (wc_region ?_)
 refine wl_box_agg rfl (by decide) fun b2 w1 hw1 => ?_
 replace S : St A N w w1 [oB b2 T_Term (Term.C (⟨a1.kind, a1.name, a1.other, a1.form, s_1⟩ : Term)), oC a_0 g_0_1 a0] [oDTerm s_1 a1.sub, fS 2 Hyp.C s_3 a3] := S.new hw1
 refine wd (does_as_i rfl) ?_
 refine wd (does_as_i rfl) ?_
 refine wl_nil ?_
 refine wc_seq (wc_region ?_)
 refine wd (does_mv_p rfl) ?_
 obtain ⟨p3, s5, s6, s7, hp4, S⟩ := S.open_oC 1
 replace S : St A N w w1 [oB p3 T_RC (RC.C (⟨g_0_1, s5, s6, s7⟩ : RC)), oR g_0_1 a0.t, oS T_Hyp 2 Hyp.C s5 a0.hyps, oS T_int 1 IC s6 a0.way, oS T_int 1 IC s7 a0.wrong, oB b2 T_Term (Term.C (⟨a1.kind, a1.name, a1.other, a1.form, s_1⟩ : Term))] [oDTerm s_1 a1.sub, fS 2 Hyp.C s_3 a3] := S
 refine wd (does_nilCheck (congrArg Value.pointer hp4)) ?_
 refine wd (does_fieldAddr fl_RC_hyps rfl (o' := 1) rfl) ?_
 refine wd (does_load on_L_api_Hyp rfl ((S.blk 0).cell (RC.get_hyps _))) ?_
 refine wd (does_lenR sl_L_api_Hyp rfl (S.rdO 2)) ?_
 refine wd (does_as_i rfl) ?_
 replace S := S.front 4
 replace S := S.front 4
 replace S := S.front 4
 replace S := S.front 4
 replace S := S.front 4
 replace S : St A N w w1 [oC a_0 g_0_1 a0, oB b2 T_Term (Term.C (⟨a1.kind, a1.name, a1.other, a1.form, s_1⟩ : Term))] [oDTerm s_1 a1.sub, fS 2 Hyp.C s_3 a3] := S.shut_oC hp4
 refine wl_nil ?_
 refine wc_seq (wc_region ?_)
 refine wd (does_mv_p rfl) ?_
 refine wd (does_mv_p rfl) ?_
 obtain ⟨p8, s10, s11, s12, hp9, S⟩ := S.open_oC 0
 replace S : St A N w w1 [oB p8 T_RC (RC.C (⟨g_0_1, s10, s11, s12⟩ : RC)), oR g_0_1 a0.t, oS T_Hyp 2 Hyp.C s10 a0.hyps, oS T_int 1 IC s11 a0.way, oS T_int 1 IC s12 a0.wrong, oB b2 T_Term (Term.C (⟨a1.kind, a1.name, a1.other, a1.form, s_1⟩ : Term))] [oDTerm s_1 a1.sub, fS 2 Hyp.C s_3 a3] := S
 refine wd (does_nilCheck (congrArg Value.pointer hp9)) ?_
 refine wd (does_fieldAddr fl_RC_hyps rfl (o' := 1) rfl) ?_
 refine wd (does_load on_L_api_Hyp rfl ((S.blk 0).cell (RC.get_hyps _))) ?_
 refine wd (does_mv_l rfl) ?_
 obtain ⟨ha15, H⟩ := chk_ex H
 have ha15 := of_decide_eq_true ha15
 refine wl_appendm (C := Hyp.C) sl_L_api_Hyp el_Hyp rfl rfl (S.sl 2) (S.rd 1) Hyp.one ha15 (by omega) (by decide) fun s14 w13 O hw13 gw13 => ?_
 replace S : St A N w w13 [oS T_Hyp 2 Hyp.C s14 (a0.hyps ++ a3), oB p8 T_RC (RC.C (⟨g_0_1, s10, s11, s12⟩ : RC)), oR g_0_1 a0.t, oS T_int 1 IC s11 a0.way, oS T_int 1 IC s12 a0.wrong, oB b2 T_Term (Term.C (⟨a1.kind, a1.name, a1.other, a1.form, s_1⟩ : Term))] [oDTerm s_1 a1.sub, fS 2 Hyp.C s_3 a3] := S.push 2 O (by first | (simp; done) | (simp; omega)) hw13 gw13
 clear O
 refine wd (does_nilCheck (congrArg Value.pointer hp9)) ?_
 refine wd (does_fieldAddr fl_RC_hyps rfl (o' := 1) rfl) ?_
 refine wl_store on_L_api_Hyp rfl rfl (S.blk 1) (by rw [RC.len]; decide) (SlV.one _ _ rfl) (RC.set_hyps _ _) fun w16 B hw16 zw16 => ?_
 replace S : St A N w w16 [oB p8 T_RC (RC.C (⟨g_0_1, s14, s11, s12⟩ : RC)), oS T_Hyp 2 Hyp.C s14 (a0.hyps ++ a3), oR g_0_1 a0.t, oS T_int 1 IC s11 a0.way, oS T_int 1 IC s12 a0.wrong, oB b2 T_Term (Term.C (⟨a1.kind, a1.name, a1.other, a1.form, s_1⟩ : Term))] [oDTerm s_1 a1.sub, fS 2 Hyp.C s_3 a3] := S.store 1 B hw16
 clear B
 replace S := S.front 4
 replace S := S.front 4
 replace S := S.front 3
 replace S := S.front 4
 replace S := S.front 4
 replace S : St A N w w16 [oC a_0 g_0_1 (⟨a0.t, a0.hyps ++ a3, a0.way, a0.wrong⟩ : PC), oB b2 T_Term (Term.C (⟨a1.kind, a1.name, a1.other, a1.form, s_1⟩ : Term))] [oDTerm s_1 a1.sub, fS 2 Hyp.C s_3 a3] := S.shut_oC hp9
 refine wl_nil ?_
 refine wc_seq (wc_region ?_)
 refine wd (does_mv_p rfl) ?_
 refine wd (does_mv_p rfl) ?_
 obtain ⟨p17, s19, s20, s21, hp18, S⟩ := S.open_oC 0
 replace S : St A N w w16 [oB p17 T_RC (RC.C (⟨g_0_1, s19, s20, s21⟩ : RC)), oR g_0_1 a0.t, oS T_Hyp 2 Hyp.C s19 (a0.hyps ++ a3), oS T_int 1 IC s20 a0.way, oS T_int 1 IC s21 a0.wrong, oB b2 T_Term (Term.C (⟨a1.kind, a1.name, a1.other, a1.form, s_1⟩ : Term))] [oDTerm s_1 a1.sub, fS 2 Hyp.C s_3 a3] := S
 refine wd (does_nilCheck (congrArg Value.pointer hp18)) ?_
 refine wd (does_fieldAddr fl_RC_way rfl (o' := 2) rfl) ?_
 refine wd (does_load on_L_int rfl ((S.blk 0).cell (RC.get_way _))) ?_
 refine wd (does_mv_i rfl) ?_
 refine wl_lits (C := IC) (l := [a2]) (vs := [.int .i64 a2]) sl_L_int el_int.zero rfl rfl (fun _ _ => rfl) (by decide) rfl (by decide) fun b23 w22 s24 hBw22 hw22 => ?_
 replace S : St A N w w22 [oS T_int 1 IC s24 ([a2]), oB p17 T_RC (RC.C (⟨g_0_1, s19, s20, s21⟩ : RC)), oR g_0_1 a0.t, oS T_Hyp 2 Hyp.C s19 (a0.hyps ++ a3), oS T_int 1 IC s20 a0.way, oS T_int 1 IC s21 a0.wrong, oB b2 T_Term (Term.C (⟨a1.kind, a1.name, a1.other, a1.form, s_1⟩ : Term))] [oDTerm s_1 a1.sub, fS 2 Hyp.C s_3 a3] := S.lit hBw22 hw22 (by simp)
 obtain ⟨ha27, H⟩ := chk_ex H
 have ha27 := of_decide_eq_true ha27
 refine wl_appends (C := IC) sl_L_int el_int rfl rfl (S.sl 4) (S.rdO 0) (by simp) (fun a _ v hv => by rw [List.mem_singleton.1 hv]; rfl) ha27 (by omega) (by decide) fun s26 w25 O hw25 gw25 => ?_
 replace S : St A N w w25 [oS T_int 1 IC s26 (a0.way ++ [a2]), oS T_int 1 IC s24 ([a2]), oB p17 T_RC (RC.C (⟨g_0_1, s19, s20, s21⟩ : RC)), oR g_0_1 a0.t, oS T_Hyp 2 Hyp.C s19 (a0.hyps ++ a3), oS T_int 1 IC s21 a0.wrong, oB b2 T_Term (Term.C (⟨a1.kind, a1.name, a1.other, a1.form, s_1⟩ : Term))] [oDTerm s_1 a1.sub, fS 2 Hyp.C s_3 a3] := S.push 4 O (by first | (simp; done) | (simp; omega)) hw25 gw25
 clear O
 refine wd (does_nilCheck (congrArg Value.pointer hp18)) ?_
 refine wd (does_fieldAddr fl_RC_way rfl (o' := 2) rfl) ?_
 refine wl_store on_L_int rfl rfl (S.blk 2) (by rw [RC.len]; decide) (SlV.one _ _ rfl) (RC.set_way _ _) fun w28 B hw28 zw28 => ?_
 replace S : St A N w w28 [oB p17 T_RC (RC.C (⟨g_0_1, s19, s26, s21⟩ : RC)), oS T_int 1 IC s26 (a0.way ++ [a2]), oS T_int 1 IC s24 ([a2]), oR g_0_1 a0.t, oS T_Hyp 2 Hyp.C s19 (a0.hyps ++ a3), oS T_int 1 IC s21 a0.wrong, oB b2 T_Term (Term.C (⟨a1.kind, a1.name, a1.other, a1.form, s_1⟩ : Term))] [oDTerm s_1 a1.sub, fS 2 Hyp.C s_3 a3] := S.store 2 B hw28
 clear B
 replace S := S.front 5
 replace S := S.front 2
 replace S := S.front 5
 replace S := S.front 5
 replace S := S.front 4
 replace S : St A N w w28 [oC a_0 g_0_1 (⟨a0.t, a0.hyps ++ a3, a0.way ++ [a2], a0.wrong⟩ : PC), oS T_int 1 IC s24 ([a2]), oB b2 T_Term (Term.C (⟨a1.kind, a1.name, a1.other, a1.form, s_1⟩ : Term))] [oDTerm s_1 a1.sub, fS 2 Hyp.C s_3 a3] := S.shut_oC hp18
 refine wl_nil ?_
 refine wc_seq (wc_region ?_)
 refine wd (does_mv_p rfl) ?_
 refine wd (does_fieldAddr fl_Term_sub rfl (o' := 4) rfl) ?_
 refine wd (does_load on_L_api_Term rfl ((S.blk 2).cell (Term.get_sub _))) ?_
 refine wd (does_mv_i rfl) ?_
 obtain ⟨hi29, H⟩ := chk_ex H
 refine wd (does_indexF sl_L_api_Term rfl rfl (S.onZ 0) (inb_ex hi29).1 (inb_ex hi29).2) ?_
 obtain ⟨s30, hc31, S⟩ := S.viewTerm 0 (inb_ex hi29)
 replace S : St A N w w28 [oC a_0 g_0_1 (⟨a0.t, a0.hyps ++ a3, a0.way ++ [a2], a0.wrong⟩ : PC), oS T_int 1 IC s24 ([a2]), oB b2 T_Term (Term.C (⟨a1.kind, a1.name, a1.other, a1.form, s_1⟩ : Term))] [oDTerm s30 ((at_ PTerm.z a1.sub a2).sub), oDTerm s_1 a1.sub, fS 2 Hyp.C s_3 a3] := S
 refine wd (does_load_agg ag_Term rfl hc31 (Term.len _)) ?_
 obtain ⟨r32, er32, H⟩ := bind_ex H
 obtain ⟨B34, MB34, SB34, back⟩ := S.calln 1 ((.z 0 rfl .nil))
 refine wl_call (does_call ca_ref13_C_Told) (by decide) (hrec_ref13_C_Told (a1 := (at_ PTerm.z a1.sub a2)) SB34 er32) ?_
 rintro _ w33 ⟨rfl, S2⟩
 replace S : St A N w w33 [oC a_0 g_0_1 r32.1, oS T_int 1 IC s24 ([a2]), oB b2 T_Term (Term.C (⟨a1.kind, a1.name, a1.other, a1.form, s_1⟩ : Term))] [oDTerm s30 ((at_ PTerm.z a1.sub a2).sub), oDTerm s_1 a1.sub, fS 2 Hyp.C s_3 a3] := back _ _ _ _ S2 rfl
 clear back S2 SB34
 refine wd (does_mv_t rfl) ?_
 refine wd (does_extract rfl rfl) ?_
 refine wd (does_extract rfl rfl) ?_
 refine wd (does_as_i rfl) ?_
 refine wd (does_as_i rfl) ?_
 refine wl_nil ?_
 refine wc_seq (wc_seq (wc_region ?_))
 refine wd (does_mv_i rfl) ?_
 refine wd (does_eq rfl rfl) ?_
 refine wl_nil ?_
 refine wc_if rfl (fun hc35 => ?_) (fun hc35 => ?_)
 ·replace H := if_t hc35 H
  refine wc_seq ?_
  obtain ⟨p36, s38, s39, s40, hp37, S⟩ := S.open_oC 0
  replace S : St A N w w33 [oB p36 T_RC (RC.C (⟨g_0_1, s38, s39, s40⟩ : RC)), oR g_0_1 r32.1.t, oS T_Hyp 2 Hyp.C s38 r32.1.hyps, oS T_int 1 IC s39 r32.1.way, oS T_int 1 IC s40 r32.1.wrong, oS T_int 1 IC s24 ([a2]), oB b2 T_Term (Term.C (⟨a1.kind, a1.name, a1.other, a1.form, s_1⟩ : Term))] [oDTerm s30 ((at_ PTerm.z a1.sub a2).sub), oDTerm s_1 a1.sub, fS 2 Hyp.C s_3 a3] := S
  refine wc_quiet 12 (Ext w33) hmix (by kernel_rfl) (by kernel_rfl) (Ext.drawn _) ?_
  refine wq_does (fun v K => does_mv_p rfl) ?_
  refine wq_does (fun v K => does_mv_p rfl) ?_
  refine wq_does (fun v K => does_nilCheck (congrArg Value.pointer hp37)) ?_
  refine wq_does (fun v K => does_fieldAddr fl_RC_way rfl (o' := 2) rfl) ?_
  refine wq_does (fun v K => does_load on_L_int rfl (((S.ext K).blk 0).cell (RC.get_way _))) ?_
  refine wq_does (fun v K => does_mv_p rfl) ?_
  refine wq_does (fun v K => does_nilCheck (congrArg Value.pointer hp37)) ?_
  refine wq_does (fun v K => does_fieldAddr fl_RC_way rfl (o' := 2) rfl) ?_
  refine wq_does (fun v K => does_load on_L_int rfl (((S.ext K).blk 0).cell (RC.get_way _))) ?_
  refine wq_does (fun v K => does_lenR sl_L_int rfl ((S.ext K).rdO 3)) ?_
  refine wq_does (fun v K => does_sub rfl rfl) ?_
  obtain ⟨hs41, H⟩ := chk_ex H
  have hs41 := of_decide_eq_true hs41
  refine wq_does (fun v K => does_pre sl_L_int rfl rfl ((S.ext K).sl 3) hs41) ?_
  refine wq_nil fun w42 K => ?_
  replace S := S.ext K
  clear K
  have hlhs41 := S.lenO 3
  replace S : St A N w w42 [oS T_int 1 IC (⟨s39.p, (IntKind.i64.wrap ((r32.1.way.length : Int) - 1)).toNat, s39.c⟩ : SlV) (r32.1.way.take (IntKind.i64.wrap ((r32.1.way.length : Int) - 1)).toNat), oB p36 T_RC (RC.C (⟨g_0_1, s38, s39, s40⟩ : RC)), oR g_0_1 r32.1.t, oS T_Hyp 2 Hyp.C s38 r32.1.hyps, oS T_int 1 IC s40 r32.1.wrong, oS T_int 1 IC s24 ([a2]), oB b2 T_Term (Term.C (⟨a1.kind, a1.name, a1.other, a1.form, s_1⟩ : Term))] [oDTerm s30 ((at_ PTerm.z a1.sub a2).sub), oDTerm s_1 a1.sub, fS 2 Hyp.C s_3 a3] := S.push (s := s39) 3 (Own.preL (S.sl 3) hs41 (Own.clip (S.sl 3) hs41) (Nat.le_refl _)) (by simp only [List.length_take]; omega) (Chg.refl _ _) (fun _ hi => .inl hi)
  refine wd (does_nilCheck (congrArg Value.pointer hp37)) ?_
  refine wd (does_fieldAddr fl_RC_way rfl (o' := 2) rfl) ?_
  refine wl_store on_L_int rfl rfl (S.blk 1) (by rw [RC.len]; decide) (SlV.one _ _ rfl) (RC.set_way _ _) fun w43 B hw43 zw43 => ?_
  replace S : St A N w w43 [oB p36 T_RC (RC.C (⟨g_0_1, s38, (⟨s39.p, (IntKind.i64.wrap ((r32.1.way.length : Int) - 1)).toNat, s39.c⟩ : SlV), s40⟩ : RC)), oS T_int 1 IC (⟨s39.p, (IntKind.i64.wrap ((r32.1.way.length : Int) - 1)).toNat, s39.c⟩ : SlV) (r32.1.way.take (IntKind.i64.wrap ((r32.1.way.length : Int) - 1)).toNat), oR g_0_1 r32.1.t, oS T_Hyp 2 Hyp.C s38 r32.1.hyps, oS T_int 1 IC s40 r32.1.wrong, oS T_int 1 IC s24 ([a2]), oB b2 T_Term (Term.C (⟨a1.kind, a1.name, a1.other, a1.form, s_1⟩ : Term))] [oDTerm s30 ((at_ PTerm.z a1.sub a2).sub), oDTerm s_1 a1.sub, fS 2 Hyp.C s_3 a3] := S.store 1 B hw43
  clear B
  replace S := S.front 4
  replace S := S.front 2
  replace S := S.front 4
  replace S := S.front 4
  replace S := S.front 4
  replace S : St A N w w43 [oC a_0 g_0_1 (⟨r32.1.t, r32.1.hyps, r32.1.way.take (IntKind.i64.wrap ((r32.1.way.length : Int) - 1)).toNat, r32.1.wrong⟩ : PC), oS T_int 1 IC s24 ([a2]), oB b2 T_Term (Term.C (⟨a1.kind, a1.name, a1.other, a1.form, s_1⟩ : Term))] [oDTerm s30 ((at_ PTerm.z a1.sub a2).sub), oDTerm s_1 a1.sub, fS 2 Hyp.C s_3 a3] := S.shut_oC hp37
  refine wl_nil ?_
  refine wc_region ?_
  refine wd (does_mv_p rfl) ?_
  refine wd (does_mv_p rfl) ?_
  obtain ⟨p44, s46, s47, s48, hp45, S⟩ := S.open_oC 0
  replace S : St A N w w43 [oB p44 T_RC (RC.C (⟨g_0_1, s46, s47, s48⟩ : RC)), oR g_0_1 r32.1.t, oS T_Hyp 2 Hyp.C s46 r32.1.hyps, oS T_int 1 IC s47 (r32.1.way.take (IntKind.i64.wrap ((r32.1.way.length : Int) - 1)).toNat), oS T_int 1 IC s48 r32.1.wrong, oS T_int 1 IC s24 ([a2]), oB b2 T_Term (Term.C (⟨a1.kind, a1.name, a1.other, a1.form, s_1⟩ : Term))] [oDTerm s30 ((at_ PTerm.z a1.sub a2).sub), oDTerm s_1 a1.sub, fS 2 Hyp.C s_3 a3] := S
  refine wd (does_nilCheck (congrArg Value.pointer hp45)) ?_
  refine wd (does_fieldAddr fl_RC_hyps rfl (o' := 1) rfl) ?_
  refine wd (does_load on_L_api_Hyp rfl ((S.blk 0).cell (RC.get_hyps _))) ?_
  refine wd (does_mv_i rfl) ?_
  obtain ⟨hs49, H⟩ := chk_ex H
  have hs49 := of_decide_eq_true hs49
  refine wd (does_pre sl_L_api_Hyp rfl rfl (S.sl 2) hs49) ?_
  have hlhs49 := S.lenO 2
  replace S : St A N w w43 [oS T_Hyp 2 Hyp.C (⟨s46.p, ((a0.hyps.length : Int)).toNat, s46.c⟩ : SlV) (r32.1.hyps.take ((a0.hyps.length : Int)).toNat), oB p44 T_RC (RC.C (⟨g_0_1, s46, s47, s48⟩ : RC)), oR g_0_1 r32.1.t, oS T_int 1 IC s47 (r32.1.way.take (IntKind.i64.wrap ((r32.1.way.length : Int) - 1)).toNat), oS T_int 1 IC s48 r32.1.wrong, oS T_int 1 IC s24 ([a2]), oB b2 T_Term (Term.C (⟨a1.kind, a1.name, a1.other, a1.form, s_1⟩ : Term))] [oDTerm s30 ((at_ PTerm.z a1.sub a2).sub), oDTerm s_1 a1.sub, fS 2 Hyp.C s_3 a3] := S.push (s := s46) 2 (Own.preL (S.sl 2) hs49 (Own.clip (S.sl 2) hs49) (Nat.le_refl _)) (by simp only [List.length_take]; omega) (Chg.refl _ _) (fun _ hi => .inl hi)
  refine wd (does_nilCheck (congrArg Value.pointer hp45)) ?_
  refine wd (does_fieldAddr fl_RC_hyps rfl (o' := 1) rfl) ?_
  refine wl_store on_L_api_Hyp rfl rfl (S.blk 1) (by rw [RC.len]; decide) (SlV.one _ _ rfl) (RC.set_hyps _ _) fun w50 B hw50 zw50 => ?_
  replace S : St A N w w50 [oB p44 T_RC (RC.C (⟨g_0_1, (⟨s46.p, ((a0.hyps.length : Int)).toNat, s46.c⟩ : SlV), s47, s48⟩ : RC)), oS T_Hyp 2 Hyp.C (⟨s46.p, ((a0.hyps.length : Int)).toNat, s46.c⟩ : SlV) (r32.1.hyps.take ((a0.hyps.length : Int)).toNat), oR g_0_1 r32.1.t, oS T_int 1 IC s47 (r32.1.way.take (IntKind.i64.wrap ((r32.1.way.length : Int) - 1)).toNat), oS T_int 1 IC s48 r32.1.wrong, oS T_int 1 IC s24 ([a2]), oB b2 T_Term (Term.C (⟨a1.kind, a1.name, a1.other, a1.form, s_1⟩ : Term))] [oDTerm s30 ((at_ PTerm.z a1.sub a2).sub), oDTerm s_1 a1.sub, fS 2 Hyp.C s_3 a3] := S.store 1 B hw50
  clear B
  replace S := S.front 4
  replace S := S.front 4
  replace S := S.front 3
  replace S := S.front 4
  replace S := S.front 4
  replace S : St A N w w50 [oC a_0 g_0_1 (⟨r32.1.t, r32.1.hyps.take ((a0.hyps.length : Int)).toNat, r32.1.way.take (IntKind.i64.wrap ((r32.1.way.length : Int) - 1)).toNat, r32.1.wrong⟩ : PC), oS T_int 1 IC s24 ([a2]), oB b2 T_Term (Term.C (⟨a1.kind, a1.name, a1.other, a1.form, s_1⟩ : Term))] [oDTerm s30 ((at_ PTerm.z a1.sub a2).sub), oDTerm s_1 a1.sub, fS 2 Hyp.C s_3 a3] := S.shut_oC hp45
  refine wl_nil ?_
  refine wc_seq (wc_region ?_)
  refine wd (does_mv_i rfl) ?_
  refine wd (does_mv_i rfl) ?_
  refine wd (does_as_i rfl) ?_
  refine wd (does_as_i rfl) ?_
  refine wl_nil ?_
  refine wc_ret ?_
  refine ⟨_, (rets2 (retOne_tmp rfl) (retOne_tmp rfl)), ?_⟩
  replace S : St A N w w50 [oC a_0 g_0_1 (⟨r32.1.t, r32.1.hyps.take ((a0.hyps.length : Int)).toNat, r32.1.way.take (IntKind.i64.wrap ((r32.1.way.length : Int) - 1)).toNat, r32.1.wrong⟩ : PC)] [] := S.arr [0] []
  obtain rfl := Option.some.inj H
  exact ⟨rfl, S⟩
 ·replace H := if_f hc35 H
  refine wc_skip ?_
  refine wc_seq (wc_region ?_)
  refine wd (does_mv_i rfl) ?_
  refine wd (does_mv_i rfl) ?_
  refine wd (does_as_i rfl) ?_
  refine wd (does_as_i rfl) ?_
  refine wl_nil ?_
  refine wc_ret ?_
  refine ⟨_, (rets2 (retOne_tmp rfl) (retOne_tmp rfl)), ?_⟩
  replace S : St A N w w33 [oC a_0 g_0_1 r32.1] [] := S.arr [0] []
  obtain rfl := Option.some.inj H
  exact ⟨rfl, S⟩
theorem ref13_C_checked_gst {rec_ref13_C_Checked : PC → PTerm → Int → Option (PC × Int)} (hrec_ref13_C_Checked : ∀ {A : Nat → Prop} {N : Oth} {w : World} {a0 : PC} {a_0 : Option Addr} {g_0_1 : Option Addr} {a1 : PTerm} {s_1 : SlV} {a2 : Int} (S : St A N w w [oC a_0 g_0_1 a0] [oDTerm s_1 a1.sub]) {r : PC × Int} (H : rec_ref13_C_Checked a0 a1 a2 = some r), Calls PP F_ref13_C_Checked #[.pointer a_0, .agg (Term.C (⟨a1.kind, a1.name, a1.other, a1.form, s_1⟩ : Term)).toArray, .int .i64 a2] w fun e w' => ∃ v, e = .returned v ∧ (v = .int .i64 r.2 ∧ St A N w w' [oC a_0 g_0_1 r.1] [])) {A : Nat → Prop} {N : Oth} {w : World} {a0 : PC} {a_0 : Option Addr} {g_0_1 : Option Addr} {a1 : PTerm} {s_1 : SlV} {a2 : Int} {a3 : List Hyp} {s_3 : SlV} {a4 : Int} (S : St A N w w [oC a_0 g_0_1 a0] [oDTerm s_1 a1.sub, fS 2 Hyp.C s_3 a3]) {r : PC × Int} (H : ref13_C_checked.g rec_ref13_C_Checked a0 a1 a2 a3 a4 = some r) :
  Calls PP F_ref13_C_checked #[.pointer a_0, .agg (Term.C (⟨a1.kind, a1.name, a1.other, a1.form, s_1⟩ : Term)).toArray, .int .i64 a2, s_3.v, .int .i64 a4] w fun e w' => ∃ v, e = .returned v ∧ (v = .int .i64 r.2 ∧ St A N w w' [oC a_0 g_0_1 r.1] []) := by
 unfold ref13_C_checked.g at H
 refine calls_of_wc (n := 71) fn_ref13_C_checked rfl rfl (by simp) ?_
 refine wc_seq (wc_region ?_)
 refine wl_box_agg rfl (by decide) fun b2 w1 hw1 => ?_
 replace S : St A N w w1 [oB b2 T_Term (Term.C (⟨a1.kind, a1.name, a1.other, a1.form, s_1⟩ : Term)), oC a_0 g_0_1 a0] [oDTerm s_1 a1.sub, fS 2 Hyp.C s_3 a3] := S.new hw1
 refine wd (does_as_i rfl) ?_
 refine wl_nil ?_
 refine wc_seq (wc_region ?_)
 refine wd (does_mv_p rfl) ?_
 obtain ⟨p3, s5, s6, s7, hp4, S⟩ := S.open_oC 1
 replace S : St A N w w1 [oB p3 T_RC (RC.C (⟨g_0_1, s5, s6, s7⟩ : RC)), oR g_0_1 a0.t, oS T_Hyp 2 Hyp.C s5 a0.hyps, oS T_int 1 IC s6 a0.way, oS T_int 1 IC s7 a0.wrong, oB b2 T_Term (Term.C (⟨a1.kind, a1.name, a1.other, a1.form, s_1⟩ : Term))] [oDTerm s_1 a1.sub, fS 2 Hyp.C s_3 a3] := S
 refine wd (does_nilCheck (congrArg Value.pointer hp4)) ?_
 refine wd (does_fieldAddr fl_RC_hyps rfl (o' := 1) rfl) ?_
 refine wd (does_load on_L_api_Hyp rfl ((S.blk 0).cell (RC.get_hyps _))) ?_
 refine wd (does_lenR sl_L_api_Hyp rfl (S.rdO 2)) ?_
 refine wd (does_as_i rfl) ?_
 replace S := S.front 4
 replace S := S.front 4
 replace S := S.front 4
 replace S := S.front 4
 replace S := S.front 4
 replace S : St A N w w1 [oC a_0 g_0_1 a0, oB b2 T_Term (Term.C (⟨a1.kind, a1.name, a1.other, a1.form, s_1⟩ : Term))] [oDTerm s_1 a1.sub, fS 2 Hyp.C s_3 a3] := S.shut_oC hp4
 refine wl_nil ?_
 refine wc_seq (wc_region ?_)
 refine wd (does_mv_p rfl) ?_
 refine wd (does_mv_p rfl) ?_
 obtain ⟨p8, s10, s11, s12, hp9, S⟩ := S.open_oC 0
 replace S : St A N w w1 [oB p8 T_RC (RC.C (⟨g_0_1, s10, s11, s12⟩ : RC)), oR g_0_1 a0.t, oS T_Hyp 2 Hyp.C s10 a0.hyps, oS T_int 1 IC s11 a0.way, oS T_int 1 IC s12 a0.wrong, oB b2 T_Term (Term.C (⟨a1.kind, a1.name, a1.other, a1.form, s_1⟩ : Term))] [oDTerm s_1 a1.sub, fS 2 Hyp.C s_3 a3] := S
 refine wd (does_nilCheck (congrArg Value.pointer hp9)) ?_
 refine wd (does_fieldAddr fl_RC_hyps rfl (o' := 1) rfl) ?_
 refine wd (does_load on_L_api_Hyp rfl ((S.blk 0).cell (RC.get_hyps _))) ?_
 refine wd (does_mv_l rfl) ?_
 obtain ⟨ha15, H⟩ := chk_ex H
 have ha15 := of_decide_eq_true ha15
 refine wl_appendm (C := Hyp.C) sl_L_api_Hyp el_Hyp rfl rfl (S.sl 2) (S.rd 1) Hyp.one ha15 (by omega) (by decide) fun s14 w13 O hw13 gw13 => ?_
 replace S : St A N w w13 [oS T_Hyp 2 Hyp.C s14 (a0.hyps ++ a3), oB p8 T_RC (RC.C (⟨g_0_1, s10, s11, s12⟩ : RC)), oR g_0_1 a0.t, oS T_int 1 IC s11 a0.way, oS T_int 1 IC s12 a0.wrong, oB b2 T_Term (Term.C (⟨a1.kind, a1.name, a1.other, a1.form, s_1⟩ : Term))] [oDTerm s_1 a1.sub, fS 2 Hyp.C s_3 a3] := S.push 2 O (by first | (simp; done) | (simp; omega)) hw13 gw13
 clear O
 refine wd (does_nilCheck (congrArg Value.pointer hp9)) ?_
 refine wd (does_fieldAddr fl_RC_hyps rfl (o' := 1) rfl) ?_
 refine wl_store on_L_api_Hyp rfl rfl (S.blk 1) (by rw [RC.len]; decide) (SlV.one _ _ rfl) (RC.set_hyps _ _) fun w16 B hw16 zw16 => ?_
 replace S : St A N w w16 [oB p8 T_RC (RC.C (⟨g_0_1, s14, s11, s12⟩ : RC)), oS T_Hyp 2 Hyp.C s14 (a0.hyps ++ a3), oR g_0_1 a0.t, oS T_int 1 IC s11 a0.way, oS T_int 1 IC s12 a0.wrong, oB b2 T_Term (Term.C (⟨a1.kind, a1.name, a1.other, a1.form, s_1⟩ : Term))] [oDTerm s_1 a1.sub, fS 2 Hyp.C s_3 a3] := S.store 1 B hw16
 clear B
 replace S := S.front 4
 replace S := S.front 4
 replace S := S.front 3
 replace S := S.front 4
 replace S := S.front 4
 replace S : St A N w w16 [oC a_0 g_0_1 (⟨a0.t, a0.hyps ++ a3, a0.way, a0.wrong⟩ : PC), oB b2 T_Term (Term.C (⟨a1.kind, a1.name, a1.other, a1.form, s_1⟩ : Term))] [oDTerm s_1 a1.sub, fS 2 Hyp.C s_3 a3] := S.shut_oC hp9
 refine wl_nil ?_
 refine wc_seq (wc_region ?_)
 refine wd (does_mv_p rfl) ?_
 refine wd (does_mv_p rfl) ?_
 obtain ⟨p17, s19, s20, s21, hp18, S⟩ := S.open_oC 0
 replace S : St A N w w16 [oB p17 T_RC (RC.C (⟨g_0_1, s19, s20, s21⟩ : RC)), oR g_0_1 a0.t, oS T_Hyp 2 Hyp.C s19 (a0.hyps ++ a3), oS T_int 1 IC s20 a0.way, oS T_int 1 IC s21 a0.wrong, oB b2 T_Term (Term.C (⟨a1.kind, a1.name, a1.other, a1.form, s_1⟩ : Term))] [oDTerm s_1 a1.sub, fS 2 Hyp.C s_3 a3] := S
 refine wd (does_nilCheck (congrArg Value.pointer hp18)) ?_
 refine wd (does_fieldAddr fl_RC_way rfl (o' := 2) rfl) ?_
 refine wd (does_load on_L_int rfl ((S.blk 0).cell (RC.get_way _))) ?_
 refine wd (does_mv_i rfl) ?_
 refine wl_lits (C := IC) (l := [a2]) (vs := [.int .i64 a2]) sl_L_int el_int.zero rfl rfl (fun _ _ => rfl) (by decide) rfl (by decide) fun b23 w22 s24 hBw22 hw22 => ?_
 replace S : St A N w w22 [oS T_int 1 IC s24 ([a2]), oB p17 T_RC (RC.C (⟨g_0_1, s19, s20, s21⟩ : RC)), oR g_0_1 a0.t, oS T_Hyp 2 Hyp.C s19 (a0.hyps ++ a3), oS T_int 1 IC s20 a0.way, oS T_int 1 IC s21 a0.wrong, oB b2 T_Term (Term.C (⟨a1.kind, a1.name, a1.other, a1.form, s_1⟩ : Term))] [oDTerm s_1 a1.sub, fS 2 Hyp.C s_3 a3] := S.lit hBw22 hw22 (by simp)
 obtain ⟨ha27, H⟩ := chk_ex H
 have ha27 := of_decide_eq_true ha27
 refine wl_appends (C := IC) sl_L_int el_int rfl rfl (S.sl 4) (S.rdO 0) (by simp) (fun a _ v hv => by rw [List.mem_singleton.1 hv]; rfl) ha27 (by omega) (by decide) fun s26 w25 O hw25 gw25 => ?_
 replace S : St A N w w25 [oS T_int 1 IC s26 (a0.way ++ [a2]), oS T_int 1 IC s24 ([a2]), oB p17 T_RC (RC.C (⟨g_0_1, s19, s20, s21⟩ : RC)), oR g_0_1 a0.t, oS T_Hyp 2 Hyp.C s19 (a0.hyps ++ a3), oS T_int 1 IC s21 a0.wrong, oB b2 T_Term (Term.C (⟨a1.kind, a1.name, a1.other, a1.form, s_1⟩ : Term))] [oDTerm s_1 a1.sub, fS 2 Hyp.C s_3 a3] := S.push 4 O (by first | (simp; done) | (simp; omega)) hw25 gw25
 clear O
 refine wd (does_nilCheck (congrArg Value.pointer hp18)) ?_
 refine wd (does_fieldAddr fl_RC_way rfl (o' := 2) rfl) ?_
 refine wl_store on_L_int rfl rfl (S.blk 2) (by rw [RC.len]; decide) (SlV.one _ _ rfl) (RC.set_way _ _) fun w28 B hw28 zw28 => ?_
 replace S : St A N w w28 [oB p17 T_RC (RC.C (⟨g_0_1, s19, s26, s21⟩ : RC)), oS T_int 1 IC s26 (a0.way ++ [a2]), oS T_int 1 IC s24 ([a2]), oR g_0_1 a0.t, oS T_Hyp 2 Hyp.C s19 (a0.hyps ++ a3), oS T_int 1 IC s21 a0.wrong, oB b2 T_Term (Term.C (⟨a1.kind, a1.name, a1.other, a1.form, s_1⟩ : Term))] [oDTerm s_1 a1.sub, fS 2 Hyp.C s_3 a3] := S.store 2 B hw28
 clear B
 replace S := S.front 5
 replace S := S.front 2
 replace S := S.front 5
 replace S := S.front 5
 replace S := S.front 4
 replace S : St A N w w28 [oC a_0 g_0_1 (⟨a0.t, a0.hyps ++ a3, a0.way ++ [a2], a0.wrong⟩ : PC), oS T_int 1 IC s24 ([a2]), oB b2 T_Term (Term.C (⟨a1.kind, a1.name, a1.other, a1.form, s_1⟩ : Term))] [oDTerm s_1 a1.sub, fS 2 Hyp.C s_3 a3] := S.shut_oC hp18
 refine wl_nil ?_
 refine wc_seq (wc_region ?_)
 refine wd (does_mv_p rfl) ?_
 refine wd (does_fieldAddr fl_Term_sub rfl (o' := 4) rfl) ?_
 refine wd (does_load on_L_api_Term rfl ((S.blk 2).cell (Term.get_sub _))) ?_
 refine wd (does_mv_i rfl) ?_
 obtain ⟨hi29, H⟩ := chk_ex H
 refine wd (does_indexF sl_L_api_Term rfl rfl (S.onZ 0) (inb_ex hi29).1 (inb_ex hi29).2) ?_
 obtain ⟨s30, hc31, S⟩ := S.viewTerm 0 (inb_ex hi29)
 replace S : St A N w w28 [oC a_0 g_0_1 (⟨a0.t, a0.hyps ++ a3, a0.way ++ [a2], a0.wrong⟩ : PC), oS T_int 1 IC s24 ([a2]), oB b2 T_Term (Term.C (⟨a1.kind, a1.name, a1.other, a1.form, s_1⟩ : Term))] [oDTerm s30 ((at_ PTerm.z a1.sub a2).sub), oDTerm s_1 a1.sub, fS 2 Hyp.C s_3 a3] := S
 refine wd (does_load_agg ag_Term rfl hc31 (Term.len _)) ?_
 refine wd (does_mv_i rfl) ?_
 obtain ⟨r32, er32, H⟩ := bind_ex H
 obtain ⟨B34, MB34, SB34, back⟩ := S.calln 1 ((.z 0 rfl .nil))
 refine wl_call (does_call ca_ref13_C_Checked) (by decide) (hrec_ref13_C_Checked (a1 := (at_ PTerm.z a1.sub a2)) SB34 er32) ?_
 rintro _ w33 ⟨rfl, S2⟩
 replace S : St A N w w33 [oC a_0 g_0_1 r32.1, oS T_int 1 IC s24 ([a2]), oB b2 T_Term (Term.C (⟨a1.kind, a1.name, a1.other, a1.form, s_1⟩ : Term))] [oDTerm s30 ((at_ PTerm.z a1.sub a2).sub), oDTerm s_1 a1.sub, fS 2 Hyp.C s_3 a3] := back _ _ _ _ S2 rfl
 clear back S2 SB34
 refine wd (does_as_i rfl) ?_
 refine wl_nil ?_
 refine wc_seq (wc_seq (wc_region ?_))
 refine wd (does_mv_i rfl) ?_
 refine wd (does_eq rfl rfl) ?_
 refine wl_nil ?_
 refine wc_if rfl (fun hc35 => ?_) (fun hc35 => ?_)
 ·replace H := if_t hc35 H
  refine wc_seq ?_
  obtain ⟨p36, s38, s39, s40, hp37, S⟩ := S.open_oC 0
  replace S : St A N w w33 [oB p36 T_RC (RC.C (⟨g_0_1, s38, s39, s40⟩ : RC)), oR g_0_1 r32.1.t, oS T_Hyp 2 Hyp.C s38 r32.1.hyps, oS T_int 1 IC s39 r32.1.way, oS T_int 1 IC s40 r32.1.wrong, oS T_int 1 IC s24 ([a2]), oB b2 T_Term (Term.C (⟨a1.kind, a1.name, a1.other, a1.form, s_1⟩ : Term))] [oDTerm s30 ((at_ PTerm.z a1.sub a2).sub), oDTerm s_1 a1.sub, fS 2 Hyp.C s_3 a3] := S
  refine wc_quiet 12 (Ext w33) hmix (by kernel_rfl) (by kernel_rfl) (Ext.drawn _) ?_
  refine wq_does (fun v K => does_mv_p rfl) ?_
  refine wq_does (fun v K => does_mv_p rfl) ?_
  refine wq_does (fun v K => does_nilCheck (congrArg Value.pointer hp37)) ?_
  refine wq_does (fun v K => does_fieldAddr fl_RC_way rfl (o' := 2) rfl) ?_
  refine wq_does (fun v K => does_load on_L_int rfl (((S.ext K).blk 0).cell (RC.get_way _))) ?_
  refine wq_does (fun v K => does_mv_p rfl) ?_
  refine wq_does (fun v K => does_nilCheck (congrArg Value.pointer hp37)) ?_
  refine wq_does (fun v K => does_fieldAddr fl_RC_way rfl (o' := 2) rfl) ?_
  refine wq_does (fun v K => does_load on_L_int rfl (((S.ext K).blk 0).cell (RC.get_way _))) ?_
  refine wq_does (fun v K => does_lenR sl_L_int rfl ((S.ext K).rdO 3)) ?_
  refine wq_does (fun v K => does_sub rfl rfl) ?_
  obtain ⟨hs41, H⟩ := chk_ex H
  have hs41 := of_decide_eq_true hs41
  refine wq_does (fun v K => does_pre sl_L_int rfl rfl ((S.ext K).sl 3) hs41) ?_
  refine wq_nil fun w42 K => ?_
  replace S := S.ext K
  clear K
  have hlhs41 := S.lenO 3
  replace S : St A N w w42 [oS T_int 1 IC (⟨s39.p, (IntKind.i64.wrap ((r32.1.way.length : Int) - 1)).toNat, s39.c⟩ : SlV) (r32.1.way.take (IntKind.i64.wrap ((r32.1.way.length : Int) - 1)).toNat), oB p36 T_RC (RC.C (⟨g_0_1, s38, s39, s40⟩ : RC)), oR g_0_1 r32.1.t, oS T_Hyp 2 Hyp.C s38 r32.1.hyps, oS T_int 1 IC s40 r32.1.wrong, oS T_int 1 IC s24 ([a2]), oB b2 T_Term (Term.C (⟨a1.kind, a1.name, a1.other, a1.form, s_1⟩ : Term))] [oDTerm s30 ((at_ PTerm.z a1.sub a2).sub), oDTerm s_1 a1.sub, fS 2 Hyp.C s_3 a3] := S.push (s := s39) 3 (Own.preL (S.sl 3) hs41 (Own.clip (S.sl 3) hs41) (Nat.le_refl _)) (by simp only [List.length_take]; omega) (Chg.refl _ _) (fun _ hi => .inl hi)
  refine wd (does_nilCheck (congrArg Value.pointer hp37)) ?_
  refine wd (does_fieldAddr fl_RC_way rfl (o' := 2) rfl) ?_
  refine wl_store on_L_int rfl rfl (S.blk 1) (by rw [RC.len]; decide) (SlV.one _ _ rfl) (RC.set_way _ _) fun w43 B hw43 zw43 => ?_
  replace S : St A N w w43 [oB p36 T_RC (RC.C (⟨g_0_1, s38, (⟨s39.p, (IntKind.i64.wrap ((r32.1.way.length : Int) - 1)).toNat, s39.c⟩ : SlV), s40⟩ : RC)), oS T_int 1 IC (⟨s39.p, (IntKind.i64.wrap ((r32.1.way.length : Int) - 1)).toNat, s39.c⟩ : SlV) (r32.1.way.take (IntKind.i64.wrap ((r32.1.way.length : Int) - 1)).toNat), oR g_0_1 r32.1.t, oS T_Hyp 2 Hyp.C s38 r32.1.hyps, oS T_int 1 IC s40 r32.1.wrong, oS T_int 1 IC s24 ([a2]), oB b2 T_Term (Term.C (⟨a1.kind, a1.name, a1.other, a1.form, s_1⟩ : Term))] [oDTerm s30 ((at_ PTerm.z a1.sub a2).sub), oDTerm s_1 a1.sub, fS 2 Hyp.C s_3 a3] := S.store 1 B hw43
  clear B
  replace S := S.front 4
  replace S := S.front 2
  replace S := S.front 4
  replace S := S.front 4
  replace S := S.front 4
  replace S : St A N w w43 [oC a_0 g_0_1 (⟨r32.1.t, r32.1.hyps, r32.1.way.take (IntKind.i64.wrap ((r32.1.way.length : Int) - 1)).toNat, r32.1.wrong⟩ : PC), oS T_int 1 IC s24 ([a2]), oB b2 T_Term (Term.C (⟨a1.kind, a1.name, a1.other, a1.form, s_1⟩ : Term))] [oDTerm s30 ((at_ PTerm.z a1.sub a2).sub), oDTerm s_1 a1.sub, fS 2 Hyp.C s_3 a3] := S.shut_oC hp37
  refine wl_nil ?_
  refine wc_region ?_
  refine wd (does_mv_p rfl) ?_
  refine wd (does_mv_p rfl) ?_
  obtain ⟨p44, s46, s47, s48, hp45, S⟩ := S.open_oC 0
  replace S : St A N w w43 [oB p44 T_RC (RC.C (⟨g_0_1, s46, s47, s48⟩ : RC)), oR g_0_1 r32.1.t, oS T_Hyp 2 Hyp.C s46 r32.1.hyps, oS T_int 1 IC s47 (r32.1.way.take (IntKind.i64.wrap ((r32.1.way.length : Int) - 1)).toNat), oS T_int 1 IC s48 r32.1.wrong, oS T_int 1 IC s24 ([a2]), oB b2 T_Term (Term.C (⟨a1.kind, a1.name, a1.other, a1.form, s_1⟩ : Term))] [oDTerm s30 ((at_ PTerm.z a1.sub a2).sub), oDTerm s_1 a1.sub, fS 2 Hyp.C s_3 a3] := S
  refine wd (does_nilCheck (congrArg Value.pointer hp45)) ?_
  refine wd (does_fieldAddr fl_RC_hyps rfl (o' := 1) rfl) ?_
  refine wd (does_load on_L_api_Hyp rfl ((S.blk 0).cell (RC.get_hyps _))) ?_
  refine wd (does_mv_i rfl) ?_
  obtain ⟨hs49, H⟩ := chk_ex H
  have hs49 := of_decide_eq_true hs49
  refine wd (does_pre sl_L_api_Hyp rfl rfl (S.sl 2) hs49) ?_
  have hlhs49 := S.lenO 2
  replace S : St A N w w43 [oS T_Hyp 2 Hyp.C (⟨s46.p, ((a0.hyps.length : Int)).toNat, s46.c⟩ : SlV) (r32.1.hyps.take ((a0.hyps.length : Int)).toNat), oB p44 T_RC (RC.C (⟨g_0_1, s46, s47, s48⟩ : RC)), oR g_0_1 r32.1.t, oS T_int 1 IC s47 (r32.1.way.take (IntKind.i64.wrap ((r32.1.way.length : Int) - 1)).toNat), oS T_int 1 IC s48 r32.1.wrong, oS T_int 1 IC s24 ([a2]), oB b2 T_Term (Term.C (⟨a1.kind, a1.name, a1.other, a1.form, s_1⟩ : Term))] [oDTerm s30 ((at_ PTerm.z a1.sub a2).sub), oDTerm s_1 a1.sub, fS 2 Hyp.C s_3 a3] := S.push (s := s46) 2 (Own.preL (S.sl 2) hs49 (Own.clip (S.sl 2) hs49) (Nat.le_refl _)) (by simp only [List.length_take]; omega) (Chg.refl _ _) (fun _ hi => .inl hi)
  refine wd (does_nilCheck (congrArg Value.pointer hp45)) ?_
  refine wd (does_fieldAddr fl_RC_hyps rfl (o' := 1) rfl) ?_
  refine wl_store on_L_api_Hyp rfl rfl (S.blk 1) (by rw [RC.len]; decide) (SlV.one _ _ rfl) (RC.set_hyps _ _) fun w50 B hw50 zw50 => ?_
  replace S : St A N w w50 [oB p44 T_RC (RC.C (⟨g_0_1, (⟨s46.p, ((a0.hyps.length : Int)).toNat, s46.c⟩ : SlV), s47, s48⟩ : RC)), oS T_Hyp 2 Hyp.C (⟨s46.p, ((a0.hyps.length : Int)).toNat, s46.c⟩ : SlV) (r32.1.hyps.take ((a0.hyps.length : Int)).toNat), oR g_0_1 r32.1.t, oS T_int 1 IC s47 (r32.1.way.take (IntKind.i64.wrap ((r32.1.way.length : Int) - 1)).toNat), oS T_int 1 IC s48 r32.1.wrong, oS T_int 1 IC s24 ([a2]), oB b2 T_Term (Term.C (⟨a1.kind, a1.name, a1.other, a1.form, s_1⟩ : Term))] [oDTerm s30 ((at_ PTerm.z a1.sub a2).sub), oDTerm s_1 a1.sub, fS 2 Hyp.C s_3 a3] := S.store 1 B hw50
  clear B
  replace S := S.front 4
  replace S := S.front 4
  replace S := S.front 3
  replace S := S.front 4
  replace S := S.front 4
  replace S : St A N w w50 [oC a_0 g_0_1 (⟨r32.1.t, r32.1.hyps.take ((a0.hyps.length : Int)).toNat, r32.1.way.take (IntKind.i64.wrap ((r32.1.way.length : Int) - 1)).toNat, r32.1.wrong⟩ : PC), oS T_int 1 IC s24 ([a2]), oB b2 T_Term (Term.C (⟨a1.kind, a1.name, a1.other, a1.form, s_1⟩ : Term))] [oDTerm s30 ((at_ PTerm.z a1.sub a2).sub), oDTerm s_1 a1.sub, fS 2 Hyp.C s_3 a3] := S.shut_oC hp45
  refine wl_nil ?_
  refine wc_seq (wc_region ?_)
  refine wd (does_mv_i rfl) ?_
  refine wd (does_as_i rfl) ?_
  refine wl_nil ?_
  refine wc_ret ?_
  refine ⟨_, (rets1 (retOne_tmp rfl)), ?_⟩
  replace S : St A N w w50 [oC a_0 g_0_1 (⟨r32.1.t, r32.1.hyps.take ((a0.hyps.length : Int)).toNat, r32.1.way.take (IntKind.i64.wrap ((r32.1.way.length : Int) - 1)).toNat, r32.1.wrong⟩ : PC)] [] := S.arr [0] []
  obtain rfl := Option.some.inj H
  exact ⟨rfl, S⟩
 ·replace H := if_f hc35 H
  refine wc_skip ?_
  refine wc_seq (wc_region ?_)
  refine wd (does_mv_i rfl) ?_
  refine wd (does_as_i rfl) ?_
  refine wl_nil ?_
  refine wc_ret ?_
  refine ⟨_, (rets1 (retOne_tmp rfl)), ?_⟩
  replace S : St A N w w33 [oC a_0 g_0_1 r32.1] [] := S.arr [0] []
  obtain rfl := Option.some.inj H
  exact ⟨rfl, S⟩
theorem ref13_one_st {A : Nat → Prop} {N : Oth} {w : World} {a0 : ByteArray} {a1 : Int} (S : St A N w w [] []) {r : List Hyp} (H : ref13_one.f a0 a1 = some r) :
  Calls PP F_ref13_one #[.string a0, .int .i64 a1] w fun e w' => ∃ v, e = .returned v ∧ (∃ so0 : SlV, v = so0.v ∧ St A N w w' [oS T_Hyp 2 Hyp.C so0 r] []) := by
 unfold ref13_one.f at H
 refine calls_of_wc (n := 9) fn_ref13_one rfl rfl (by simp) ?_
 refine wc_seq (wc_region ?_)
 refine wd (does_as_nil) ?_
 refine wl_nil ?_
 refine wc_seq (wc_region ?_)
 refine wd (does_mv_s rfl) ?_
 refine wd (does_mv_i rfl) ?_
 refine wd (does_build bu_Hyp (Bld.one rfl rfl (by rw [Hyp.len]; decide) (Hyp.set_name _ _) (Bld.one rfl rfl (by rw [Hyp.len]; decide) (Hyp.set_form _ _) Bld.nil))) ?_
 refine wl_lits (C := Hyp.C) (l := [(⟨a0, a1⟩ : Hyp)]) (vs := [.agg (Hyp.C (⟨a0, a1⟩ : Hyp)).toArray]) sl_L_api_Hyp el_Hyp.zero rfl rfl (fun a _ => Hyp.len a) (by decide) rfl (by decide) fun b2 w1 s3 hBw1 hw1 => ?_
 replace S : St A N w w1 [oS T_Hyp 2 Hyp.C s3 ([(⟨a0, a1⟩ : Hyp)])] [] := S.lit hBw1 hw1 (by simp)
 refine wd (does_as_l rfl) ?_
 refine wl_nil ?_
 refine wc_ret ?_
 refine ⟨_, (rets1 (retOne_tmp rfl)), ?_⟩
 obtain rfl := Option.some.inj H
 exact ⟨s3, rfl, S⟩
theorem ref13_C_no_st {A : Nat → Prop} {N : Oth} {w : World} {a0 : PC} {a_0 : Option Addr} {g_0_1 : Option Addr} {a1 : Int} (S : St A N w w [oC a_0 g_0_1 a0] []) {r : PC × Int} (H : ref13_C_no.f a0 a1 = some r) :
  Calls PP F_ref13_C_no #[.pointer a_0, .int .i64 a1] w fun e w' => ∃ v, e = .returned v ∧ (v = .int .i64 r.2 ∧ St A N w w' [oC a_0 g_0_1 r.1] []) := by
 unfold ref13_C_no.f at H
 refine calls_of_wc (n := 9) fn_ref13_C_no rfl rfl (by simp) ?_
 refine wc_seq (wc_region ?_)
 refine wd (does_as_i rfl) ?_
 refine wl_nil ?_
 refine wc_seq (wc_region ?_)
 refine wd (does_mv_p rfl) ?_
 refine wd (does_mv_i rfl) ?_
 obtain ⟨r1, er1, H⟩ := bind_ex H
 obtain ⟨B3, MB3, SB3, back⟩ := S.calln 1 ((.nil))
 refine wl_call (does_call ca_ref13_C_refuse) (by decide) (ref13_C_refuse_st SB3 er1) ?_
 rintro _ w2 ⟨rfl, S2⟩
 replace S : St A N w w2 [oC a_0 g_0_1 r1.1] [] := back _ _ _ _ S2 rfl
 clear back S2 SB3
 refine wl_nil ?_
 refine wc_seq (wc_region ?_)
 refine wd (does_mv_i rfl) ?_
 refine wd (does_as_i rfl) ?_
 refine wl_nil ?_
 refine wc_ret ?_
 refine ⟨_, (rets1 (retOne_tmp rfl)), ?_⟩
 obtain rfl := Option.some.inj H
 exact ⟨rfl, S⟩
theorem ref13_C_Told_gst {rec_ref13_C_Told : PC → PTerm → Option (PC × Int × Int)} (hrec_ref13_C_Told : ∀ {A : Nat → Prop} {N : Oth} {w : World} {a0 : PC} {a_0 : Option Addr} {g_0_1 : Option Addr} {a1 : PTerm} {s_1 : SlV} (S : St A N w w [oC a_0 g_0_1 a0] [oDTerm s_1 a1.sub]) {r : PC × Int × Int} (H : rec_ref13_C_Told a0 a1 = some r), Calls PP F_ref13_C_Told #[.pointer a_0, .agg (Term.C (⟨a1.kind, a1.name, a1.other, a1.form, s_1⟩ : Term)).toArray] w fun e w' => ∃ v, e = .returned v ∧ (v = .tuple #[.int .i64 r.2.1, .int .i64 r.2.2] ∧ St A N w w' [oC a_0 g_0_1 r.1] [])) {rec_ref13_C_Checked : PC → PTerm → Int → Option (PC × Int)} (hrec_ref13_C_Checked : ∀ {A : Nat → Prop} {N : Oth} {w : World} {a0 : PC} {a_0 : Option Addr} {g_0_1 : Option Addr} {a1 : PTerm} {s_1 : SlV} {a2 : Int} (S : St A N w w [oC a_0 g_0_1 a0] [oDTerm s_1 a1.sub]) {r : PC × Int} (H : rec_ref13_C_Checked a0 a1 a2 = some r), Calls PP F_ref13_C_Checked #[.pointer a_0, .agg (Term.C (⟨a1.kind, a1.name, a1.other, a1.form, s_1⟩ : Term)).toArray, .int .i64 a2] w fun e w' => ∃ v, e = .returned v ∧ (v = .int .i64 r.2 ∧ St A N w w' [oC a_0 g_0_1 r.1] [])) {A : Nat → Prop} {N : Oth} {w : World} {a0 : PC} {a_0 : Option Addr} {g_0_1 : Option Addr} {a1 : PTerm} {s_1 : SlV} (S : St A N w w [oC a_0 g_0_1 a0] [oDTerm s_1 a1.sub]) {k : Nat} {r : PC × Int × Int} (H : ref13_C_Told.g rec_ref13_C_Told rec_ref13_C_Checked k a0 a1 = some r) :
  Calls PP F_ref13_C_Told #[.pointer a_0, .agg (Term.C (⟨a1.kind, a1.name, a1.other, a1.form, s_1⟩ : Term)).toArray] w fun e w' => ∃ v, e = .returned v ∧ (v = .tuple #[.int .i64 r.2.1, .int .i64 r.2.2] ∧ St A N w w' [oC a_0 g_0_1 r.1] []) := by
 unfold ref13_C_Told.g at H
 refine calls_of_wc (n := 229) fn_ref13_C_Told rfl rfl (by simp) ?_
 refine wc_seq (wc_region ?_)
 refine wl_box_agg rfl (by decide) fun b2 w1 hw1 => ?_
 replace S : St A N w w1 [oB b2 T_Term (Term.C (⟨a1.kind, a1.name, a1.other, a1.form, s_1⟩ : Term)), oC a_0 g_0_1 a0] [oDTerm s_1 a1.sub] := S.new hw1
 refine wd (does_as_i rfl) ?_
 refine wd (does_as_i rfl) ?_
 refine wl_nil ?_
 refine wc_seq (wc_seq (wc_region ?_))
 refine wd (does_fieldAddr fl_Term_kind rfl (o' := 0) rfl) ?_
 refine wd (does_load on_api_TermKind rfl ((S.blk 0).cell (Term.get_kind _))) ?_
 refine wl_nil ?_
 refine wc_block ?_
 refine wc_seq (wc_region ?_)
 refine wd (does_eq rfl rfl) ?_
 refine wd (does_as_b rfl) ?_
 refine wl_nil ?_
 refine wc_if rfl (fun hc3 => ?_) (fun hc3 => ?_)
 ·replace H := if_t hc3 H
  refine wc_seq (wc_seq (wc_region ?_))
  refine wd (does_mv_p rfl) ?_
  obtain ⟨p4, s6, s7, s8, hp5, S⟩ := S.open_oC 1
  replace S : St A N w w1 [oB p4 T_RC (RC.C (⟨g_0_1, s6, s7, s8⟩ : RC)), oR g_0_1 a0.t, oS T_Hyp 2 Hyp.C s6 a0.hyps, oS T_int 1 IC s7 a0.way, oS T_int 1 IC s8 a0.wrong, oB b2 T_Term (Term.C (⟨a1.kind, a1.name, a1.other, a1.form, s_1⟩ : Term))] [oDTerm s_1 a1.sub] := S
  refine wd (does_nilCheck (congrArg Value.pointer hp5)) ?_
  refine wd (does_fieldAddr fl_RC_hyps rfl (o' := 1) rfl) ?_
  refine wd (does_load on_L_api_Hyp rfl ((S.blk 0).cell (RC.get_hyps _))) ?_
  refine wd (does_lenR sl_L_api_Hyp rfl (S.rdO 2)) ?_
  refine wd (does_sub rfl rfl) ?_
  refine wd (does_as_i rfl) ?_
  replace S := S.front 4
  replace S := S.front 4
  replace S := S.front 4
  replace S := S.front 4
  replace S := S.front 4
  replace S : St A N w w1 [oC a_0 g_0_1 a0, oB b2 T_Term (Term.C (⟨a1.kind, a1.name, a1.other, a1.form, s_1⟩ : Term))] [oDTerm s_1 a1.sub] := S.shut_oC hp5
  refine wl_nil ?_
  obtain ⟨o9, e9, Ho9⟩ := bind_ex H
  clear H
  refine wc_cutq [4, 5, 6, 28, 29, 30, 31, 32, 33, 34, 35, 36, 37, 38, 39, 40, 41, 42, 43, 44, 45, 46, 47, 48, 49, 50] (fun fr W => ∃ s9 : Int, o9 = .inl s9 ∧ fr 6 = .int .i64 s9 ∧ St A N w W [oC a_0 g_0_1 a0, oB b2 T_Term (Term.C (⟨a1.kind, a1.name, a1.other, a1.form, s_1⟩ : Term))] [oDTerm s_1 a1.sub]) ?_ ?_
  ·refine wc_block ?_
   refine wc_loopm (α := Nat × Int) [4, 5, 6, 28, 29, 30, 31, 32, 33, 34, 35, 36, 37, 38, 39, 40, 41, 42, 43, 44, 45, 46, 47, 48, 49, 50] (fun x fr W => iter (fun s => ref13_C_Told.b0 a0 a1 s) x.1 x.2 = some o9 ∧ fr 6 = .int .i64 (x.2) ∧ St A N w W [oC a_0 g_0_1 a0, oB b2 T_Term (Term.C (⟨a1.kind, a1.name, a1.other, a1.form, s_1⟩ : Term))] [oDTerm s_1 a1.sub]) (fun x => x.1) (k, IntKind.i64.wrap ((a0.hyps.length : Int) - 1)) ⟨(by dsimp only; exact e9), rfl, S⟩ ?_
   rintro ⟨m9, x9_0⟩ g9 u9 ⟨e9, q9_6, S⟩
   try dsimp only at e9
   try dsimp only at S
   try dsimp only at q9_6
   obtain ⟨m9, rfl⟩ : ∃ m, m9 = m + 1 := ⟨m9 - 1, by cases m9 with | zero => cases e9 | succ m => rfl⟩
   obtain ⟨q9, H, e9⟩ := iter_s e9
   unfold ref13_C_Told.b0 at H
   try dsimp only at H
   refine wc_seq (wc_seq (wc_region ?_))
   refine wd (does_mv_i q9_6) ?_
   refine wd (does_ge rfl rfl) ?_
   refine wl_nil ?_
   refine wc_if rfl (fun hc10 => ?_) (fun hc10 => ?_)
   rotate_left
   ·replace H := if_f hc10 H
    refine wc_exit ?_
    obtain rfl := Option.some.inj H
    exact ⟨rfl, (((Dif.self _ _ _).upd rfl _).upd rfl _), x9_0, e9, q9_6, S⟩
   replace H := if_t hc10 H
   refine wc_skip ?_
   refine wc_seq ?_
   refine wc_block ?_
   refine wc_seq ?_
   obtain ⟨p11, s13, s14, s15, hp12, S⟩ := S.open_oC 0
   replace S : St A N w u9 [oB p11 T_RC (RC.C (⟨g_0_1, s13, s14, s15⟩ : RC)), oR g_0_1 a0.t, oS T_Hyp 2 Hyp.C s13 a0.hyps, oS T_int 1 IC s14 a0.way, oS T_int 1 IC s15 a0.wrong, oB b2 T_Term (Term.C (⟨a1.kind, a1.name, a1.other, a1.form, s_1⟩ : Term))] [oDTerm s_1 a1.sub] := S
   refine wc_quiet 10 (Ext u9) hmix (by kernel_rfl) (by kernel_rfl) (Ext.drawn _) ?_
   refine wq_does (fun v K => does_mv_p rfl) ?_
   refine wq_does (fun v K => does_nilCheck (congrArg Value.pointer hp12)) ?_
   refine wq_does (fun v K => does_fieldAddr fl_RC_hyps rfl (o' := 1) rfl) ?_
   refine wq_does (fun v K => does_load on_L_api_Hyp rfl (((S.ext K).blk 0).cell (RC.get_hyps _))) ?_
   refine wq_does (fun v K => does_mv_i q9_6) ?_
   obtain ⟨hi16, H⟩ := chk_ex H
   refine wq_does (fun v K => does_indexR sl_L_api_Hyp rfl rfl ((S.ext K).rdO 2) (inb_ex hi16).1 (inb_ex hi16).2) ?_
   refine wq_does (fun v K => does_fieldAddr fl_Hyp_name rfl (o' := _) rfl) ?_
   refine wq_does (fun v K => does_load on_string rfl ((((S.ext K).rdO 2).at (at_some Hyp.z (inb_ex hi16))).get (Hyp.get_name _))) ?_
   refine wq_does (fun v K => does_fieldAddr fl_Term_name rfl (o' := 1) rfl) ?_
   refine wq_does (fun v K => does_load on_string rfl (((S.ext K).blk 5).cell (Term.get_name _))) ?_
   refine wq_nil fun w17 K => ?_
   replace S := S.ext K
   clear K
   refine wd (does_eqs rfl rfl) ?_
   replace S := S.front 4
   replace S := S.front 4
   replace S := S.front 4
   replace S := S.front 4
   replace S := S.front 4
   replace S : St A N w w17 [oC a_0 g_0_1 a0, oB b2 T_Term (Term.C (⟨a1.kind, a1.name, a1.other, a1.form, s_1⟩ : Term))] [oDTerm s_1 a1.sub] := S.shut_oC hp12
   refine wl_nil ?_
   refine wc_if rfl (fun hc18 => ?_) (fun hc18 => ?_)
   ·replace H := if_t hc18 H
    refine wc_seq (wc_region ?_)
    refine wd (does_mv_p rfl) ?_
    obtain ⟨p19, s21, s22, s23, hp20, S⟩ := S.open_oC 0
    replace S : St A N w w17 [oB p19 T_RC (RC.C (⟨g_0_1, s21, s22, s23⟩ : RC)), oR g_0_1 a0.t, oS T_Hyp 2 Hyp.C s21 a0.hyps, oS T_int 1 IC s22 a0.way, oS T_int 1 IC s23 a0.wrong, oB b2 T_Term (Term.C (⟨a1.kind, a1.name, a1.other, a1.form, s_1⟩ : Term))] [oDTerm s_1 a1.sub] := S
    refine wd (does_nilCheck (congrArg Value.pointer hp20)) ?_
    refine wd (does_fieldAddr fl_RC_hyps rfl (o' := 1) rfl) ?_
    refine wd (does_load on_L_api_Hyp rfl ((S.blk 0).cell (RC.get_hyps _))) ?_
    refine wd (does_mv_i q9_6) ?_
    obtain ⟨hi24, H⟩ := chk_ex H
    refine wd (does_indexR sl_L_api_Hyp rfl rfl (S.rdO 2) (inb_ex hi24).1 (inb_ex hi24).2) ?_
    refine wd (does_fieldAddr fl_Hyp_form rfl (o' := _) rfl) ?_
    refine wd (does_load on_int rfl (((S.rdO 2).at (at_some Hyp.z (inb_ex hi24))).get (Hyp.get_form _))) ?_
    refine wd (does_as_i rfl) ?_
    refine wd (does_as_i rfl) ?_
    replace S := S.front 4
    replace S := S.front 4
    replace S := S.front 4
    replace S := S.front 4
    replace S := S.front 4
    replace S : St A N w w17 [oC a_0 g_0_1 a0, oB b2 T_Term (Term.C (⟨a1.kind, a1.name, a1.other, a1.form, s_1⟩ : Term))] [oDTerm s_1 a1.sub] := S.shut_oC hp20
    refine wl_nil ?_
    refine wc_ret ?_
    refine ⟨_, (rets2 (retOne_tmp rfl) (retOne_tmp rfl)), ?_⟩
    replace S : St A N w w17 [oC a_0 g_0_1 a0] [] := S.arr [0] []
    obtain rfl := Option.some.inj H
    obtain rfl := e9
    obtain rfl := aft_r Ho9
    exact ⟨rfl, S⟩
   replace H := if_f hc18 H
   refine wc_skip ?_
   refine wc_region ?_
   refine wd (does_mv_i q9_6) ?_
   refine wd (does_sub rfl rfl) ?_
   refine wd (does_as_i rfl) ?_
   refine wl_nil ?_
   obtain rfl := Option.some.inj H
   exact ⟨rfl, (((((((((((((((((Dif.self _ _ _).upd rfl _).upd rfl _).upd rfl _).upd rfl _).upd rfl _).upd rfl _).upd rfl _).upd rfl _).upd rfl _).upd rfl _).upd rfl _).upd rfl _).upd rfl _).upd rfl _).upd rfl _).upd rfl _), (m9, IntKind.i64.wrap (x9_0 - 1)), ⟨e9, rfl, S⟩, by dsimp only; omega⟩
  rintro g25 u26 ⟨s9, rfl, p9_6, S⟩
  have H := Ho9
  dsimp only [aft] at H
  refine wc_seq (wc_region ?_)
  refine wd (does_mv_p rfl) ?_
  obtain ⟨r27, er27, H⟩ := bind_ex H
  obtain ⟨B29, MB29, SB29, back⟩ := S.calln 1 ((.nil))
  refine wl_call (does_call ca_ref13_C_refuse) (by decide) (ref13_C_refuse_st SB29 er27) ?_
  rintro _ w28 ⟨rfl, S2⟩
  replace S : St A N w w28 [oC a_0 g_0_1 r27.1, oB b2 T_Term (Term.C (⟨a1.kind, a1.name, a1.other, a1.form, s_1⟩ : Term))] [oDTerm s_1 a1.sub] := back _ _ _ _ S2 rfl
  clear back S2 SB29
  refine wd (does_extract rfl rfl) ?_
  refine wd (does_extract rfl rfl) ?_
  refine wd (does_as_i rfl) ?_
  refine wd (does_as_i rfl) ?_
  refine wl_nil ?_
  refine wc_ret ?_
  refine ⟨_, (rets2 (retOne_tmp rfl) (retOne_tmp rfl)), ?_⟩
  replace S : St A N w w28 [oC a_0 g_0_1 r27.1] [] := S.arr [0] []
  obtain rfl := Option.some.inj H
  exact ⟨rfl, S⟩
 replace H := if_f hc3 H
 refine wc_seq (wc_region ?_)
 refine wd (does_eq rfl rfl) ?_
 refine wd (does_as_b rfl) ?_
 refine wl_nil ?_
 refine wc_if rfl (fun hc30 => ?_) (fun hc30 => ?_)
 ·replace H := if_t hc30 H
  refine wc_seq (wc_region ?_)
  refine wd (does_mv_p rfl) ?_
  refine wd (does_load_agg ag_Term rfl ((S.blk 0).all _ (Term.len _)) (Term.len _)) ?_
  replace S : St A N w w1 [oB b2 T_Term (Term.C (⟨a1.kind, a1.name, a1.other, a1.form, s_1⟩ : Term)), oC a_0 g_0_1 a0] [fS 2 Hyp.C SlV.nil ([]), oDTerm s_1 a1.sub] := S.nilZ 2 Hyp.C
  obtain ⟨r31, er31, H⟩ := bind_ex H
  replace S : St A N w w1 [oC a_0 g_0_1 a0, oB b2 T_Term (Term.C (⟨a1.kind, a1.name, a1.other, a1.form, s_1⟩ : Term))] [fS 2 Hyp.C SlV.nil ([]), oDTerm s_1 a1.sub] := S.front 1
  obtain ⟨B33, MB33, SB33, back⟩ := S.calln 1 ((.z 1 rfl (.z 0 rfl .nil)))
  refine wl_call (does_callg ca_ref13_C_told (cons2 rfl (cons2 rfl (cons2 rfl (cons2 SlV.nil_eq rfl))))) (by decide) (ref13_C_told_gst hrec_ref13_C_Told (a1 := a1) SB33 er31) ?_
  rintro _ w32 ⟨rfl, S2⟩
  replace S : St A N w w32 [oC a_0 g_0_1 r31.1, oB b2 T_Term (Term.C (⟨a1.kind, a1.name, a1.other, a1.form, s_1⟩ : Term))] [fS 2 Hyp.C SlV.nil ([]), oDTerm s_1 a1.sub] := back _ _ _ _ S2 rfl
  clear back S2 SB33
  refine wd (does_mv_t rfl) ?_
  refine wd (does_extract rfl rfl) ?_
  refine wd (does_extract rfl rfl) ?_
  refine wd (does_as_i rfl) ?_
  refine wd (does_as_i rfl) ?_
  refine wl_nil ?_
  refine wc_seq (wc_seq (wc_region ?_))
  refine wd (does_mv_i rfl) ?_
  refine wd (does_ne rfl rfl) ?_
  refine wl_nil ?_
  refine wc_if rfl (fun hc34 => ?_) (fun hc34 => ?_)
  ·replace H := if_t hc34 H
   refine wc_seq (wc_region ?_)
   refine wd (does_mv_i rfl) ?_
   refine wd (does_as_i rfl) ?_
   refine wd (does_as_i rfl) ?_
   refine wl_nil ?_
   refine wc_ret ?_
   refine ⟨_, (rets2 (retOne_tmp rfl) (retOne_tmp rfl)), ?_⟩
   replace S : St A N w w32 [oC a_0 g_0_1 r31.1] [] := S.arr [0] []
   obtain rfl := Option.some.inj H
   exact ⟨rfl, S⟩
  replace H := if_f hc34 H
  refine wc_skip ?_
  refine wc_seq (wc_seq (wc_region ?_))
  refine wd (does_mv_p rfl) ?_
  refine wd (does_mv_i rfl) ?_
  obtain ⟨r35, er35, H⟩ := bind_ex H
  obtain ⟨B37, MB37, SB37, back⟩ := S.calln 0 ((.o 0 rfl .nil))
  refine wl_call (does_call ca_ref13_C_node) (by decide) (ref13_C_node_st SB37 er35) ?_
  rintro _ w36 ⟨rfl, S2⟩
  replace S : St A N w w36 [oC a_0 g_0_1 r31.1, oB b2 T_Term (Term.C (⟨a1.kind, a1.name, a1.other, a1.form, s_1⟩ : Term))] [fS 2 Hyp.C SlV.nil ([]), oDTerm s_1 a1.sub] := back _ _ _ _ S2 rfl
  clear back S2 SB37
  refine wd (does_field fv_Nd_kind on_api_Kind rfl (Nd.get_kind _)) ?_
  refine wd (does_ne rfl rfl) ?_
  refine wl_nil ?_
  refine wc_if rfl (fun hc38 => ?_) (fun hc38 => ?_)
  ·replace H := if_t hc38 H
   refine wc_seq (wc_region ?_)
   refine wd (does_mv_p rfl) ?_
   obtain ⟨r39, er39, H⟩ := bind_ex H
   obtain ⟨B41, MB41, SB41, back⟩ := S.calln 1 ((.nil))
   refine wl_call (does_call ca_ref13_C_refuse) (by decide) (ref13_C_refuse_st SB41 er39) ?_
   rintro _ w40 ⟨rfl, S2⟩
   replace S : St A N w w40 [oC a_0 g_0_1 r39.1, oB b2 T_Term (Term.C (⟨a1.kind, a1.name, a1.other, a1.form, s_1⟩ : Term))] [fS 2 Hyp.C SlV.nil ([]), oDTerm s_1 a1.sub] := back _ _ _ _ S2 rfl
   clear back S2 SB41
   refine wd (does_extract rfl rfl) ?_
   refine wd (does_extract rfl rfl) ?_
   refine wd (does_as_i rfl) ?_
   refine wd (does_as_i rfl) ?_
   refine wl_nil ?_
   refine wc_ret ?_
   refine ⟨_, (rets2 (retOne_tmp rfl) (retOne_tmp rfl)), ?_⟩
   replace S : St A N w w40 [oC a_0 g_0_1 r39.1] [] := S.arr [0] []
   obtain rfl := Option.some.inj H
   exact ⟨rfl, S⟩
  replace H := if_f hc38 H
  refine wc_skip ?_
  refine wc_seq ?_
  refine wc_quiet 6 (Ext w36) hmix (by kernel_rfl) (by kernel_rfl) (Ext.drawn _) ?_
  refine wq_does (fun v K => does_mv_p rfl) ?_
  refine wq_does (fun v K => does_load_agg ag_Term rfl (((S.ext K).blk 1).all _ (Term.len _)) (Term.len _)) ?_
  refine wq_does (fun v K => does_mv_p rfl) ?_
  refine wq_does (fun v K => does_mv_i rfl) ?_
  obtain ⟨r42, er42, H⟩ := bind_ex H
  refine wq_call (fun v => does_call ca_ref13_C_node) (fun v K => (have ⟨M, SS⟩ := (S.ext K).lend ((.o 0 rfl .nil)); quiet (ref13_C_node_st SS er42) (fun v w' h => ⟨h.1, _, _, h.2⟩))) (fun v v' K h => K.thenExt h) ?_
  refine wq_does (fun v K => does_field fv_Nd_l on_int rfl (Nd.get_l _)) ?_
  refine wq_nil fun w43 K => ?_
  replace S := S.ext K
  clear K
  replace S : St A N w w43 [oC a_0 g_0_1 r31.1, oB b2 T_Term (Term.C (⟨a1.kind, a1.name, a1.other, a1.form, s_1⟩ : Term))] [fS 2 Hyp.C SlV.nil ([]), fS 2 Hyp.C SlV.nil ([]), oDTerm s_1 a1.sub] := S.nilZ 2 Hyp.C
  obtain ⟨r44, er44, H⟩ := bind_ex H
  obtain ⟨B46, MB46, SB46, back⟩ := S.calln 1 ((.z 2 rfl (.z 0 rfl .nil)))
  refine wl_call (does_callg ca_ref13_C_checked (cons2 rfl (cons2 rfl (cons2 rfl (cons2 SlV.nil_eq (cons2 rfl rfl)))))) (by decide) (ref13_C_checked_gst hrec_ref13_C_Checked (a1 := a1) SB46 er44) ?_
  rintro _ w45 ⟨rfl, S2⟩
  replace S : St A N w w45 [oC a_0 g_0_1 r44.1, oB b2 T_Term (Term.C (⟨a1.kind, a1.name, a1.other, a1.form, s_1⟩ : Term))] [fS 2 Hyp.C SlV.nil ([]), fS 2 Hyp.C SlV.nil ([]), oDTerm s_1 a1.sub] := back _ _ _ _ S2 rfl
  clear back S2 SB46
  refine wd (does_as_i rfl) ?_
  refine wl_nil ?_
  refine wc_seq (wc_seq (wc_region ?_))
  refine wd (does_mv_i rfl) ?_
  refine wd (does_ne rfl rfl) ?_
  refine wl_nil ?_
  refine wc_if rfl (fun hc47 => ?_) (fun hc47 => ?_)
  ·replace H := if_t hc47 H
   refine wc_seq (wc_region ?_)
   refine wd (does_mv_i rfl) ?_
   refine wd (does_as_i rfl) ?_
   refine wd (does_as_i rfl) ?_
   refine wl_nil ?_
   refine wc_ret ?_
   refine ⟨_, (rets2 (retOne_tmp rfl) (retOne_tmp rfl)), ?_⟩
   replace S : St A N w w45 [oC a_0 g_0_1 r44.1] [] := S.arr [0] []
   obtain rfl := Option.some.inj H
   exact ⟨rfl, S⟩
  replace H := if_f hc47 H
  refine wc_skip ?_
  refine wc_seq (wc_region ?_)
  refine wd (does_mv_p rfl) ?_
  refine wd (does_mv_i rfl) ?_
  obtain ⟨r48, er48, H⟩ := bind_ex H
  obtain ⟨B50, MB50, SB50, back⟩ := S.calln 0 ((.o 0 rfl .nil))
  refine wl_call (does_call ca_ref13_C_node) (by decide) (ref13_C_node_st SB50 er48) ?_
  rintro _ w49 ⟨rfl, S2⟩
  replace S : St A N w w49 [oC a_0 g_0_1 r44.1, oB b2 T_Term (Term.C (⟨a1.kind, a1.name, a1.other, a1.form, s_1⟩ : Term))] [fS 2 Hyp.C SlV.nil ([]), fS 2 Hyp.C SlV.nil ([]), oDTerm s_1 a1.sub] := back _ _ _ _ S2 rfl
  clear back S2 SB50
  refine wd (does_field fv_Nd_r on_int rfl (Nd.get_r _)) ?_
  refine wd (does_as_i rfl) ?_
  refine wd (does_as_i rfl) ?_
  refine wl_nil ?_
  refine wc_ret ?_
  refine ⟨_, (rets2 (retOne_tmp rfl) (retOne_tmp rfl)), ?_⟩
  replace S : St A N w w49 [oC a_0 g_0_1 r44.1] [] := S.arr [0] []
  obtain rfl := Option.some.inj H
  exact ⟨rfl, S⟩
 replace H := if_f hc30 H
 refine wc_seq (wc_seq (wc_region ?_))
 refine wd (does_eq rfl rfl) ?_
 refine wd (does_as_b rfl) ?_
 refine wl_nil ?_
 obtain ⟨o51, e51, Ho51⟩ := bind_ex H
 replace H := e51; clear e51
 refine wc_cutq [89, 91] (fun fr W => fr 89 = .bool o51 ∧ St A N w W [oB b2 T_Term (Term.C (⟨a1.kind, a1.name, a1.other, a1.form, s_1⟩ : Term)), oC a_0 g_0_1 a0] [oDTerm s_1 a1.sub]) ?_ ?_
 ·refine wc_if rfl (fun hc52 => ?_) (fun hc52 => ?_)
  ·replace H := if_t hc52 H
   refine wc_skip ?_
   obtain rfl := Option.some.inj H
   exact ⟨rfl, (Dif.refl _ _), rfl, S⟩
  ·replace H := if_f hc52 H
   refine wc_region ?_
   refine wd (does_eq rfl rfl) ?_
   refine wd (does_as_b rfl) ?_
   refine wl_nil ?_
   obtain rfl := Option.some.inj H
   exact ⟨rfl, (((Dif.refl _ _).upd rfl _).upd rfl _), rfl, S⟩
 rintro g53 u54 ⟨p51_89, S⟩
 have H := Ho51
 refine wc_if p51_89 (fun hc55 => ?_) (fun hc55 => ?_)
 ·replace H := if_t hc55 H
  refine wc_seq (wc_region ?_)
  refine wd (does_mv_p rfl) ?_
  refine wd (does_load_agg ag_Term rfl ((S.blk 0).all _ (Term.len _)) (Term.len _)) ?_
  replace S : St A N w u54 [oB b2 T_Term (Term.C (⟨a1.kind, a1.name, a1.other, a1.form, s_1⟩ : Term)), oC a_0 g_0_1 a0] [fS 2 Hyp.C SlV.nil ([]), oDTerm s_1 a1.sub] := S.nilZ 2 Hyp.C
  obtain ⟨r56, er56, H⟩ := bind_ex H
  replace S : St A N w u54 [oC a_0 g_0_1 a0, oB b2 T_Term (Term.C (⟨a1.kind, a1.name, a1.other, a1.form, s_1⟩ : Term))] [fS 2 Hyp.C SlV.nil ([]), oDTerm s_1 a1.sub] := S.front 1
  obtain ⟨B58, MB58, SB58, back⟩ := S.calln 1 ((.z 1 rfl (.z 0 rfl .nil)))
  refine wl_call (does_callg ca_ref13_C_told (cons2 rfl (cons2 rfl (cons2 rfl (cons2 SlV.nil_eq rfl))))) (by decide) (ref13_C_told_gst hrec_ref13_C_Told (a1 := a1) SB58 er56) ?_
  rintro _ w57 ⟨rfl, S2⟩
  replace S : St A N w w57 [oC a_0 g_0_1 r56.1, oB b2 T_Term (Term.C (⟨a1.kind, a1.name, a1.other, a1.form, s_1⟩ : Term))] [fS 2 Hyp.C SlV.nil ([]), oDTerm s_1 a1.sub] := back _ _ _ _ S2 rfl
  clear back S2 SB58
  refine wd (does_mv_t rfl) ?_
  refine wd (does_extract rfl rfl) ?_
  refine wd (does_extract rfl rfl) ?_
  refine wd (does_as_i rfl) ?_
  refine wd (does_as_i rfl) ?_
  refine wl_nil ?_
  refine wc_seq (wc_seq (wc_region ?_))
  refine wd (does_mv_i rfl) ?_
  refine wd (does_ne rfl rfl) ?_
  refine wl_nil ?_
  refine wc_if rfl (fun hc59 => ?_) (fun hc59 => ?_)
  ·replace H := if_t hc59 H
   refine wc_seq (wc_region ?_)
   refine wd (does_mv_i rfl) ?_
   refine wd (does_as_i rfl) ?_
   refine wd (does_as_i rfl) ?_
   refine wl_nil ?_
   refine wc_ret ?_
   refine ⟨_, (rets2 (retOne_tmp rfl) (retOne_tmp rfl)), ?_⟩
   replace S : St A N w w57 [oC a_0 g_0_1 r56.1] [] := S.arr [0] []
   obtain rfl := Option.some.inj H
   exact ⟨rfl, S⟩
  replace H := if_f hc59 H
  refine wc_skip ?_
  refine wc_seq (wc_seq (wc_region ?_))
  refine wd (does_mv_p rfl) ?_
  refine wd (does_mv_i rfl) ?_
  obtain ⟨r60, er60, H⟩ := bind_ex H
  obtain ⟨B62, MB62, SB62, back⟩ := S.calln 0 ((.o 0 rfl .nil))
  refine wl_call (does_call ca_ref13_C_node) (by decide) (ref13_C_node_st SB62 er60) ?_
  rintro _ w61 ⟨rfl, S2⟩
  replace S : St A N w w61 [oC a_0 g_0_1 r56.1, oB b2 T_Term (Term.C (⟨a1.kind, a1.name, a1.other, a1.form, s_1⟩ : Term))] [fS 2 Hyp.C SlV.nil ([]), oDTerm s_1 a1.sub] := back _ _ _ _ S2 rfl
  clear back S2 SB62
  refine wd (does_field fv_Nd_kind on_api_Kind rfl (Nd.get_kind _)) ?_
  refine wd (does_ne rfl rfl) ?_
  refine wl_nil ?_
  refine wc_if rfl (fun hc63 => ?_) (fun hc63 => ?_)
  ·replace H := if_t hc63 H
   refine wc_seq (wc_region ?_)
   refine wd (does_mv_p rfl) ?_
   obtain ⟨r64, er64, H⟩ := bind_ex H
   obtain ⟨B66, MB66, SB66, back⟩ := S.calln 1 ((.nil))
   refine wl_call (does_call ca_ref13_C_refuse) (by decide) (ref13_C_refuse_st SB66 er64) ?_
   rintro _ w65 ⟨rfl, S2⟩
   replace S : St A N w w65 [oC a_0 g_0_1 r64.1, oB b2 T_Term (Term.C (⟨a1.kind, a1.name, a1.other, a1.form, s_1⟩ : Term))] [fS 2 Hyp.C SlV.nil ([]), oDTerm s_1 a1.sub] := back _ _ _ _ S2 rfl
   clear back S2 SB66
   refine wd (does_extract rfl rfl) ?_
   refine wd (does_extract rfl rfl) ?_
   refine wd (does_as_i rfl) ?_
   refine wd (does_as_i rfl) ?_
   refine wl_nil ?_
   refine wc_ret ?_
   refine ⟨_, (rets2 (retOne_tmp rfl) (retOne_tmp rfl)), ?_⟩
   replace S : St A N w w65 [oC a_0 g_0_1 r64.1] [] := S.arr [0] []
   obtain rfl := Option.some.inj H
   exact ⟨rfl, S⟩
  replace H := if_f hc63 H
  refine wc_skip ?_
  refine wc_seq (wc_seq (wc_region ?_))
  refine wd (does_fieldAddr fl_Term_kind rfl (o' := 0) rfl) ?_
  refine wd (does_load on_api_TermKind rfl ((S.blk 1).cell (Term.get_kind _))) ?_
  refine wd (does_eq rfl rfl) ?_
  refine wl_nil ?_
  refine wc_if rfl (fun hc67 => ?_) (fun hc67 => ?_)
  ·replace H := if_t hc67 H
   refine wc_seq (wc_region ?_)
   refine wd (does_mv_p rfl) ?_
   refine wd (does_mv_i rfl) ?_
   obtain ⟨r68, er68, H⟩ := bind_ex H
   obtain ⟨B70, MB70, SB70, back⟩ := S.calln 0 ((.o 0 rfl .nil))
   refine wl_call (does_call ca_ref13_C_node) (by decide) (ref13_C_node_st SB70 er68) ?_
   rintro _ w69 ⟨rfl, S2⟩
   replace S : St A N w w69 [oC a_0 g_0_1 r56.1, oB b2 T_Term (Term.C (⟨a1.kind, a1.name, a1.other, a1.form, s_1⟩ : Term))] [fS 2 Hyp.C SlV.nil ([]), oDTerm s_1 a1.sub] := back _ _ _ _ S2 rfl
   clear back S2 SB70
   refine wd (does_field fv_Nd_l on_int rfl (Nd.get_l _)) ?_
   refine wd (does_as_i rfl) ?_
   refine wd (does_as_i rfl) ?_
   refine wl_nil ?_
   refine wc_ret ?_
   refine ⟨_, (rets2 (retOne_tmp rfl) (retOne_tmp rfl)), ?_⟩
   replace S : St A N w w69 [oC a_0 g_0_1 r56.1] [] := S.arr [0] []
   obtain rfl := Option.some.inj H
   exact ⟨rfl, S⟩
  replace H := if_f hc67 H
  refine wc_skip ?_
  refine wc_seq (wc_region ?_)
  refine wd (does_mv_p rfl) ?_
  refine wd (does_mv_i rfl) ?_
  obtain ⟨r71, er71, H⟩ := bind_ex H
  obtain ⟨B73, MB73, SB73, back⟩ := S.calln 0 ((.o 0 rfl .nil))
  refine wl_call (does_call ca_ref13_C_node) (by decide) (ref13_C_node_st SB73 er71) ?_
  rintro _ w72 ⟨rfl, S2⟩
  replace S : St A N w w72 [oC a_0 g_0_1 r56.1, oB b2 T_Term (Term.C (⟨a1.kind, a1.name, a1.other, a1.form, s_1⟩ : Term))] [fS 2 Hyp.C SlV.nil ([]), oDTerm s_1 a1.sub] := back _ _ _ _ S2 rfl
  clear back S2 SB73
  refine wd (does_field fv_Nd_r on_int rfl (Nd.get_r _)) ?_
  refine wd (does_as_i rfl) ?_
  refine wd (does_as_i rfl) ?_
  refine wl_nil ?_
  refine wc_ret ?_
  refine ⟨_, (rets2 (retOne_tmp rfl) (retOne_tmp rfl)), ?_⟩
  replace S : St A N w w72 [oC a_0 g_0_1 r56.1] [] := S.arr [0] []
  obtain rfl := Option.some.inj H
  exact ⟨rfl, S⟩
 replace H := if_f hc55 H
 refine wc_seq (wc_region ?_)
 refine wd (does_eq rfl rfl) ?_
 refine wd (does_as_b rfl) ?_
 refine wl_nil ?_
 refine wc_if rfl (fun hc74 => ?_) (fun hc74 => ?_)
 ·replace H := if_t hc74 H
  refine wc_seq ?_
  refine wc_seq ?_
  obtain ⟨p75, s77, s78, s79, hp76, S⟩ := S.open_oC 1
  replace S : St A N w u54 [oB p75 T_RC (RC.C (⟨g_0_1, s77, s78, s79⟩ : RC)), oR g_0_1 a0.t, oS T_Hyp 2 Hyp.C s77 a0.hyps, oS T_int 1 IC s78 a0.way, oS T_int 1 IC s79 a0.wrong, oB b2 T_Term (Term.C (⟨a1.kind, a1.name, a1.other, a1.form, s_1⟩ : Term))] [oDTerm s_1 a1.sub] := S
  refine wc_quiet 6 (Ext u54) hmix (by kernel_rfl) (by kernel_rfl) (Ext.drawn _) ?_
  refine wq_does (fun v K => does_mv_p rfl) ?_
  refine wq_does (fun v K => does_nilCheck (congrArg Value.pointer hp76)) ?_
  refine wq_does (fun v K => does_fieldAddr fl_RC_t rfl (o' := 0) rfl) ?_
  refine wq_does (fun v K => does_load on_Put rfl (((S.ext K).blk 0).cell (RC.get_t _))) ?_
  refine wq_does (fun v K => does_fieldAddr fl_Term_form rfl (o' := 3) rfl) ?_
  refine wq_does (fun v K => does_load on_int rfl (((S.ext K).blk 5).cell (Term.get_form _))) ?_
  refine wq_nil fun w80 K => ?_
  replace S := S.ext K
  clear K
  obtain ⟨r81, er81, H⟩ := bind_ex H
  obtain ⟨B83, MB83, SB83, back⟩ := S.calln 0 ((.o 1 rfl .nil))
  refine wl_call (does_call ca_ref03_T_Has) (by decide) (ref03_T_Has_st SB83 er81) ?_
  rintro _ w82 ⟨rfl, S2⟩
  replace S : St A N w w82 [oB p75 T_RC (RC.C (⟨g_0_1, s77, s78, s79⟩ : RC)), oR g_0_1 a0.t, oS T_Hyp 2 Hyp.C s77 a0.hyps, oS T_int 1 IC s78 a0.way, oS T_int 1 IC s79 a0.wrong, oB b2 T_Term (Term.C (⟨a1.kind, a1.name, a1.other, a1.form, s_1⟩ : Term))] [oDTerm s_1 a1.sub] := back _ _ _ _ S2 rfl
  clear back S2 SB83
  refine wd (does_not rfl) ?_
  replace S := S.front 4
  replace S := S.front 4
  replace S := S.front 4
  replace S := S.front 4
  replace S := S.front 4
  replace S : St A N w w82 [oC a_0 g_0_1 a0, oB b2 T_Term (Term.C (⟨a1.kind, a1.name, a1.other, a1.form, s_1⟩ : Term))] [oDTerm s_1 a1.sub] := S.shut_oC hp76
  refine wl_nil ?_
  refine wc_if rfl (fun hc84 => ?_) (fun hc84 => ?_)
  ·replace H := if_t hc84 H
   refine wc_seq (wc_region ?_)
   refine wd (does_mv_p rfl) ?_
   obtain ⟨r85, er85, H⟩ := bind_ex H
   obtain ⟨B87, MB87, SB87, back⟩ := S.calln 1 ((.nil))
   refine wl_call (does_call ca_ref13_C_refuse) (by decide) (ref13_C_refuse_st SB87 er85) ?_
   rintro _ w86 ⟨rfl, S2⟩
   replace S : St A N w w86 [oC a_0 g_0_1 r85.1, oB b2 T_Term (Term.C (⟨a1.kind, a1.name, a1.other, a1.form, s_1⟩ : Term))] [oDTerm s_1 a1.sub] := back _ _ _ _ S2 rfl
   clear back S2 SB87
   refine wd (does_extract rfl rfl) ?_
   refine wd (does_extract rfl rfl) ?_
   refine wd (does_as_i rfl) ?_
   refine wd (does_as_i rfl) ?_
   refine wl_nil ?_
   refine wc_ret ?_
   refine ⟨_, (rets2 (retOne_tmp rfl) (retOne_tmp rfl)), ?_⟩
   replace S : St A N w w86 [oC a_0 g_0_1 r85.1] [] := S.arr [0] []
   obtain rfl := Option.some.inj H
   exact ⟨rfl, S⟩
  replace H := if_f hc84 H
  refine wc_skip ?_
  refine wc_seq (wc_region ?_)
  refine wd (does_mv_p rfl) ?_
  refine wd (does_load_agg ag_Term rfl ((S.blk 1).all _ (Term.len _)) (Term.len _)) ?_
  refine wd (does_fieldAddr fl_Term_form rfl (o' := 3) rfl) ?_
  refine wd (does_load on_int rfl ((S.blk 1).cell (Term.get_form _))) ?_
  replace S : St A N w w82 [oC a_0 g_0_1 a0, oB b2 T_Term (Term.C (⟨a1.kind, a1.name, a1.other, a1.form, s_1⟩ : Term))] [fS 2 Hyp.C SlV.nil ([]), oDTerm s_1 a1.sub] := S.nilZ 2 Hyp.C
  obtain ⟨r88, er88, H⟩ := bind_ex H
  obtain ⟨B90, MB90, SB90, back⟩ := S.calln 1 ((.z 1 rfl (.z 0 rfl .nil)))
  refine wl_call (does_callg ca_ref13_C_checked (cons2 rfl (cons2 rfl (cons2 rfl (cons2 SlV.nil_eq (cons2 rfl rfl)))))) (by decide) (ref13_C_checked_gst hrec_ref13_C_Checked (a1 := a1) SB90 er88) ?_
  rintro _ w89 ⟨rfl, S2⟩
  replace S : St A N w w89 [oC a_0 g_0_1 r88.1, oB b2 T_Term (Term.C (⟨a1.kind, a1.name, a1.other, a1.form, s_1⟩ : Term))] [fS 2 Hyp.C SlV.nil ([]), oDTerm s_1 a1.sub] := back _ _ _ _ S2 rfl
  clear back S2 SB90
  refine wd (does_as_i rfl) ?_
  refine wl_nil ?_
  refine wc_seq (wc_seq (wc_region ?_))
  refine wd (does_mv_i rfl) ?_
  refine wd (does_ne rfl rfl) ?_
  refine wl_nil ?_
  refine wc_if rfl (fun hc91 => ?_) (fun hc91 => ?_)
  ·replace H := if_t hc91 H
   refine wc_seq (wc_region ?_)
   refine wd (does_mv_i rfl) ?_
   refine wd (does_as_i rfl) ?_
   refine wd (does_as_i rfl) ?_
   refine wl_nil ?_
   refine wc_ret ?_
   refine ⟨_, (rets2 (retOne_tmp rfl) (retOne_tmp rfl)), ?_⟩
   replace S : St A N w w89 [oC a_0 g_0_1 r88.1] [] := S.arr [0] []
   obtain rfl := Option.some.inj H
   exact ⟨rfl, S⟩
  replace H := if_f hc91 H
  refine wc_skip ?_
  refine wc_seq (wc_region ?_)
  refine wd (does_fieldAddr fl_Term_form rfl (o' := 3) rfl) ?_
  refine wd (does_load on_int rfl ((S.blk 1).cell (Term.get_form _))) ?_
  refine wd (does_as_i rfl) ?_
  refine wd (does_as_i rfl) ?_
  refine wl_nil ?_
  refine wc_ret ?_
  refine ⟨_, (rets2 (retOne_tmp rfl) (retOne_tmp rfl)), ?_⟩
  replace S : St A N w w89 [oC a_0 g_0_1 r88.1] [] := S.arr [0] []
  obtain rfl := Option.some.inj H
  exact ⟨rfl, S⟩
 replace H := if_f hc74 H
 refine wc_seq (wc_region ?_)
 refine wd (does_eq rfl rfl) ?_
 refine wd (does_as_b rfl) ?_
 refine wl_nil ?_
 refine wc_if rfl (fun hc92 => ?_) (fun hc92 => ?_)
 ·replace H := if_t hc92 H
  refine wc_seq (wc_region ?_)
  refine wd (does_mv_p rfl) ?_
  refine wd (does_load_agg ag_Term rfl ((S.blk 0).all _ (Term.len _)) (Term.len _)) ?_
  replace S : St A N w u54 [oB b2 T_Term (Term.C (⟨a1.kind, a1.name, a1.other, a1.form, s_1⟩ : Term)), oC a_0 g_0_1 a0] [fS 2 Hyp.C SlV.nil ([]), oDTerm s_1 a1.sub] := S.nilZ 2 Hyp.C
  obtain ⟨r93, er93, H⟩ := bind_ex H
  replace S : St A N w u54 [oC a_0 g_0_1 a0, oB b2 T_Term (Term.C (⟨a1.kind, a1.name, a1.other, a1.form, s_1⟩ : Term))] [fS 2 Hyp.C SlV.nil ([]), oDTerm s_1 a1.sub] := S.front 1
  obtain ⟨B95, MB95, SB95, back⟩ := S.calln 1 ((.z 1 rfl (.z 0 rfl .nil)))
  refine wl_call (does_callg ca_ref13_C_told (cons2 rfl (cons2 rfl (cons2 rfl (cons2 SlV.nil_eq rfl))))) (by decide) (ref13_C_told_gst hrec_ref13_C_Told (a1 := a1) SB95 er93) ?_
  rintro _ w94 ⟨rfl, S2⟩
  replace S : St A N w w94 [oC a_0 g_0_1 r93.1, oB b2 T_Term (Term.C (⟨a1.kind, a1.name, a1.other, a1.form, s_1⟩ : Term))] [fS 2 Hyp.C SlV.nil ([]), oDTerm s_1 a1.sub] := back _ _ _ _ S2 rfl
  clear back S2 SB95
  refine wd (does_mv_t rfl) ?_
  refine wd (does_extract rfl rfl) ?_
  refine wd (does_extract rfl rfl) ?_
  refine wd (does_as_i rfl) ?_
  refine wd (does_as_i rfl) ?_
  refine wl_nil ?_
  refine wc_seq (wc_seq (wc_region ?_))
  refine wd (does_mv_i rfl) ?_
  refine wd (does_ne rfl rfl) ?_
  refine wl_nil ?_
  refine wc_if rfl (fun hc96 => ?_) (fun hc96 => ?_)
  ·replace H := if_t hc96 H
   refine wc_seq (wc_region ?_)
   refine wd (does_mv_i rfl) ?_
   refine wd (does_as_i rfl) ?_
   refine wd (does_as_i rfl) ?_
   refine wl_nil ?_
   refine wc_ret ?_
   refine ⟨_, (rets2 (retOne_tmp rfl) (retOne_tmp rfl)), ?_⟩
   replace S : St A N w w94 [oC a_0 g_0_1 r93.1] [] := S.arr [0] []
   obtain rfl := Option.some.inj H
   exact ⟨rfl, S⟩
  replace H := if_f hc96 H
  refine wc_skip ?_
  refine wc_seq ?_
  refine wc_ws hmix fun w99 K => ?_
  replace S := S.ext K
  clear K
  obtain ⟨r100, er100, H⟩ := bind_ex H
  refine ws_semi 0 6 [5] (by kernel_rfl) (by decide) (by kernel_rfl)
   (V := fun i v u => match i with
   | 5 => ∃ sl, v = SlV.v sl ∧ (Rd u 2 sl (r100.map Hyp.C) ∧ r100.length ≤ 140737488355328) ∧ (∀ j, sl.fp j → w99.heap.size ≤ j)
   | _ => True) ?_ ?_
  ·intro i v u u' hi hx hv
   match i, hv with
   | 5, ⟨b, e1, hr, hl⟩ => exact ⟨b, e1, ⟨hr.1.ext hx, hr.2⟩, hl⟩
   | 0, _ => exact trivial
   | 1, _ => exact trivial
   | 2, _ => exact trivial
   | 3, _ => exact trivial
   | 4, _ => exact trivial
   | _ + 6, _ => exact trivial
  refine wm_does (fun v K => does_mv_p rfl) rfl ?_
  refine wm_does (fun v K => does_load_agg ag_Term rfl (((S.ext K).blk 1).all _ (Term.len _)) (Term.len _)) rfl ?_
  refine wm_does (fun v K => does_fieldAddr fl_Term_name rfl (o' := 1) rfl) rfl ?_
  refine wm_does (fun v K => does_load on_string rfl (((S.ext K).blk 1).cell (Term.get_name _))) rfl ?_
  refine wm_does (fun v K => does_mv_i rfl) rfl ?_
  refine wm_newcall (fun g v K G => (have ⟨M, SS⟩ := (S.ext K).lend ((.nil)); ⟨_, _, does_callg ca_ref13_one (cons2 rfl (cons2 rfl rfl)), newc (ref13_one_st SS er100) fun _ _ ⟨s', hv, h⟩ => ⟨h.frame, s', hv, h.newS.1, fun i hi => by have := h.newS.2 i hi; have := K.size; omega⟩⟩)) rfl ?_
  refine wm_nil fun g w102 K hV => ?_
  obtain ⟨s101, hv1035, hr5, hf5⟩ := hV 5 rfl (by decide)
  replace S : St A N w w102 [oC a_0 g_0_1 r93.1, oB b2 T_Term (Term.C (⟨a1.kind, a1.name, a1.other, a1.form, s_1⟩ : Term))] [fS 2 Hyp.C s101 r100, fS 2 Hyp.C SlV.nil ([]), oDTerm s_1 a1.sub] := S.addZs K (.s hr5.1 hr5.2 hf5 .nil)
  clear K hV
  refine ws_chain 6 7 (by kernel_rfl) (by decide) ?_
  obtain ⟨r104, er104, H⟩ := bind_ex H
  obtain ⟨B106, MB106, SB106, back⟩ := S.calln 1 ((.z 2 rfl (.z 0 rfl .nil)))
  refine wl_call (does_callg ca_ref13_C_told (cons2 rfl (cons2 rfl (cons2 rfl (cons2 hv1035 rfl))))) (by decide) (ref13_C_told_gst hrec_ref13_C_Told (a1 := a1) SB106 er104) ?_
  rintro _ w105 ⟨rfl, S2⟩
  replace S : St A N w w105 [oC a_0 g_0_1 r104.1, oB b2 T_Term (Term.C (⟨a1.kind, a1.name, a1.other, a1.form, s_1⟩ : Term))] [fS 2 Hyp.C s101 r100, fS 2 Hyp.C SlV.nil ([]), oDTerm s_1 a1.sub] := back _ _ _ _ S2 rfl
  clear back S2 SB106
  refine wl_nil ⟨rfl, ?_⟩
  refine ws_semi 7 9 [] (by kernel_rfl) (by decide) (by kernel_rfl)
   (V := fun i v u => match i with
   | _ => True) ?_ ?_
  ·intro i v u u' hi hx hv
   match i, hv with
   | _, _ => exact trivial
  refine wm_does (fun v K => does_extract rfl rfl) rfl ?_
  refine wm_does (fun v K => does_extract rfl rfl) rfl ?_
  refine wm_nil fun g w107 K hV => ?_
  replace S := S.ext K
  clear K hV
  refine ws_tail 9 (by kernel_rfl) (by decide) ?_
  refine wd (does_as_i rfl) ?_
  refine wd (does_as_i rfl) ?_
  refine wl_nil ?_
  refine wc_ret ?_
  refine ⟨_, (rets2 (retOne_tmp rfl) (retOne_tmp rfl)), ?_⟩
  replace S : St A N w w107 [oC a_0 g_0_1 r104.1] [] := S.arr [0] []
  obtain rfl := Option.some.inj H
  exact ⟨rfl, S⟩
 replace H := if_f hc92 H
 refine wc_seq (wc_region ?_)
 refine wd (does_eq rfl rfl) ?_
 refine wd (does_as_b rfl) ?_
 refine wl_nil ?_
 refine wc_if rfl (fun hc109 => ?_) (fun hc109 => ?_)
 ·replace H := if_t hc109 H
  refine wc_seq (wc_region ?_)
  refine wd (does_mv_p rfl) ?_
  refine wd (does_load_agg ag_Term rfl ((S.blk 0).all _ (Term.len _)) (Term.len _)) ?_
  replace S : St A N w u54 [oB b2 T_Term (Term.C (⟨a1.kind, a1.name, a1.other, a1.form, s_1⟩ : Term)), oC a_0 g_0_1 a0] [fS 2 Hyp.C SlV.nil ([]), oDTerm s_1 a1.sub] := S.nilZ 2 Hyp.C
  obtain ⟨r110, er110, H⟩ := bind_ex H
  replace S : St A N w u54 [oC a_0 g_0_1 a0, oB b2 T_Term (Term.C (⟨a1.kind, a1.name, a1.other, a1.form, s_1⟩ : Term))] [fS 2 Hyp.C SlV.nil ([]), oDTerm s_1 a1.sub] := S.front 1
  obtain ⟨B112, MB112, SB112, back⟩ := S.calln 1 ((.z 1 rfl (.z 0 rfl .nil)))
  refine wl_call (does_callg ca_ref13_C_told (cons2 rfl (cons2 rfl (cons2 rfl (cons2 SlV.nil_eq rfl))))) (by decide) (ref13_C_told_gst hrec_ref13_C_Told (a1 := a1) SB112 er110) ?_
  rintro _ w111 ⟨rfl, S2⟩
  replace S : St A N w w111 [oC a_0 g_0_1 r110.1, oB b2 T_Term (Term.C (⟨a1.kind, a1.name, a1.other, a1.form, s_1⟩ : Term))] [fS 2 Hyp.C SlV.nil ([]), oDTerm s_1 a1.sub] := back _ _ _ _ S2 rfl
  clear back S2 SB112
  refine wd (does_mv_t rfl) ?_
  refine wd (does_extract rfl rfl) ?_
  refine wd (does_extract rfl rfl) ?_
  refine wd (does_as_i rfl) ?_
  refine wd (does_as_i rfl) ?_
  refine wl_nil ?_
  refine wc_seq (wc_seq (wc_region ?_))
  refine wd (does_mv_i rfl) ?_
  refine wd (does_ne rfl rfl) ?_
  refine wl_nil ?_
  refine wc_if rfl (fun hc113 => ?_) (fun hc113 => ?_)
  ·replace H := if_t hc113 H
   refine wc_seq (wc_region ?_)
   refine wd (does_mv_i rfl) ?_
   refine wd (does_as_i rfl) ?_
   refine wd (does_as_i rfl) ?_
   refine wl_nil ?_
   refine wc_ret ?_
   refine ⟨_, (rets2 (retOne_tmp rfl) (retOne_tmp rfl)), ?_⟩
   replace S : St A N w w111 [oC a_0 g_0_1 r110.1] [] := S.arr [0] []
   obtain rfl := Option.some.inj H
   exact ⟨rfl, S⟩
  replace H := if_f hc113 H
  refine wc_skip ?_
  refine wc_seq (wc_seq (wc_region ?_))
  refine wd (does_mv_p rfl) ?_
  refine wd (does_mv_i rfl) ?_
  obtain ⟨r114, er114, H⟩ := bind_ex H
  obtain ⟨B116, MB116, SB116, back⟩ := S.calln 0 ((.o 0 rfl .nil))
  refine wl_call (does_call ca_ref13_C_node) (by decide) (ref13_C_node_st SB116 er114) ?_
  rintro _ w115 ⟨rfl, S2⟩
  replace S : St A N w w115 [oC a_0 g_0_1 r110.1, oB b2 T_Term (Term.C (⟨a1.kind, a1.name, a1.other, a1.form, s_1⟩ : Term))] [fS 2 Hyp.C SlV.nil ([]), oDTerm s_1 a1.sub] := back _ _ _ _ S2 rfl
  clear back S2 SB116
  refine wd (does_field fv_Nd_kind on_api_Kind rfl (Nd.get_kind _)) ?_
  refine wd (does_ne rfl rfl) ?_
  refine wl_nil ?_
  refine wc_if rfl (fun hc117 => ?_) (fun hc117 => ?_)
  ·replace H := if_t hc117 H
   refine wc_seq (wc_region ?_)
   refine wd (does_mv_p rfl) ?_
   obtain ⟨r118, er118, H⟩ := bind_ex H
   obtain ⟨B120, MB120, SB120, back⟩ := S.calln 1 ((.nil))
   refine wl_call (does_call ca_ref13_C_refuse) (by decide) (ref13_C_refuse_st SB120 er118) ?_
   rintro _ w119 ⟨rfl, S2⟩
   replace S : St A N w w119 [oC a_0 g_0_1 r118.1, oB b2 T_Term (Term.C (⟨a1.kind, a1.name, a1.other, a1.form, s_1⟩ : Term))] [fS 2 Hyp.C SlV.nil ([]), oDTerm s_1 a1.sub] := back _ _ _ _ S2 rfl
   clear back S2 SB120
   refine wd (does_extract rfl rfl) ?_
   refine wd (does_extract rfl rfl) ?_
   refine wd (does_as_i rfl) ?_
   refine wd (does_as_i rfl) ?_
   refine wl_nil ?_
   refine wc_ret ?_
   refine ⟨_, (rets2 (retOne_tmp rfl) (retOne_tmp rfl)), ?_⟩
   replace S : St A N w w119 [oC a_0 g_0_1 r118.1] [] := S.arr [0] []
   obtain rfl := Option.some.inj H
   exact ⟨rfl, S⟩
  replace H := if_f hc117 H
  refine wc_skip ?_
  refine wc_seq ?_
  refine wc_ws hmix fun w124 K => ?_
  replace S := S.ext K
  clear K
  obtain ⟨r125, er125, H⟩ := bind_ex H
  obtain ⟨r126, er126, H⟩ := bind_ex H
  refine ws_semi 0 9 [8] (by kernel_rfl) (by decide) (by kernel_rfl)
   (V := fun i v u => match i with
   | 8 => ∃ sl, v = SlV.v sl ∧ (Rd u 2 sl (r126.map Hyp.C) ∧ r126.length ≤ 140737488355328) ∧ (∀ j, sl.fp j → w124.heap.size ≤ j)
   | _ => True) ?_ ?_
  ·intro i v u u' hi hx hv
   match i, hv with
   | 8, ⟨b, e1, hr, hl⟩ => exact ⟨b, e1, ⟨hr.1.ext hx, hr.2⟩, hl⟩
   | 0, _ => exact trivial
   | 1, _ => exact trivial
   | 2, _ => exact trivial
   | 3, _ => exact trivial
   | 4, _ => exact trivial
   | 5, _ => exact trivial
   | 6, _ => exact trivial
   | 7, _ => exact trivial
   | _ + 9, _ => exact trivial
  refine wm_does (fun v K => does_mv_p rfl) rfl ?_
  refine wm_does (fun v K => does_load_agg ag_Term rfl (((S.ext K).blk 1).all _ (Term.len _)) (Term.len _)) rfl ?_
  refine wm_does (fun v K => does_fieldAddr fl_Term_name rfl (o' := 1) rfl) rfl ?_
  refine wm_does (fun v K => does_load on_string rfl (((S.ext K).blk 1).cell (Term.get_name _))) rfl ?_
  refine wm_does (fun v K => does_mv_p rfl) rfl ?_
  refine wm_does (fun v K => does_mv_i rfl) rfl ?_
  refine wm_call (fun v => does_call ca_ref13_C_node) (fun v K => (have ⟨M, SS⟩ := (S.ext K).lend ((.o 0 rfl .nil)); quiet (ref13_C_node_st SS er125) (fun v w' h => ⟨h.1, _, _, h.2⟩))) rfl ?_
  refine wm_does (fun v K => does_field fv_Nd_l on_int rfl (Nd.get_l _)) rfl ?_
  refine wm_newcall (fun g v K G => (have ⟨M, SS⟩ := (S.ext K).lend ((.nil)); ⟨_, _, does_callg ca_ref13_one (cons2 rfl (cons2 rfl rfl)), newc (ref13_one_st SS er126) fun _ _ ⟨s', hv, h⟩ => ⟨h.frame, s', hv, h.newS.1, fun i hi => by have := h.newS.2 i hi; have := K.size; omega⟩⟩)) rfl ?_
  refine wm_nil fun g w128 K hV => ?_
  obtain ⟨s127, hv1298, hr8, hf8⟩ := hV 8 rfl (by decide)
  replace S : St A N w w128 [oC a_0 g_0_1 r110.1, oB b2 T_Term (Term.C (⟨a1.kind, a1.name, a1.other, a1.form, s_1⟩ : Term))] [fS 2 Hyp.C s127 r126, fS 2 Hyp.C SlV.nil ([]), oDTerm s_1 a1.sub] := S.addZs K (.s hr8.1 hr8.2 hf8 .nil)
  clear K hV
  refine ws_chain 9 11 (by kernel_rfl) (by decide) ?_
  obtain ⟨r130, er130, H⟩ := bind_ex H
  obtain ⟨B132, MB132, SB132, back⟩ := S.calln 1 ((.z 2 rfl (.z 0 rfl .nil)))
  refine wl_call (does_callg ca_ref13_C_told (cons2 rfl (cons2 rfl (cons2 rfl (cons2 hv1298 rfl))))) (by decide) (ref13_C_told_gst hrec_ref13_C_Told (a1 := a1) SB132 er130) ?_
  rintro _ w131 ⟨rfl, S2⟩
  replace S : St A N w w131 [oC a_0 g_0_1 r130.1, oB b2 T_Term (Term.C (⟨a1.kind, a1.name, a1.other, a1.form, s_1⟩ : Term))] [fS 2 Hyp.C s127 r126, fS 2 Hyp.C SlV.nil ([]), oDTerm s_1 a1.sub] := back _ _ _ _ S2 rfl
  clear back S2 SB132
  refine wd (does_mv_t rfl) ?_
  refine wl_nil ⟨rfl, ?_⟩
  refine ws_semi 11 14 [] (by kernel_rfl) (by decide) (by kernel_rfl)
   (V := fun i v u => match i with
   | _ => True) ?_ ?_
  ·intro i v u u' hi hx hv
   match i, hv with
   | _, _ => exact trivial
  refine wm_does (fun v K => does_extract rfl rfl) rfl ?_
  refine wm_does (fun v K => does_extract rfl rfl) rfl ?_
  refine wm_does (fun v K => does_as_i rfl) rfl ?_
  refine wm_nil fun g w133 K hV => ?_
  replace S := S.ext K
  clear K hV
  refine ws_tail 14 (by kernel_rfl) (by decide) ?_
  refine wd (does_as_i rfl) ?_
  refine wl_nil ?_
  refine wc_seq (wc_seq (wc_region ?_))
  refine wd (does_mv_i rfl) ?_
  refine wd (does_ne rfl rfl) ?_
  refine wl_nil ?_
  refine wc_if rfl (fun hc135 => ?_) (fun hc135 => ?_)
  ·replace H := if_t hc135 H
   refine wc_seq (wc_region ?_)
   refine wd (does_mv_i rfl) ?_
   refine wd (does_as_i rfl) ?_
   refine wd (does_as_i rfl) ?_
   refine wl_nil ?_
   refine wc_ret ?_
   refine ⟨_, (rets2 (retOne_tmp rfl) (retOne_tmp rfl)), ?_⟩
   replace S : St A N w w133 [oC a_0 g_0_1 r130.1] [] := S.arr [0] []
   obtain rfl := Option.some.inj H
   exact ⟨rfl, S⟩
  replace H := if_f hc135 H
  refine wc_skip ?_
  refine wc_seq ?_
  refine wc_ws hmix fun w139 K => ?_
  replace S := S.ext K
  clear K
  obtain ⟨r140, er140, H⟩ := bind_ex H
  obtain ⟨r141, er141, H⟩ := bind_ex H
  refine ws_semi 0 9 [8] (by kernel_rfl) (by decide) (by kernel_rfl)
   (V := fun i v u => match i with
   | 8 => ∃ sl, v = SlV.v sl ∧ (Rd u 2 sl (r141.map Hyp.C) ∧ r141.length ≤ 140737488355328) ∧ (∀ j, sl.fp j → w139.heap.size ≤ j)
   | _ => True) ?_ ?_
  ·intro i v u u' hi hx hv
   match i, hv with
   | 8, ⟨b, e1, hr, hl⟩ => exact ⟨b, e1, ⟨hr.1.ext hx, hr.2⟩, hl⟩
   | 0, _ => exact trivial
   | 1, _ => exact trivial
   | 2, _ => exact trivial
   | 3, _ => exact trivial
   | 4, _ => exact trivial
   | 5, _ => exact trivial
   | 6, _ => exact trivial
   | 7, _ => exact trivial
   | _ + 9, _ => exact trivial
  refine wm_does (fun v K => does_mv_p rfl) rfl ?_
  refine wm_does (fun v K => does_load_agg ag_Term rfl (((S.ext K).blk 1).all _ (Term.len _)) (Term.len _)) rfl ?_
  refine wm_does (fun v K => does_fieldAddr fl_Term_other rfl (o' := 2) rfl) rfl ?_
  refine wm_does (fun v K => does_load on_string rfl (((S.ext K).blk 1).cell (Term.get_other _))) rfl ?_
  refine wm_does (fun v K => does_mv_p rfl) rfl ?_
  refine wm_does (fun v K => does_mv_i rfl) rfl ?_
  refine wm_call (fun v => does_call ca_ref13_C_node) (fun v K => (have ⟨M, SS⟩ := (S.ext K).lend ((.o 0 rfl .nil)); quiet (ref13_C_node_st SS er140) (fun v w' h => ⟨h.1, _, _, h.2⟩))) rfl ?_
  refine wm_does (fun v K => does_field fv_Nd_r on_int rfl (Nd.get_r _)) rfl ?_
  refine wm_newcall (fun g v K G => (have ⟨M, SS⟩ := (S.ext K).lend ((.nil)); ⟨_, _, does_callg ca_ref13_one (cons2 rfl (cons2 rfl rfl)), newc (ref13_one_st SS er141) fun _ _ ⟨s', hv, h⟩ => ⟨h.frame, s', hv, h.newS.1, fun i hi => by have := h.newS.2 i hi; have := K.size; omega⟩⟩)) rfl ?_
  refine wm_nil fun g w143 K hV => ?_
  obtain ⟨s142, hv1448, hr8, hf8⟩ := hV 8 rfl (by decide)
  replace S : St A N w w143 [oC a_0 g_0_1 r130.1, oB b2 T_Term (Term.C (⟨a1.kind, a1.name, a1.other, a1.form, s_1⟩ : Term))] [fS 2 Hyp.C s142 r141, fS 2 Hyp.C s127 r126, fS 2 Hyp.C SlV.nil ([]), oDTerm s_1 a1.sub] := S.addZs K (.s hr8.1 hr8.2 hf8 .nil)
  clear K hV
  refine ws_chain 9 11 (by kernel_rfl) (by decide) ?_
  obtain ⟨r145, er145, H⟩ := bind_ex H
  obtain ⟨B147, MB147, SB147, back⟩ := S.calln 1 ((.z 3 rfl (.z 0 rfl .nil)))
  refine wl_call (does_callg ca_ref13_C_told (cons2 rfl (cons2 rfl (cons2 rfl (cons2 hv1448 rfl))))) (by decide) (ref13_C_told_gst hrec_ref13_C_Told (a1 := a1) SB147 er145) ?_
  rintro _ w146 ⟨rfl, S2⟩
  replace S : St A N w w146 [oC a_0 g_0_1 r145.1, oB b2 T_Term (Term.C (⟨a1.kind, a1.name, a1.other, a1.form, s_1⟩ : Term))] [fS 2 Hyp.C s142 r141, fS 2 Hyp.C s127 r126, fS 2 Hyp.C SlV.nil ([]), oDTerm s_1 a1.sub] := back _ _ _ _ S2 rfl
  clear back S2 SB147
  refine wd (does_mv_t rfl) ?_
  refine wl_nil ⟨rfl, ?_⟩
  refine ws_semi 11 14 [] (by kernel_rfl) (by decide) (by kernel_rfl)
   (V := fun i v u => match i with
   | _ => True) ?_ ?_
  ·intro i v u u' hi hx hv
   match i, hv with
   | _, _ => exact trivial
  refine wm_does (fun v K => does_extract rfl rfl) rfl ?_
  refine wm_does (fun v K => does_extract rfl rfl) rfl ?_
  refine wm_does (fun v K => does_as_i rfl) rfl ?_
  refine wm_nil fun g w148 K hV => ?_
  replace S := S.ext K
  clear K hV
  refine ws_tail 14 (by kernel_rfl) (by decide) ?_
  refine wd (does_as_i rfl) ?_
  refine wl_nil ?_
  refine wc_seq (wc_seq (wc_region ?_))
  refine wd (does_mv_i rfl) ?_
  refine wd (does_ne rfl rfl) ?_
  refine wl_nil ?_
  refine wc_if rfl (fun hc150 => ?_) (fun hc150 => ?_)
  ·replace H := if_t hc150 H
   refine wc_seq (wc_region ?_)
   refine wd (does_mv_i rfl) ?_
   refine wd (does_as_i rfl) ?_
   refine wd (does_as_i rfl) ?_
   refine wl_nil ?_
   refine wc_ret ?_
   refine ⟨_, (rets2 (retOne_tmp rfl) (retOne_tmp rfl)), ?_⟩
   replace S : St A N w w148 [oC a_0 g_0_1 r145.1] [] := S.arr [0] []
   obtain rfl := Option.some.inj H
   exact ⟨rfl, S⟩
  replace H := if_f hc150 H
  refine wc_skip ?_
  refine wc_seq (wc_seq (wc_region ?_))
  refine wd (does_mv_i rfl) ?_
  refine wd (does_mv_i rfl) ?_
  refine wd (does_ne rfl rfl) ?_
  refine wl_nil ?_
  refine wc_if rfl (fun hc151 => ?_) (fun hc151 => ?_)
  ·replace H := if_t hc151 H
   refine wc_seq (wc_region ?_)
   refine wd (does_mv_p rfl) ?_
   obtain ⟨r152, er152, H⟩ := bind_ex H
   obtain ⟨B154, MB154, SB154, back⟩ := S.calln 1 ((.nil))
   refine wl_call (does_call ca_ref13_C_refuse) (by decide) (ref13_C_refuse_st SB154 er152) ?_
   rintro _ w153 ⟨rfl, S2⟩
   replace S : St A N w w153 [oC a_0 g_0_1 r152.1, oB b2 T_Term (Term.C (⟨a1.kind, a1.name, a1.other, a1.form, s_1⟩ : Term))] [fS 2 Hyp.C s142 r141, fS 2 Hyp.C s127 r126, fS 2 Hyp.C SlV.nil ([]), oDTerm s_1 a1.sub] := back _ _ _ _ S2 rfl
   clear back S2 SB154
   refine wd (does_extract rfl rfl) ?_
   refine wd (does_extract rfl rfl) ?_
   refine wd (does_as_i rfl) ?_
   refine wd (does_as_i rfl) ?_
   refine wl_nil ?_
   refine wc_ret ?_
   refine ⟨_, (rets2 (retOne_tmp rfl) (retOne_tmp rfl)), ?_⟩
   replace S : St A N w w153 [oC a_0 g_0_1 r152.1] [] := S.arr [0] []
   obtain rfl := Option.some.inj H
   exact ⟨rfl, S⟩
  replace H := if_f hc151 H
  refine wc_skip ?_
  refine wc_seq (wc_region ?_)
  refine wd (does_mv_i rfl) ?_
  refine wd (does_as_i rfl) ?_
  refine wd (does_as_i rfl) ?_
  refine wl_nil ?_
  refine wc_ret ?_
  refine ⟨_, (rets2 (retOne_tmp rfl) (retOne_tmp rfl)), ?_⟩
  replace S : St A N w w148 [oC a_0 g_0_1 r145.1] [] := S.arr [0] []
  obtain rfl := Option.some.inj H
  exact ⟨rfl, S⟩
 replace H := if_f hc109 H
 refine wc_skip ?_
 refine wc_seq (wc_region ?_)
 refine wd (does_mv_p rfl) ?_
 obtain ⟨r155, er155, H⟩ := bind_ex H
 replace S : St A N w u54 [oC a_0 g_0_1 a0, oB b2 T_Term (Term.C (⟨a1.kind, a1.name, a1.other, a1.form, s_1⟩ : Term))] [oDTerm s_1 a1.sub] := S.front 1
 obtain ⟨B157, MB157, SB157, back⟩ := S.calln 1 ((.nil))
 refine wl_call (does_call ca_ref13_C_refuse) (by decide) (ref13_C_refuse_st SB157 er155) ?_
 rintro _ w156 ⟨rfl, S2⟩
 replace S : St A N w w156 [oC a_0 g_0_1 r155.1, oB b2 T_Term (Term.C (⟨a1.kind, a1.name, a1.other, a1.form, s_1⟩ : Term))] [oDTerm s_1 a1.sub] := back _ _ _ _ S2 rfl
 clear back S2 SB157
 refine wd (does_extract rfl rfl) ?_
 refine wd (does_extract rfl rfl) ?_
 refine wd (does_as_i rfl) ?_
 refine wd (does_as_i rfl) ?_
 refine wl_nil ?_
 refine wc_ret ?_
 refine ⟨_, (rets2 (retOne_tmp rfl) (retOne_tmp rfl)), ?_⟩
 replace S : St A N w w156 [oC a_0 g_0_1 r155.1] [] := S.arr [0] []
 obtain rfl := Option.some.inj H
 exact ⟨rfl, S⟩
theorem ref13_C_Checked_gst {rec_ref13_C_Told : PC → PTerm → Option (PC × Int × Int)} (hrec_ref13_C_Told : ∀ {A : Nat → Prop} {N : Oth} {w : World} {a0 : PC} {a_0 : Option Addr} {g_0_1 : Option Addr} {a1 : PTerm} {s_1 : SlV} (S : St A N w w [oC a_0 g_0_1 a0] [oDTerm s_1 a1.sub]) {r : PC × Int × Int} (H : rec_ref13_C_Told a0 a1 = some r), Calls PP F_ref13_C_Told #[.pointer a_0, .agg (Term.C (⟨a1.kind, a1.name, a1.other, a1.form, s_1⟩ : Term)).toArray] w fun e w' => ∃ v, e = .returned v ∧ (v = .tuple #[.int .i64 r.2.1, .int .i64 r.2.2] ∧ St A N w w' [oC a_0 g_0_1 r.1] [])) {rec_ref13_C_Checked : PC → PTerm → Int → Option (PC × Int)} (hrec_ref13_C_Checked : ∀ {A : Nat → Prop} {N : Oth} {w : World} {a0 : PC} {a_0 : Option Addr} {g_0_1 : Option Addr} {a1 : PTerm} {s_1 : SlV} {a2 : Int} (S : St A N w w [oC a_0 g_0_1 a0] [oDTerm s_1 a1.sub]) {r : PC × Int} (H : rec_ref13_C_Checked a0 a1 a2 = some r), Calls PP F_ref13_C_Checked #[.pointer a_0, .agg (Term.C (⟨a1.kind, a1.name, a1.other, a1.form, s_1⟩ : Term)).toArray, .int .i64 a2] w fun e w' => ∃ v, e = .returned v ∧ (v = .int .i64 r.2 ∧ St A N w w' [oC a_0 g_0_1 r.1] [])) {A : Nat → Prop} {N : Oth} {w : World} {a0 : PC} {a_0 : Option Addr} {g_0_1 : Option Addr} {a1 : PTerm} {s_1 : SlV} {a2 : Int} (S : St A N w w [oC a_0 g_0_1 a0] [oDTerm s_1 a1.sub]) {r : PC × Int} (H : ref13_C_Checked.g rec_ref13_C_Told rec_ref13_C_Checked a0 a1 a2 = some r) :
  Calls PP F_ref13_C_Checked #[.pointer a_0, .agg (Term.C (⟨a1.kind, a1.name, a1.other, a1.form, s_1⟩ : Term)).toArray, .int .i64 a2] w fun e w' => ∃ v, e = .returned v ∧ (v = .int .i64 r.2 ∧ St A N w w' [oC a_0 g_0_1 r.1] []) := by
 unfold ref13_C_Checked.g at H
 refine calls_of_wc (n := 174) fn_ref13_C_Checked rfl rfl (by simp) ?_
 refine wc_seq (wc_region ?_)
 refine wl_box_agg rfl (by decide) fun b2 w1 hw1 => ?_
 replace S : St A N w w1 [oB b2 T_Term (Term.C (⟨a1.kind, a1.name, a1.other, a1.form, s_1⟩ : Term)), oC a_0 g_0_1 a0] [oDTerm s_1 a1.sub] := S.new hw1
 refine wd (does_as_i rfl) ?_
 refine wl_nil ?_
 refine wc_seq (wc_region ?_)
 refine wd (does_mv_p rfl) ?_
 refine wd (does_mv_i rfl) ?_
 obtain ⟨r3, er3, H⟩ := bind_ex H
 obtain ⟨B5, MB5, SB5, back⟩ := S.calln 0 ((.o 1 rfl .nil))
 refine wl_call (does_call ca_ref13_C_node) (by decide) (ref13_C_node_st SB5 er3) ?_
 rintro _ w4 ⟨rfl, S2⟩
 replace S : St A N w w4 [oB b2 T_Term (Term.C (⟨a1.kind, a1.name, a1.other, a1.form, s_1⟩ : Term)), oC a_0 g_0_1 a0] [oDTerm s_1 a1.sub] := back _ _ _ _ S2 rfl
 clear back S2 SB5
 refine wl_alloc ze_Nd (by decide) fun b7 w6 hw6 => ?_
 replace S : St A N w w6 [oB b7 T_Nd (Nd.C Nd.z), oB b2 T_Term (Term.C (⟨a1.kind, a1.name, a1.other, a1.form, s_1⟩ : Term)), oC a_0 g_0_1 a0] [oDTerm s_1 a1.sub] := S.new hw6
 refine wl_store_agg ag_Nd rfl rfl (S.blk 0) (Nd.len _) (by rw [Nd.len]; decide) (Nd.one _) (store_all (Nd.len _)) fun w8 B hw8 zw8 => ?_
 replace S : St A N w w8 [oB b7 T_Nd (Nd.C r3), oB b2 T_Term (Term.C (⟨a1.kind, a1.name, a1.other, a1.form, s_1⟩ : Term)), oC a_0 g_0_1 a0] [oDTerm s_1 a1.sub] := S.store 0 B hw8
 clear B
 refine wl_nil ?_
 refine wc_seq (wc_seq (wc_region ?_))
 refine wd (does_fieldAddr fl_Term_kind rfl (o' := 0) rfl) ?_
 refine wd (does_load on_api_TermKind rfl ((S.blk 1).cell (Term.get_kind _))) ?_
 refine wl_nil ?_
 refine wc_block ?_
 refine wc_seq (wc_region ?_)
 refine wd (does_eq rfl rfl) ?_
 refine wd (does_as_b rfl) ?_
 refine wl_nil ?_
 refine wc_if rfl (fun hc9 => ?_) (fun hc9 => ?_)
 ·replace H := if_t hc9 H
  refine wc_seq (wc_seq (wc_region ?_))
  refine wd (does_fieldAddr fl_Nd_kind rfl (o' := 0) rfl) ?_
  refine wd (does_load on_api_Kind rfl ((S.blk 0).cell (Nd.get_kind _))) ?_
  refine wd (does_ne rfl rfl) ?_
  refine wl_nil ?_
  refine wc_if rfl (fun hc10 => ?_) (fun hc10 => ?_)
  ·replace H := if_t hc10 H
   refine wc_seq (wc_region ?_)
   refine wd (does_mv_p rfl) ?_
   obtain ⟨r11, er11, H⟩ := bind_ex H
   replace S : St A N w w8 [oC a_0 g_0_1 a0, oB b7 T_Nd (Nd.C r3), oB b2 T_Term (Term.C (⟨a1.kind, a1.name, a1.other, a1.form, s_1⟩ : Term))] [oDTerm s_1 a1.sub] := S.front 2
   obtain ⟨B13, MB13, SB13, back⟩ := S.calln 1 ((.nil))
   refine wl_call (does_call ca_ref13_C_no) (by decide) (ref13_C_no_st SB13 er11) ?_
   rintro _ w12 ⟨rfl, S2⟩
   replace S : St A N w w12 [oC a_0 g_0_1 r11.1, oB b7 T_Nd (Nd.C r3), oB b2 T_Term (Term.C (⟨a1.kind, a1.name, a1.other, a1.form, s_1⟩ : Term))] [oDTerm s_1 a1.sub] := back _ _ _ _ S2 rfl
   clear back S2 SB13
   refine wd (does_as_i rfl) ?_
   refine wl_nil ?_
   refine wc_ret ?_
   refine ⟨_, (rets1 (retOne_tmp rfl)), ?_⟩
   replace S : St A N w w12 [oC a_0 g_0_1 r11.1] [] := S.arr [0] []
   obtain rfl := Option.some.inj H
   exact ⟨rfl, S⟩
  replace H := if_f hc10 H
  refine wc_skip ?_
  refine wc_seq ?_
  obtain ⟨r14, er14, H⟩ := bind_ex H
  refine wc_semi 9 [6]
   (fun i v u => match i with
   | 6 => ∃ sl, v = SlV.v sl ∧ (Rd u 2 sl (r14.map Hyp.C) ∧ r14.length ≤ 140737488355328) ∧ (∀ j, sl.fp j → w8.heap.size ≤ j)
   | _ => True) hmix (by kernel_rfl) (by kernel_rfl) ?_ ?_
  ·intro i v u u' hi hx hv
   match i, hv with
   | 6, ⟨b, e1, hr, hl⟩ => exact ⟨b, e1, ⟨hr.1.ext hx, hr.2⟩, hl⟩
   | 0, _ => exact trivial
   | 1, _ => exact trivial
   | 2, _ => exact trivial
   | 3, _ => exact trivial
   | 4, _ => exact trivial
   | 5, _ => exact trivial
   | _ + 7, _ => exact trivial
  refine wm_does (fun v K => does_mv_p rfl) rfl ?_
  refine wm_does (fun v K => does_load_agg ag_Term rfl (((S.ext K).blk 1).all _ (Term.len _)) (Term.len _)) rfl ?_
  refine wm_does (fun v K => does_fieldAddr fl_Term_name rfl (o' := 1) rfl) rfl ?_
  refine wm_does (fun v K => does_load on_string rfl (((S.ext K).blk 1).cell (Term.get_name _))) rfl ?_
  refine wm_does (fun v K => does_fieldAddr fl_Nd_l rfl (o' := 2) rfl) rfl ?_
  refine wm_does (fun v K => does_load on_int rfl (((S.ext K).blk 0).cell (Nd.get_l _))) rfl ?_
  refine wm_newcall (fun g v K G => (have ⟨M, SS⟩ := (S.ext K).lend ((.nil)); ⟨_, _, does_callg ca_ref13_one (cons2 rfl (cons2 rfl rfl)), newc (ref13_one_st SS er14) fun _ _ ⟨s', hv, h⟩ => ⟨h.frame, s', hv, h.newS.1, fun i hi => by have := h.newS.2 i hi; have := K.size; omega⟩⟩)) rfl ?_
  refine wm_does (fun v K => does_fieldAddr fl_Nd_r rfl (o' := 3) rfl) rfl ?_
  refine wm_does (fun v K => does_load on_int rfl (((S.ext K).blk 0).cell (Nd.get_r _))) rfl ?_
  refine wm_nil fun g w16 K hV => ?_
  obtain ⟨s15, hv176, hr6, hf6⟩ := hV 6 rfl (by decide)
  replace S : St A N w w16 [oB b7 T_Nd (Nd.C r3), oB b2 T_Term (Term.C (⟨a1.kind, a1.name, a1.other, a1.form, s_1⟩ : Term)), oC a_0 g_0_1 a0] [fS 2 Hyp.C s15 r14, oDTerm s_1 a1.sub] := S.addZs K (.s hr6.1 hr6.2 hf6 .nil)
  clear K hV
  obtain ⟨r18, er18, H⟩ := bind_ex H
  replace S : St A N w w16 [oC a_0 g_0_1 a0, oB b7 T_Nd (Nd.C r3), oB b2 T_Term (Term.C (⟨a1.kind, a1.name, a1.other, a1.form, s_1⟩ : Term))] [fS 2 Hyp.C s15 r14, oDTerm s_1 a1.sub] := S.front 2
  obtain ⟨B20, MB20, SB20, back⟩ := S.calln 1 ((.z 1 rfl (.z 0 rfl .nil)))
  refine wl_call (does_callg ca_ref13_C_checked (cons2 rfl (cons2 rfl (cons2 rfl (cons2 hv176 (cons2 rfl rfl)))))) (by decide) (ref13_C_checked_gst hrec_ref13_C_Checked (a1 := a1) SB20 er18) ?_
  rintro _ w19 ⟨rfl, S2⟩
  replace S : St A N w w19 [oC a_0 g_0_1 r18.1, oB b7 T_Nd (Nd.C r3), oB b2 T_Term (Term.C (⟨a1.kind, a1.name, a1.other, a1.form, s_1⟩ : Term))] [fS 2 Hyp.C s15 r14, oDTerm s_1 a1.sub] := back _ _ _ _ S2 rfl
  clear back S2 SB20
  refine wd (does_as_i rfl) ?_
  refine wl_nil ?_
  refine wc_ret ?_
  refine ⟨_, (rets1 (retOne_tmp rfl)), ?_⟩
  replace S : St A N w w19 [oC a_0 g_0_1 r18.1] [] := S.arr [0] []
  obtain rfl := Option.some.inj H
  exact ⟨rfl, S⟩
 replace H := if_f hc9 H
 refine wc_seq (wc_region ?_)
 refine wd (does_eq rfl rfl) ?_
 refine wd (does_as_b rfl) ?_
 refine wl_nil ?_
 refine wc_if rfl (fun hc21 => ?_) (fun hc21 => ?_)
 ·replace H := if_t hc21 H
  refine wc_seq (wc_seq (wc_region ?_))
  refine wd (does_fieldAddr fl_Nd_kind rfl (o' := 0) rfl) ?_
  refine wd (does_load on_api_Kind rfl ((S.blk 0).cell (Nd.get_kind _))) ?_
  refine wd (does_ne rfl rfl) ?_
  refine wl_nil ?_
  refine wc_if rfl (fun hc22 => ?_) (fun hc22 => ?_)
  ·replace H := if_t hc22 H
   refine wc_seq (wc_region ?_)
   refine wd (does_mv_p rfl) ?_
   obtain ⟨r23, er23, H⟩ := bind_ex H
   replace S : St A N w w8 [oC a_0 g_0_1 a0, oB b7 T_Nd (Nd.C r3), oB b2 T_Term (Term.C (⟨a1.kind, a1.name, a1.other, a1.form, s_1⟩ : Term))] [oDTerm s_1 a1.sub] := S.front 2
   obtain ⟨B25, MB25, SB25, back⟩ := S.calln 1 ((.nil))
   refine wl_call (does_call ca_ref13_C_no) (by decide) (ref13_C_no_st SB25 er23) ?_
   rintro _ w24 ⟨rfl, S2⟩
   replace S : St A N w w24 [oC a_0 g_0_1 r23.1, oB b7 T_Nd (Nd.C r3), oB b2 T_Term (Term.C (⟨a1.kind, a1.name, a1.other, a1.form, s_1⟩ : Term))] [oDTerm s_1 a1.sub] := back _ _ _ _ S2 rfl
   clear back S2 SB25
   refine wd (does_as_i rfl) ?_
   refine wl_nil ?_
   refine wc_ret ?_
   refine ⟨_, (rets1 (retOne_tmp rfl)), ?_⟩
   replace S : St A N w w24 [oC a_0 g_0_1 r23.1] [] := S.arr [0] []
   obtain rfl := Option.some.inj H
   exact ⟨rfl, S⟩
  replace H := if_f hc22 H
  refine wc_skip ?_
  refine wc_seq (wc_region ?_)
  refine wd (does_mv_p rfl) ?_
  refine wd (does_load_agg ag_Term rfl ((S.blk 1).all _ (Term.len _)) (Term.len _)) ?_
  refine wd (does_fieldAddr fl_Nd_l rfl (o' := 2) rfl) ?_
  refine wd (does_load on_int rfl ((S.blk 0).cell (Nd.get_l _))) ?_
  replace S : St A N w w8 [oB b7 T_Nd (Nd.C r3), oB b2 T_Term (Term.C (⟨a1.kind, a1.name, a1.other, a1.form, s_1⟩ : Term)), oC a_0 g_0_1 a0] [fS 2 Hyp.C SlV.nil ([]), oDTerm s_1 a1.sub] := S.nilZ 2 Hyp.C
  obtain ⟨r26, er26, H⟩ := bind_ex H
  replace S : St A N w w8 [oC a_0 g_0_1 a0, oB b7 T_Nd (Nd.C r3), oB b2 T_Term (Term.C (⟨a1.kind, a1.name, a1.other, a1.form, s_1⟩ : Term))] [fS 2 Hyp.C SlV.nil ([]), oDTerm s_1 a1.sub] := S.front 2
  obtain ⟨B28, MB28, SB28, back⟩ := S.calln 1 ((.z 1 rfl (.z 0 rfl .nil)))
  refine wl_call (does_callg ca_ref13_C_checked (cons2 rfl (cons2 rfl (cons2 rfl (cons2 SlV.nil_eq (cons2 rfl rfl)))))) (by decide) (ref13_C_checked_gst hrec_ref13_C_Checked (a1 := a1) SB28 er26) ?_
  rintro _ w27 ⟨rfl, S2⟩
  replace S : St A N w w27 [oC a_0 g_0_1 r26.1, oB b7 T_Nd (Nd.C r3), oB b2 T_Term (Term.C (⟨a1.kind, a1.name, a1.other, a1.form, s_1⟩ : Term))] [fS 2 Hyp.C SlV.nil ([]), oDTerm s_1 a1.sub] := back _ _ _ _ S2 rfl
  clear back S2 SB28
  refine wd (does_as_i rfl) ?_
  refine wl_nil ?_
  refine wc_seq (wc_seq (wc_region ?_))
  refine wd (does_mv_i rfl) ?_
  refine wd (does_ne rfl rfl) ?_
  refine wl_nil ?_
  refine wc_if rfl (fun hc29 => ?_) (fun hc29 => ?_)
  ·replace H := if_t hc29 H
   refine wc_seq (wc_region ?_)
   refine wd (does_mv_i rfl) ?_
   refine wd (does_as_i rfl) ?_
   refine wl_nil ?_
   refine wc_ret ?_
   refine ⟨_, (rets1 (retOne_tmp rfl)), ?_⟩
   replace S : St A N w w27 [oC a_0 g_0_1 r26.1] [] := S.arr [0] []
   obtain rfl := Option.some.inj H
   exact ⟨rfl, S⟩
  replace H := if_f hc29 H
  refine wc_skip ?_
  refine wc_seq (wc_region ?_)
  refine wd (does_mv_p rfl) ?_
  refine wd (does_load_agg ag_Term rfl ((S.blk 2).all _ (Term.len _)) (Term.len _)) ?_
  refine wd (does_fieldAddr fl_Nd_r rfl (o' := 3) rfl) ?_
  refine wd (does_load on_int rfl ((S.blk 1).cell (Nd.get_r _))) ?_
  replace S : St A N w w27 [oC a_0 g_0_1 r26.1, oB b7 T_Nd (Nd.C r3), oB b2 T_Term (Term.C (⟨a1.kind, a1.name, a1.other, a1.form, s_1⟩ : Term))] [fS 2 Hyp.C SlV.nil ([]), fS 2 Hyp.C SlV.nil ([]), oDTerm s_1 a1.sub] := S.nilZ 2 Hyp.C
  obtain ⟨r30, er30, H⟩ := bind_ex H
  obtain ⟨B32, MB32, SB32, back⟩ := S.calln 1 ((.z 2 rfl (.z 0 rfl .nil)))
  refine wl_call (does_callg ca_ref13_C_checked (cons2 rfl (cons2 rfl (cons2 rfl (cons2 SlV.nil_eq (cons2 rfl rfl)))))) (by decide) (ref13_C_checked_gst hrec_ref13_C_Checked (a1 := a1) SB32 er30) ?_
  rintro _ w31 ⟨rfl, S2⟩
  replace S : St A N w w31 [oC a_0 g_0_1 r30.1, oB b7 T_Nd (Nd.C r3), oB b2 T_Term (Term.C (⟨a1.kind, a1.name, a1.other, a1.form, s_1⟩ : Term))] [fS 2 Hyp.C SlV.nil ([]), fS 2 Hyp.C SlV.nil ([]), oDTerm s_1 a1.sub] := back _ _ _ _ S2 rfl
  clear back S2 SB32
  refine wd (does_as_i rfl) ?_
  refine wl_nil ?_
  refine wc_ret ?_
  refine ⟨_, (rets1 (retOne_tmp rfl)), ?_⟩
  replace S : St A N w w31 [oC a_0 g_0_1 r30.1] [] := S.arr [0] []
  obtain rfl := Option.some.inj H
  exact ⟨rfl, S⟩
 replace H := if_f hc21 H
 refine wc_seq (wc_seq (wc_region ?_))
 refine wd (does_eq rfl rfl) ?_
 refine wd (does_as_b rfl) ?_
 refine wl_nil ?_
 obtain ⟨o33, e33, Ho33⟩ := bind_ex H
 replace H := e33; clear e33
 refine wc_cutq [59, 61] (fun fr W => fr 59 = .bool o33 ∧ St A N w W [oB b7 T_Nd (Nd.C r3), oB b2 T_Term (Term.C (⟨a1.kind, a1.name, a1.other, a1.form, s_1⟩ : Term)), oC a_0 g_0_1 a0] [oDTerm s_1 a1.sub]) ?_ ?_
 ·refine wc_if rfl (fun hc34 => ?_) (fun hc34 => ?_)
  ·replace H := if_t hc34 H
   refine wc_skip ?_
   obtain rfl := Option.some.inj H
   exact ⟨rfl, (Dif.refl _ _), rfl, S⟩
  ·replace H := if_f hc34 H
   refine wc_region ?_
   refine wd (does_eq rfl rfl) ?_
   refine wd (does_as_b rfl) ?_
   refine wl_nil ?_
   obtain rfl := Option.some.inj H
   exact ⟨rfl, (((Dif.refl _ _).upd rfl _).upd rfl _), rfl, S⟩
 rintro g35 u36 ⟨p33_59, S⟩
 have H := Ho33
 refine wc_if p33_59 (fun hc37 => ?_) (fun hc37 => ?_)
 ·replace H := if_t hc37 H
  refine wc_seq (wc_seq (wc_region ?_))
  refine wd (does_fieldAddr fl_Nd_kind rfl (o' := 0) rfl) ?_
  refine wd (does_load on_api_Kind rfl ((S.blk 0).cell (Nd.get_kind _))) ?_
  refine wd (does_ne rfl rfl) ?_
  refine wl_nil ?_
  refine wc_if rfl (fun hc38 => ?_) (fun hc38 => ?_)
  ·replace H := if_t hc38 H
   refine wc_seq (wc_region ?_)
   refine wd (does_mv_p rfl) ?_
   obtain ⟨r39, er39, H⟩ := bind_ex H
   replace S : St A N w u36 [oC a_0 g_0_1 a0, oB b7 T_Nd (Nd.C r3), oB b2 T_Term (Term.C (⟨a1.kind, a1.name, a1.other, a1.form, s_1⟩ : Term))] [oDTerm s_1 a1.sub] := S.front 2
   obtain ⟨B41, MB41, SB41, back⟩ := S.calln 1 ((.nil))
   refine wl_call (does_call ca_ref13_C_no) (by decide) (ref13_C_no_st SB41 er39) ?_
   rintro _ w40 ⟨rfl, S2⟩
   replace S : St A N w w40 [oC a_0 g_0_1 r39.1, oB b7 T_Nd (Nd.C r3), oB b2 T_Term (Term.C (⟨a1.kind, a1.name, a1.other, a1.form, s_1⟩ : Term))] [oDTerm s_1 a1.sub] := back _ _ _ _ S2 rfl
   clear back S2 SB41
   refine wd (does_as_i rfl) ?_
   refine wl_nil ?_
   refine wc_ret ?_
   refine ⟨_, (rets1 (retOne_tmp rfl)), ?_⟩
   replace S : St A N w w40 [oC a_0 g_0_1 r39.1] [] := S.arr [0] []
   obtain rfl := Option.some.inj H
   exact ⟨rfl, S⟩
  replace H := if_f hc38 H
  refine wc_skip ?_
  refine wc_seq (wc_seq (wc_region ?_))
  refine wd (does_fieldAddr fl_Term_kind rfl (o' := 0) rfl) ?_
  refine wd (does_load on_api_TermKind rfl ((S.blk 1).cell (Term.get_kind _))) ?_
  refine wd (does_eq rfl rfl) ?_
  refine wl_nil ?_
  refine wc_if rfl (fun hc42 => ?_) (fun hc42 => ?_)
  ·replace H := if_t hc42 H
   refine wc_seq (wc_region ?_)
   refine wd (does_mv_p rfl) ?_
   refine wd (does_load_agg ag_Term rfl ((S.blk 1).all _ (Term.len _)) (Term.len _)) ?_
   refine wd (does_fieldAddr fl_Nd_l rfl (o' := 2) rfl) ?_
   refine wd (does_load on_int rfl ((S.blk 0).cell (Nd.get_l _))) ?_
   replace S : St A N w u36 [oB b7 T_Nd (Nd.C r3), oB b2 T_Term (Term.C (⟨a1.kind, a1.name, a1.other, a1.form, s_1⟩ : Term)), oC a_0 g_0_1 a0] [fS 2 Hyp.C SlV.nil ([]), oDTerm s_1 a1.sub] := S.nilZ 2 Hyp.C
   obtain ⟨r43, er43, H⟩ := bind_ex H
   replace S : St A N w u36 [oC a_0 g_0_1 a0, oB b7 T_Nd (Nd.C r3), oB b2 T_Term (Term.C (⟨a1.kind, a1.name, a1.other, a1.form, s_1⟩ : Term))] [fS 2 Hyp.C SlV.nil ([]), oDTerm s_1 a1.sub] := S.front 2
   obtain ⟨B45, MB45, SB45, back⟩ := S.calln 1 ((.z 1 rfl (.z 0 rfl .nil)))
   refine wl_call (does_callg ca_ref13_C_checked (cons2 rfl (cons2 rfl (cons2 rfl (cons2 SlV.nil_eq (cons2 rfl rfl)))))) (by decide) (ref13_C_checked_gst hrec_ref13_C_Checked (a1 := a1) SB45 er43) ?_
   rintro _ w44 ⟨rfl, S2⟩
   replace S : St A N w w44 [oC a_0 g_0_1 r43.1, oB b7 T_Nd (Nd.C r3), oB b2 T_Term (Term.C (⟨a1.kind, a1.name, a1.other, a1.form, s_1⟩ : Term))] [fS 2 Hyp.C SlV.nil ([]), oDTerm s_1 a1.sub] := back _ _ _ _ S2 rfl
   clear back S2 SB45
   refine wd (does_as_i rfl) ?_
   refine wl_nil ?_
   refine wc_ret ?_
   refine ⟨_, (rets1 (retOne_tmp rfl)), ?_⟩
   replace S : St A N w w44 [oC a_0 g_0_1 r43.1] [] := S.arr [0] []
   obtain rfl := Option.some.inj H
   exact ⟨rfl, S⟩
  replace H := if_f hc42 H
  refine wc_skip ?_
  refine wc_seq (wc_region ?_)
  refine wd (does_mv_p rfl) ?_
  refine wd (does_load_agg ag_Term rfl ((S.blk 1).all _ (Term.len _)) (Term.len _)) ?_
  refine wd (does_fieldAddr fl_Nd_r rfl (o' := 3) rfl) ?_
  refine wd (does_load on_int rfl ((S.blk 0).cell (Nd.get_r _))) ?_
  replace S : St A N w u36 [oB b7 T_Nd (Nd.C r3), oB b2 T_Term (Term.C (⟨a1.kind, a1.name, a1.other, a1.form, s_1⟩ : Term)), oC a_0 g_0_1 a0] [fS 2 Hyp.C SlV.nil ([]), oDTerm s_1 a1.sub] := S.nilZ 2 Hyp.C
  obtain ⟨r46, er46, H⟩ := bind_ex H
  replace S : St A N w u36 [oC a_0 g_0_1 a0, oB b7 T_Nd (Nd.C r3), oB b2 T_Term (Term.C (⟨a1.kind, a1.name, a1.other, a1.form, s_1⟩ : Term))] [fS 2 Hyp.C SlV.nil ([]), oDTerm s_1 a1.sub] := S.front 2
  obtain ⟨B48, MB48, SB48, back⟩ := S.calln 1 ((.z 1 rfl (.z 0 rfl .nil)))
  refine wl_call (does_callg ca_ref13_C_checked (cons2 rfl (cons2 rfl (cons2 rfl (cons2 SlV.nil_eq (cons2 rfl rfl)))))) (by decide) (ref13_C_checked_gst hrec_ref13_C_Checked (a1 := a1) SB48 er46) ?_
  rintro _ w47 ⟨rfl, S2⟩
  replace S : St A N w w47 [oC a_0 g_0_1 r46.1, oB b7 T_Nd (Nd.C r3), oB b2 T_Term (Term.C (⟨a1.kind, a1.name, a1.other, a1.form, s_1⟩ : Term))] [fS 2 Hyp.C SlV.nil ([]), oDTerm s_1 a1.sub] := back _ _ _ _ S2 rfl
  clear back S2 SB48
  refine wd (does_as_i rfl) ?_
  refine wl_nil ?_
  refine wc_ret ?_
  refine ⟨_, (rets1 (retOne_tmp rfl)), ?_⟩
  replace S : St A N w w47 [oC a_0 g_0_1 r46.1] [] := S.arr [0] []
  obtain rfl := Option.some.inj H
  exact ⟨rfl, S⟩
 replace H := if_f hc37 H
 refine wc_seq (wc_region ?_)
 refine wd (does_eq rfl rfl) ?_
 refine wd (does_as_b rfl) ?_
 refine wl_nil ?_
 refine wc_if rfl (fun hc49 => ?_) (fun hc49 => ?_)
 ·replace H := if_t hc49 H
  refine wc_seq (wc_region ?_)
  refine wd (does_mv_p rfl) ?_
  refine wd (does_load_agg ag_Term rfl ((S.blk 1).all _ (Term.len _)) (Term.len _)) ?_
  replace S : St A N w u36 [oB b7 T_Nd (Nd.C r3), oB b2 T_Term (Term.C (⟨a1.kind, a1.name, a1.other, a1.form, s_1⟩ : Term)), oC a_0 g_0_1 a0] [fS 2 Hyp.C SlV.nil ([]), oDTerm s_1 a1.sub] := S.nilZ 2 Hyp.C
  obtain ⟨r50, er50, H⟩ := bind_ex H
  replace S : St A N w u36 [oC a_0 g_0_1 a0, oB b7 T_Nd (Nd.C r3), oB b2 T_Term (Term.C (⟨a1.kind, a1.name, a1.other, a1.form, s_1⟩ : Term))] [fS 2 Hyp.C SlV.nil ([]), oDTerm s_1 a1.sub] := S.front 2
  obtain ⟨B52, MB52, SB52, back⟩ := S.calln 1 ((.z 1 rfl (.z 0 rfl .nil)))
  refine wl_call (does_callg ca_ref13_C_told (cons2 rfl (cons2 rfl (cons2 rfl (cons2 SlV.nil_eq rfl))))) (by decide) (ref13_C_told_gst hrec_ref13_C_Told (a1 := a1) SB52 er50) ?_
  rintro _ w51 ⟨rfl, S2⟩
  replace S : St A N w w51 [oC a_0 g_0_1 r50.1, oB b7 T_Nd (Nd.C r3), oB b2 T_Term (Term.C (⟨a1.kind, a1.name, a1.other, a1.form, s_1⟩ : Term))] [fS 2 Hyp.C SlV.nil ([]), oDTerm s_1 a1.sub] := back _ _ _ _ S2 rfl
  clear back S2 SB52
  refine wd (does_mv_t rfl) ?_
  refine wd (does_extract rfl rfl) ?_
  refine wd (does_extract rfl rfl) ?_
  refine wd (does_as_i rfl) ?_
  refine wd (does_as_i rfl) ?_
  refine wl_nil ?_
  refine wc_seq (wc_seq (wc_region ?_))
  refine wd (does_mv_i rfl) ?_
  refine wd (does_ne rfl rfl) ?_
  refine wl_nil ?_
  refine wc_if rfl (fun hc53 => ?_) (fun hc53 => ?_)
  ·replace H := if_t hc53 H
   refine wc_seq (wc_region ?_)
   refine wd (does_mv_i rfl) ?_
   refine wd (does_as_i rfl) ?_
   refine wl_nil ?_
   refine wc_ret ?_
   refine ⟨_, (rets1 (retOne_tmp rfl)), ?_⟩
   replace S : St A N w w51 [oC a_0 g_0_1 r50.1] [] := S.arr [0] []
   obtain rfl := Option.some.inj H
   exact ⟨rfl, S⟩
  replace H := if_f hc53 H
  refine wc_skip ?_
  refine wc_seq (wc_seq (wc_region ?_))
  refine wd (does_mv_p rfl) ?_
  refine wd (does_mv_i rfl) ?_
  obtain ⟨r54, er54, H⟩ := bind_ex H
  obtain ⟨B56, MB56, SB56, back⟩ := S.calln 0 ((.o 0 rfl .nil))
  refine wl_call (does_call ca_ref13_C_node) (by decide) (ref13_C_node_st SB56 er54) ?_
  rintro _ w55 ⟨rfl, S2⟩
  replace S : St A N w w55 [oC a_0 g_0_1 r50.1, oB b7 T_Nd (Nd.C r3), oB b2 T_Term (Term.C (⟨a1.kind, a1.name, a1.other, a1.form, s_1⟩ : Term))] [fS 2 Hyp.C SlV.nil ([]), oDTerm s_1 a1.sub] := back _ _ _ _ S2 rfl
  clear back S2 SB56
  refine wd (does_field fv_Nd_kind on_api_Kind rfl (Nd.get_kind _)) ?_
  refine wd (does_ne rfl rfl) ?_
  refine wl_nil ?_
  refine wc_if rfl (fun hc57 => ?_) (fun hc57 => ?_)
  ·replace H := if_t hc57 H
   refine wc_seq (wc_region ?_)
   refine wd (does_mv_p rfl) ?_
   obtain ⟨r58, er58, H⟩ := bind_ex H
   obtain ⟨B60, MB60, SB60, back⟩ := S.calln 1 ((.nil))
   refine wl_call (does_call ca_ref13_C_no) (by decide) (ref13_C_no_st SB60 er58) ?_
   rintro _ w59 ⟨rfl, S2⟩
   replace S : St A N w w59 [oC a_0 g_0_1 r58.1, oB b7 T_Nd (Nd.C r3), oB b2 T_Term (Term.C (⟨a1.kind, a1.name, a1.other, a1.form, s_1⟩ : Term))] [fS 2 Hyp.C SlV.nil ([]), oDTerm s_1 a1.sub] := back _ _ _ _ S2 rfl
   clear back S2 SB60
   refine wd (does_as_i rfl) ?_
   refine wl_nil ?_
   refine wc_ret ?_
   refine ⟨_, (rets1 (retOne_tmp rfl)), ?_⟩
   replace S : St A N w w59 [oC a_0 g_0_1 r58.1] [] := S.arr [0] []
   obtain rfl := Option.some.inj H
   exact ⟨rfl, S⟩
  replace H := if_f hc57 H
  refine wc_skip ?_
  refine wc_seq ?_
  obtain ⟨r61, er61, H⟩ := bind_ex H
  obtain ⟨r62, er62, H⟩ := bind_ex H
  refine wc_semi 10 [8]
   (fun i v u => match i with
   | 8 => ∃ sl, v = SlV.v sl ∧ (Rd u 2 sl (r62.map Hyp.C) ∧ r62.length ≤ 140737488355328) ∧ (∀ j, sl.fp j → w55.heap.size ≤ j)
   | _ => True) hmix (by kernel_rfl) (by kernel_rfl) ?_ ?_
  ·intro i v u u' hi hx hv
   match i, hv with
   | 8, ⟨b, e1, hr, hl⟩ => exact ⟨b, e1, ⟨hr.1.ext hx, hr.2⟩, hl⟩
   | 0, _ => exact trivial
   | 1, _ => exact trivial
   | 2, _ => exact trivial
   | 3, _ => exact trivial
   | 4, _ => exact trivial
   | 5, _ => exact trivial
   | 6, _ => exact trivial
   | 7, _ => exact trivial
   | _ + 9, _ => exact trivial
  refine wm_does (fun v K => does_mv_p rfl) rfl ?_
  refine wm_does (fun v K => does_load_agg ag_Term rfl (((S.ext K).blk 2).all _ (Term.len _)) (Term.len _)) rfl ?_
  refine wm_does (fun v K => does_fieldAddr fl_Term_name rfl (o' := 1) rfl) rfl ?_
  refine wm_does (fun v K => does_load on_string rfl (((S.ext K).blk 2).cell (Term.get_name _))) rfl ?_
  refine wm_does (fun v K => does_mv_p rfl) rfl ?_
  refine wm_does (fun v K => does_mv_i rfl) rfl ?_
  refine wm_call (fun v => does_call ca_ref13_C_node) (fun v K => (have ⟨M, SS⟩ := (S.ext K).lend ((.o 0 rfl .nil)); quiet (ref13_C_node_st SS er61) (fun v w' h => ⟨h.1, _, _, h.2⟩))) rfl ?_
  refine wm_does (fun v K => does_field fv_Nd_l on_int rfl (Nd.get_l _)) rfl ?_
  refine wm_newcall (fun g v K G => (have ⟨M, SS⟩ := (S.ext K).lend ((.nil)); ⟨_, _, does_callg ca_ref13_one (cons2 rfl (cons2 rfl rfl)), newc (ref13_one_st SS er62) fun _ _ ⟨s', hv, h⟩ => ⟨h.frame, s', hv, h.newS.1, fun i hi => by have := h.newS.2 i hi; have := K.size; omega⟩⟩)) rfl ?_
  refine wm_does (fun v K => does_mv_i rfl) rfl ?_
  refine wm_nil fun g w64 K hV => ?_
  obtain ⟨s63, hv658, hr8, hf8⟩ := hV 8 rfl (by decide)
  replace S : St A N w w64 [oC a_0 g_0_1 r50.1, oB b7 T_Nd (Nd.C r3), oB b2 T_Term (Term.C (⟨a1.kind, a1.name, a1.other, a1.form, s_1⟩ : Term))] [fS 2 Hyp.C s63 r62, fS 2 Hyp.C SlV.nil ([]), oDTerm s_1 a1.sub] := S.addZs K (.s hr8.1 hr8.2 hf8 .nil)
  clear K hV
  obtain ⟨r66, er66, H⟩ := bind_ex H
  obtain ⟨B68, MB68, SB68, back⟩ := S.calln 1 ((.z 2 rfl (.z 0 rfl .nil)))
  refine wl_call (does_callg ca_ref13_C_checked (cons2 rfl (cons2 rfl (cons2 rfl (cons2 hv658 (cons2 rfl rfl)))))) (by decide) (ref13_C_checked_gst hrec_ref13_C_Checked (a1 := a1) SB68 er66) ?_
  rintro _ w67 ⟨rfl, S2⟩
  replace S : St A N w w67 [oC a_0 g_0_1 r66.1, oB b7 T_Nd (Nd.C r3), oB b2 T_Term (Term.C (⟨a1.kind, a1.name, a1.other, a1.form, s_1⟩ : Term))] [fS 2 Hyp.C s63 r62, fS 2 Hyp.C SlV.nil ([]), oDTerm s_1 a1.sub] := back _ _ _ _ S2 rfl
  clear back S2 SB68
  refine wd (does_as_i rfl) ?_
  refine wl_nil ?_
  refine wc_seq (wc_seq (wc_region ?_))
  refine wd (does_mv_i rfl) ?_
  refine wd (does_ne rfl rfl) ?_
  refine wl_nil ?_
  refine wc_if rfl (fun hc69 => ?_) (fun hc69 => ?_)
  ·replace H := if_t hc69 H
   refine wc_seq (wc_region ?_)
   refine wd (does_mv_i rfl) ?_
   refine wd (does_as_i rfl) ?_
   refine wl_nil ?_
   refine wc_ret ?_
   refine ⟨_, (rets1 (retOne_tmp rfl)), ?_⟩
   replace S : St A N w w67 [oC a_0 g_0_1 r66.1] [] := S.arr [0] []
   obtain rfl := Option.some.inj H
   exact ⟨rfl, S⟩
  replace H := if_f hc69 H
  refine wc_skip ?_
  refine wc_seq ?_
  obtain ⟨r70, er70, H⟩ := bind_ex H
  obtain ⟨r71, er71, H⟩ := bind_ex H
  refine wc_semi 10 [8]
   (fun i v u => match i with
   | 8 => ∃ sl, v = SlV.v sl ∧ (Rd u 2 sl (r71.map Hyp.C) ∧ r71.length ≤ 140737488355328) ∧ (∀ j, sl.fp j → w67.heap.size ≤ j)
   | _ => True) hmix (by kernel_rfl) (by kernel_rfl) ?_ ?_
  ·intro i v u u' hi hx hv
   match i, hv with
   | 8, ⟨b, e1, hr, hl⟩ => exact ⟨b, e1, ⟨hr.1.ext hx, hr.2⟩, hl⟩
   | 0, _ => exact trivial
   | 1, _ => exact trivial
   | 2, _ => exact trivial
   | 3, _ => exact trivial
   | 4, _ => exact trivial
   | 5, _ => exact trivial
   | 6, _ => exact trivial
   | 7, _ => exact trivial
   | _ + 9, _ => exact trivial
  refine wm_does (fun v K => does_mv_p rfl) rfl ?_
  refine wm_does (fun v K => does_load_agg ag_Term rfl (((S.ext K).blk 2).all _ (Term.len _)) (Term.len _)) rfl ?_
  refine wm_does (fun v K => does_fieldAddr fl_Term_other rfl (o' := 2) rfl) rfl ?_
  refine wm_does (fun v K => does_load on_string rfl (((S.ext K).blk 2).cell (Term.get_other _))) rfl ?_
  refine wm_does (fun v K => does_mv_p rfl) rfl ?_
  refine wm_does (fun v K => does_mv_i rfl) rfl ?_
  refine wm_call (fun v => does_call ca_ref13_C_node) (fun v K => (have ⟨M, SS⟩ := (S.ext K).lend ((.o 0 rfl .nil)); quiet (ref13_C_node_st SS er70) (fun v w' h => ⟨h.1, _, _, h.2⟩))) rfl ?_
  refine wm_does (fun v K => does_field fv_Nd_r on_int rfl (Nd.get_r _)) rfl ?_
  refine wm_newcall (fun g v K G => (have ⟨M, SS⟩ := (S.ext K).lend ((.nil)); ⟨_, _, does_callg ca_ref13_one (cons2 rfl (cons2 rfl rfl)), newc (ref13_one_st SS er71) fun _ _ ⟨s', hv, h⟩ => ⟨h.frame, s', hv, h.newS.1, fun i hi => by have := h.newS.2 i hi; have := K.size; omega⟩⟩)) rfl ?_
  refine wm_does (fun v K => does_mv_i rfl) rfl ?_
  refine wm_nil fun g w73 K hV => ?_
  obtain ⟨s72, hv748, hr8, hf8⟩ := hV 8 rfl (by decide)
  replace S : St A N w w73 [oC a_0 g_0_1 r66.1, oB b7 T_Nd (Nd.C r3), oB b2 T_Term (Term.C (⟨a1.kind, a1.name, a1.other, a1.form, s_1⟩ : Term))] [fS 2 Hyp.C s72 r71, fS 2 Hyp.C s63 r62, fS 2 Hyp.C SlV.nil ([]), oDTerm s_1 a1.sub] := S.addZs K (.s hr8.1 hr8.2 hf8 .nil)
  clear K hV
  obtain ⟨r75, er75, H⟩ := bind_ex H
  obtain ⟨B77, MB77, SB77, back⟩ := S.calln 1 ((.z 3 rfl (.z 0 rfl .nil)))
  refine wl_call (does_callg ca_ref13_C_checked (cons2 rfl (cons2 rfl (cons2 rfl (cons2 hv748 (cons2 rfl rfl)))))) (by decide) (ref13_C_checked_gst hrec_ref13_C_Checked (a1 := a1) SB77 er75) ?_
  rintro _ w76 ⟨rfl, S2⟩
  replace S : St A N w w76 [oC a_0 g_0_1 r75.1, oB b7 T_Nd (Nd.C r3), oB b2 T_Term (Term.C (⟨a1.kind, a1.name, a1.other, a1.form, s_1⟩ : Term))] [fS 2 Hyp.C s72 r71, fS 2 Hyp.C s63 r62, fS 2 Hyp.C SlV.nil ([]), oDTerm s_1 a1.sub] := back _ _ _ _ S2 rfl
  clear back S2 SB77
  refine wd (does_as_i rfl) ?_
  refine wl_nil ?_
  refine wc_ret ?_
  refine ⟨_, (rets1 (retOne_tmp rfl)), ?_⟩
  replace S : St A N w w76 [oC a_0 g_0_1 r75.1] [] := S.arr [0] []
  obtain rfl := Option.some.inj H
  exact ⟨rfl, S⟩
 replace H := if_f hc49 H
 refine wc_seq (wc_region ?_)
 refine wd (does_eq rfl rfl) ?_
 refine wd (does_as_b rfl) ?_
 refine wl_nil ?_
 refine wc_if rfl (fun hc78 => ?_) (fun hc78 => ?_)
 ·replace H := if_t hc78 H
  refine wc_seq (wc_region ?_)
  refine wd (does_mv_p rfl) ?_
  refine wd (does_load_agg ag_Term rfl ((S.blk 1).all _ (Term.len _)) (Term.len _)) ?_
  replace S : St A N w u36 [oB b7 T_Nd (Nd.C r3), oB b2 T_Term (Term.C (⟨a1.kind, a1.name, a1.other, a1.form, s_1⟩ : Term)), oC a_0 g_0_1 a0] [fS 2 Hyp.C SlV.nil ([]), oDTerm s_1 a1.sub] := S.nilZ 2 Hyp.C
  obtain ⟨r79, er79, H⟩ := bind_ex H
  replace S : St A N w u36 [oC a_0 g_0_1 a0, oB b7 T_Nd (Nd.C r3), oB b2 T_Term (Term.C (⟨a1.kind, a1.name, a1.other, a1.form, s_1⟩ : Term))] [fS 2 Hyp.C SlV.nil ([]), oDTerm s_1 a1.sub] := S.front 2
  obtain ⟨B81, MB81, SB81, back⟩ := S.calln 1 ((.z 1 rfl (.z 0 rfl .nil)))
  refine wl_call (does_callg ca_ref13_C_told (cons2 rfl (cons2 rfl (cons2 rfl (cons2 SlV.nil_eq rfl))))) (by decide) (ref13_C_told_gst hrec_ref13_C_Told (a1 := a1) SB81 er79) ?_
  rintro _ w80 ⟨rfl, S2⟩
  replace S : St A N w w80 [oC a_0 g_0_1 r79.1, oB b7 T_Nd (Nd.C r3), oB b2 T_Term (Term.C (⟨a1.kind, a1.name, a1.other, a1.form, s_1⟩ : Term))] [fS 2 Hyp.C SlV.nil ([]), oDTerm s_1 a1.sub] := back _ _ _ _ S2 rfl
  clear back S2 SB81
  refine wd (does_mv_t rfl) ?_
  refine wd (does_extract rfl rfl) ?_
  refine wd (does_extract rfl rfl) ?_
  refine wd (does_as_i rfl) ?_
  refine wd (does_as_i rfl) ?_
  refine wl_nil ?_
  refine wc_seq (wc_seq (wc_region ?_))
  refine wd (does_mv_i rfl) ?_
  refine wd (does_ne rfl rfl) ?_
  refine wl_nil ?_
  refine wc_if rfl (fun hc82 => ?_) (fun hc82 => ?_)
  ·replace H := if_t hc82 H
   refine wc_seq (wc_region ?_)
   refine wd (does_mv_i rfl) ?_
   refine wd (does_as_i rfl) ?_
   refine wl_nil ?_
   refine wc_ret ?_
   refine ⟨_, (rets1 (retOne_tmp rfl)), ?_⟩
   replace S : St A N w w80 [oC a_0 g_0_1 r79.1] [] := S.arr [0] []
   obtain rfl := Option.some.inj H
   exact ⟨rfl, S⟩
  replace H := if_f hc82 H
  refine wc_skip ?_
  refine wc_seq (wc_seq (wc_region ?_))
  refine wd (does_mv_p rfl) ?_
  refine wd (does_mv_i rfl) ?_
  obtain ⟨r83, er83, H⟩ := bind_ex H
  obtain ⟨B85, MB85, SB85, back⟩ := S.calln 0 ((.o 0 rfl .nil))
  refine wl_call (does_call ca_ref13_C_node) (by decide) (ref13_C_node_st SB85 er83) ?_
  rintro _ w84 ⟨rfl, S2⟩
  replace S : St A N w w84 [oC a_0 g_0_1 r79.1, oB b7 T_Nd (Nd.C r3), oB b2 T_Term (Term.C (⟨a1.kind, a1.name, a1.other, a1.form, s_1⟩ : Term))] [fS 2 Hyp.C SlV.nil ([]), oDTerm s_1 a1.sub] := back _ _ _ _ S2 rfl
  clear back S2 SB85
  refine wd (does_field fv_Nd_kind on_api_Kind rfl (Nd.get_kind _)) ?_
  refine wd (does_ne rfl rfl) ?_
  refine wl_nil ?_
  refine wc_if rfl (fun hc86 => ?_) (fun hc86 => ?_)
  ·replace H := if_t hc86 H
   refine wc_seq (wc_region ?_)
   refine wd (does_mv_p rfl) ?_
   obtain ⟨r87, er87, H⟩ := bind_ex H
   obtain ⟨B89, MB89, SB89, back⟩ := S.calln 1 ((.nil))
   refine wl_call (does_call ca_ref13_C_no) (by decide) (ref13_C_no_st SB89 er87) ?_
   rintro _ w88 ⟨rfl, S2⟩
   replace S : St A N w w88 [oC a_0 g_0_1 r87.1, oB b7 T_Nd (Nd.C r3), oB b2 T_Term (Term.C (⟨a1.kind, a1.name, a1.other, a1.form, s_1⟩ : Term))] [fS 2 Hyp.C SlV.nil ([]), oDTerm s_1 a1.sub] := back _ _ _ _ S2 rfl
   clear back S2 SB89
   refine wd (does_as_i rfl) ?_
   refine wl_nil ?_
   refine wc_ret ?_
   refine ⟨_, (rets1 (retOne_tmp rfl)), ?_⟩
   replace S : St A N w w88 [oC a_0 g_0_1 r87.1] [] := S.arr [0] []
   obtain rfl := Option.some.inj H
   exact ⟨rfl, S⟩
  replace H := if_f hc86 H
  refine wc_skip ?_
  refine wc_seq (wc_region ?_)
  refine wd (does_as_i rfl) ?_
  refine wl_nil ?_
  refine wc_ret ?_
  refine ⟨_, (rets1 (retOne_tmp rfl)), ?_⟩
  replace S : St A N w w84 [oC a_0 g_0_1 r79.1] [] := S.arr [0] []
  obtain rfl := Option.some.inj H
  exact ⟨rfl, S⟩
 replace H := if_f hc78 H
 refine wc_seq (wc_region ?_)
 refine wd (does_eq rfl rfl) ?_
 refine wd (does_as_b rfl) ?_
 refine wl_nil ?_
 refine wc_if rfl (fun hc90 => ?_) (fun hc90 => ?_)
 ·replace H := if_t hc90 H
  refine wc_seq (wc_region ?_)
  refine wd (does_mv_p rfl) ?_
  refine wd (does_load_agg ag_Term rfl ((S.blk 1).all _ (Term.len _)) (Term.len _)) ?_
  replace S : St A N w u36 [oB b7 T_Nd (Nd.C r3), oB b2 T_Term (Term.C (⟨a1.kind, a1.name, a1.other, a1.form, s_1⟩ : Term)), oC a_0 g_0_1 a0] [fS 2 Hyp.C SlV.nil ([]), oDTerm s_1 a1.sub] := S.nilZ 2 Hyp.C
  obtain ⟨r91, er91, H⟩ := bind_ex H
  replace S : St A N w u36 [oC a_0 g_0_1 a0, oB b7 T_Nd (Nd.C r3), oB b2 T_Term (Term.C (⟨a1.kind, a1.name, a1.other, a1.form, s_1⟩ : Term))] [fS 2 Hyp.C SlV.nil ([]), oDTerm s_1 a1.sub] := S.front 2
  obtain ⟨B93, MB93, SB93, back⟩ := S.calln 1 ((.z 1 rfl (.z 0 rfl .nil)))
  refine wl_call (does_callg ca_ref13_C_told (cons2 rfl (cons2 rfl (cons2 rfl (cons2 SlV.nil_eq rfl))))) (by decide) (ref13_C_told_gst hrec_ref13_C_Told (a1 := a1) SB93 er91) ?_
  rintro _ w92 ⟨rfl, S2⟩
  replace S : St A N w w92 [oC a_0 g_0_1 r91.1, oB b7 T_Nd (Nd.C r3), oB b2 T_Term (Term.C (⟨a1.kind, a1.name, a1.other, a1.form, s_1⟩ : Term))] [fS 2 Hyp.C SlV.nil ([]), oDTerm s_1 a1.sub] := back _ _ _ _ S2 rfl
  clear back S2 SB93
  refine wd (does_mv_t rfl) ?_
  refine wd (does_extract rfl rfl) ?_
  refine wd (does_extract rfl rfl) ?_
  refine wd (does_as_i rfl) ?_
  refine wd (does_as_i rfl) ?_
  refine wl_nil ?_
  refine wc_seq (wc_seq (wc_region ?_))
  refine wd (does_mv_i rfl) ?_
  refine wd (does_ne rfl rfl) ?_
  refine wl_nil ?_
  refine wc_if rfl (fun hc94 => ?_) (fun hc94 => ?_)
  ·replace H := if_t hc94 H
   refine wc_seq (wc_region ?_)
   refine wd (does_mv_i rfl) ?_
   refine wd (does_as_i rfl) ?_
   refine wl_nil ?_
   refine wc_ret ?_
   refine ⟨_, (rets1 (retOne_tmp rfl)), ?_⟩
   replace S : St A N w w92 [oC a_0 g_0_1 r91.1] [] := S.arr [0] []
   obtain rfl := Option.some.inj H
   exact ⟨rfl, S⟩
  replace H := if_f hc94 H
  refine wc_skip ?_
  refine wc_seq ?_
  obtain ⟨r95, er95, H⟩ := bind_ex H
  refine wc_semi 7 [5]
   (fun i v u => match i with
   | 5 => ∃ sl, v = SlV.v sl ∧ (Rd u 2 sl (r95.map Hyp.C) ∧ r95.length ≤ 140737488355328) ∧ (∀ j, sl.fp j → w92.heap.size ≤ j)
   | _ => True) hmix (by kernel_rfl) (by kernel_rfl) ?_ ?_
  ·intro i v u u' hi hx hv
   match i, hv with
   | 5, ⟨b, e1, hr, hl⟩ => exact ⟨b, e1, ⟨hr.1.ext hx, hr.2⟩, hl⟩
   | 0, _ => exact trivial
   | 1, _ => exact trivial
   | 2, _ => exact trivial
   | 3, _ => exact trivial
   | 4, _ => exact trivial
   | _ + 6, _ => exact trivial
  refine wm_does (fun v K => does_mv_p rfl) rfl ?_
  refine wm_does (fun v K => does_load_agg ag_Term rfl (((S.ext K).blk 2).all _ (Term.len _)) (Term.len _)) rfl ?_
  refine wm_does (fun v K => does_fieldAddr fl_Term_name rfl (o' := 1) rfl) rfl ?_
  refine wm_does (fun v K => does_load on_string rfl (((S.ext K).blk 2).cell (Term.get_name _))) rfl ?_
  refine wm_does (fun v K => does_mv_i rfl) rfl ?_
  refine wm_newcall (fun g v K G => (have ⟨M, SS⟩ := (S.ext K).lend ((.nil)); ⟨_, _, does_callg ca_ref13_one (cons2 rfl (cons2 rfl rfl)), newc (ref13_one_st SS er95) fun _ _ ⟨s', hv, h⟩ => ⟨h.frame, s', hv, h.newS.1, fun i hi => by have := h.newS.2 i hi; have := K.size; omega⟩⟩)) rfl ?_
  refine wm_does (fun v K => does_mv_i rfl) rfl ?_
  refine wm_nil fun g w97 K hV => ?_
  obtain ⟨s96, hv985, hr5, hf5⟩ := hV 5 rfl (by decide)
  replace S : St A N w w97 [oC a_0 g_0_1 r91.1, oB b7 T_Nd (Nd.C r3), oB b2 T_Term (Term.C (⟨a1.kind, a1.name, a1.other, a1.form, s_1⟩ : Term))] [fS 2 Hyp.C s96 r95, fS 2 Hyp.C SlV.nil ([]), oDTerm s_1 a1.sub] := S.addZs K (.s hr5.1 hr5.2 hf5 .nil)
  clear K hV
  obtain ⟨r99, er99, H⟩ := bind_ex H
  obtain ⟨B101, MB101, SB101, back⟩ := S.calln 1 ((.z 2 rfl (.z 0 rfl .nil)))
  refine wl_call (does_callg ca_ref13_C_checked (cons2 rfl (cons2 rfl (cons2 rfl (cons2 hv985 (cons2 rfl rfl)))))) (by decide) (ref13_C_checked_gst hrec_ref13_C_Checked (a1 := a1) SB101 er99) ?_
  rintro _ w100 ⟨rfl, S2⟩
  replace S : St A N w w100 [oC a_0 g_0_1 r99.1, oB b7 T_Nd (Nd.C r3), oB b2 T_Term (Term.C (⟨a1.kind, a1.name, a1.other, a1.form, s_1⟩ : Term))] [fS 2 Hyp.C s96 r95, fS 2 Hyp.C SlV.nil ([]), oDTerm s_1 a1.sub] := back _ _ _ _ S2 rfl
  clear back S2 SB101
  refine wd (does_as_i rfl) ?_
  refine wl_nil ?_
  refine wc_ret ?_
  refine ⟨_, (rets1 (retOne_tmp rfl)), ?_⟩
  replace S : St A N w w100 [oC a_0 g_0_1 r99.1] [] := S.arr [0] []
  obtain rfl := Option.some.inj H
  exact ⟨rfl, S⟩
 replace H := if_f hc90 H
 refine wc_skip ?_
 refine wc_seq (wc_region ?_)
 refine wd (does_mv_p rfl) ?_
 refine wd (does_load_agg ag_Term rfl ((S.blk 1).all _ (Term.len _)) (Term.len _)) ?_
 obtain ⟨r102, er102, H⟩ := bind_ex H
 replace S : St A N w u36 [oC a_0 g_0_1 a0, oB b7 T_Nd (Nd.C r3), oB b2 T_Term (Term.C (⟨a1.kind, a1.name, a1.other, a1.form, s_1⟩ : Term))] [oDTerm s_1 a1.sub] := S.front 2
 obtain ⟨B104, MB104, SB104, back⟩ := S.calln 1 ((.z 0 rfl .nil))
 refine wl_call (does_call ca_ref13_C_Told) (by decide) (hrec_ref13_C_Told (a1 := a1) SB104 er102) ?_
 rintro _ w103 ⟨rfl, S2⟩
 replace S : St A N w w103 [oC a_0 g_0_1 r102.1, oB b7 T_Nd (Nd.C r3), oB b2 T_Term (Term.C (⟨a1.kind, a1.name, a1.other, a1.form, s_1⟩ : Term))] [oDTerm s_1 a1.sub] := back _ _ _ _ S2 rfl
 clear back S2 SB104
 refine wd (does_mv_t rfl) ?_
 refine wd (does_extract rfl rfl) ?_
 refine wd (does_extract rfl rfl) ?_
 refine wd (does_as_i rfl) ?_
 refine wd (does_as_i rfl) ?_
 refine wl_nil ?_
 refine wc_seq (wc_seq (wc_region ?_))
 refine wd (does_mv_i rfl) ?_
 refine wd (does_ne rfl rfl) ?_
 refine wl_nil ?_
 refine wc_if rfl (fun hc105 => ?_) (fun hc105 => ?_)
 ·replace H := if_t hc105 H
  refine wc_seq (wc_region ?_)
  refine wd (does_mv_i rfl) ?_
  refine wd (does_as_i rfl) ?_
  refine wl_nil ?_
  refine wc_ret ?_
  refine ⟨_, (rets1 (retOne_tmp rfl)), ?_⟩
  replace S : St A N w w103 [oC a_0 g_0_1 r102.1] [] := S.arr [0] []
  obtain rfl := Option.some.inj H
  exact ⟨rfl, S⟩
 replace H := if_f hc105 H
 refine wc_skip ?_
 refine wc_seq (wc_seq (wc_region ?_))
 refine wd (does_mv_i rfl) ?_
 refine wd (does_mv_i rfl) ?_
 refine wd (does_ne rfl rfl) ?_
 refine wl_nil ?_
 refine wc_if rfl (fun hc106 => ?_) (fun hc106 => ?_)
 ·replace H := if_t hc106 H
  refine wc_seq (wc_region ?_)
  refine wd (does_mv_p rfl) ?_
  obtain ⟨r107, er107, H⟩ := bind_ex H
  obtain ⟨B109, MB109, SB109, back⟩ := S.calln 1 ((.nil))
  refine wl_call (does_call ca_ref13_C_no) (by decide) (ref13_C_no_st SB109 er107) ?_
  rintro _ w108 ⟨rfl, S2⟩
  replace S : St A N w w108 [oC a_0 g_0_1 r107.1, oB b7 T_Nd (Nd.C r3), oB b2 T_Term (Term.C (⟨a1.kind, a1.name, a1.other, a1.form, s_1⟩ : Term))] [oDTerm s_1 a1.sub] := back _ _ _ _ S2 rfl
  clear back S2 SB109
  refine wd (does_as_i rfl) ?_
  refine wl_nil ?_
  refine wc_ret ?_
  refine ⟨_, (rets1 (retOne_tmp rfl)), ?_⟩
  replace S : St A N w w108 [oC a_0 g_0_1 r107.1] [] := S.arr [0] []
  obtain rfl := Option.some.inj H
  exact ⟨rfl, S⟩
 replace H := if_f hc106 H
 refine wc_skip ?_
 refine wc_seq (wc_region ?_)
 refine wd (does_as_i rfl) ?_
 refine wl_nil ?_
 refine wc_ret ?_
 refine ⟨_, (rets1 (retOne_tmp rfl)), ?_⟩
 replace S : St A N w w103 [oC a_0 g_0_1 r102.1] [] := S.arr [0] []
 obtain rfl := Option.some.inj H
 exact ⟨rfl, S⟩
theorem ref13_tc_both : ∀ (k : Nat), (∀ {A : Nat → Prop} {N : Oth} {w : World} {a0 : PC} {a_0 : Option Addr} {g_0_1 : Option Addr} {a1 : PTerm} {s_1 : SlV} (S : St A N w w [oC a_0 g_0_1 a0] [oDTerm s_1 a1.sub]) {r : PC × Int × Int} (H : ref13_C_Told.f k a0 a1 = some r), Calls PP F_ref13_C_Told #[.pointer a_0, .agg (Term.C (⟨a1.kind, a1.name, a1.other, a1.form, s_1⟩ : Term)).toArray] w fun e w' => ∃ v, e = .returned v ∧ (v = .tuple #[.int .i64 r.2.1, .int .i64 r.2.2] ∧ St A N w w' [oC a_0 g_0_1 r.1] [])) ∧ (∀ {A : Nat → Prop} {N : Oth} {w : World} {a0 : PC} {a_0 : Option Addr} {g_0_1 : Option Addr} {a1 : PTerm} {s_1 : SlV} {a2 : Int} (S : St A N w w [oC a_0 g_0_1 a0] [oDTerm s_1 a1.sub]) {r : PC × Int} (H : ref13_C_Checked.f k a0 a1 a2 = some r), Calls PP F_ref13_C_Checked #[.pointer a_0, .agg (Term.C (⟨a1.kind, a1.name, a1.other, a1.form, s_1⟩ : Term)).toArray, .int .i64 a2] w fun e w' => ∃ v, e = .returned v ∧ (v = .int .i64 r.2 ∧ St A N w w' [oC a_0 g_0_1 r.1] [])) := by
 intro k
 induction k with
 | zero =>
  refine ⟨?_, ?_⟩
  ·intro A N w a0 a_0 g_0_1 a1 s_1 S r H; cases H
  ·intro A N w a0 a_0 g_0_1 a1 s_1 a2 S r H; cases H
 | succ k ih =>
  refine ⟨?_, ?_⟩
  ·intro A N w a0 a_0 g_0_1 a1 s_1 S r H; exact ref13_C_Told_gst ih.1 ih.2 S H
  ·intro A N w a0 a_0 g_0_1 a1 s_1 a2 S r H; exact ref13_C_Checked_gst ih.1 ih.2 S H
theorem ref13_C_Told_st {A : Nat → Prop} {N : Oth} {w : World} {a0 : PC} {a_0 : Option Addr} {g_0_1 : Option Addr} {a1 : PTerm} {s_1 : SlV} (S : St A N w w [oC a_0 g_0_1 a0] [oDTerm s_1 a1.sub]) {k : Nat} {r : PC × Int × Int} (H : ref13_C_Told.f k a0 a1 = some r) :
  Calls PP F_ref13_C_Told #[.pointer a_0, .agg (Term.C (⟨a1.kind, a1.name, a1.other, a1.form, s_1⟩ : Term)).toArray] w fun e w' => ∃ v, e = .returned v ∧ (v = .tuple #[.int .i64 r.2.1, .int .i64 r.2.2] ∧ St A N w w' [oC a_0 g_0_1 r.1] []) := by exact (ref13_tc_both k).1 S H
theorem ref13_C_Checked_st {A : Nat → Prop} {N : Oth} {w : World} {a0 : PC} {a_0 : Option Addr} {g_0_1 : Option Addr} {a1 : PTerm} {s_1 : SlV} {a2 : Int} (S : St A N w w [oC a_0 g_0_1 a0] [oDTerm s_1 a1.sub]) {k : Nat} {r : PC × Int} (H : ref13_C_Checked.f k a0 a1 a2 = some r) :
  Calls PP F_ref13_C_Checked #[.pointer a_0, .agg (Term.C (⟨a1.kind, a1.name, a1.other, a1.form, s_1⟩ : Term)).toArray, .int .i64 a2] w fun e w' => ∃ v, e = .returned v ∧ (v = .int .i64 r.2 ∧ St A N w w' [oC a_0 g_0_1 r.1] []) := by exact (ref13_tc_both k).2 S H
theorem ref13_ahead_st {A : Nat → Prop} {N : Oth} {w : World} {a0 : Tb} {a_0 : Option Addr} {a1 : List Hyp} {s_1 : SlV} {a2 : PTerm} {s_2 : SlV} (S : St A N w w [] [oR a_0 a0, fS 2 Hyp.C s_1 a1, oDTerm s_2 a2.sub]) {k : Nat} {r : Int} (H : ref13_ahead.f k a0 a1 a2 = some r) :
  Calls PP F_ref13_ahead #[.pointer a_0, s_1.v, .agg (Term.C (⟨a2.kind, a2.name, a2.other, a2.form, s_2⟩ : Term)).toArray] w fun e w' => ∃ v, e = .returned v ∧ (v = .int .i64 r ∧ St A N w w' [] []) := by
 unfold ref13_ahead.f at H
 refine calls_of_wc (n := 24) fn_ref13_ahead rfl rfl (by simp) ?_
 refine wc_seq (wc_region ?_)
 refine wl_box_agg rfl (by decide) fun b2 w1 hw1 => ?_
 replace S : St A N w w1 [oB b2 T_Term (Term.C (⟨a2.kind, a2.name, a2.other, a2.form, s_2⟩ : Term))] [oR a_0 a0, fS 2 Hyp.C s_1 a1, oDTerm s_2 a2.sub] := S.new hw1
 refine wd (does_as_i rfl) ?_
 refine wl_nil ?_
 refine wc_seq (wc_seq (wc_region ?_))
 refine wd (does_as_i rfl) ?_
 refine wl_nil ?_
 obtain ⟨o3, e3, Ho3⟩ := bind_ex H
 clear H
 refine wc_cutq [6, 7, 8, 9, 10, 11, 12, 13, 14, 15, 16, 17, 18, 19, 20, 21] (fun fr W => ∃ s3 : Unit, o3 = .inl s3 ∧ St A N w W [oB b2 T_Term (Term.C (⟨a2.kind, a2.name, a2.other, a2.form, s_2⟩ : Term))] [oR a_0 a0, fS 2 Hyp.C s_1 a1, oDTerm s_2 a2.sub]) ?_ ?_
 ·refine wc_block ?_
  refine wc_loopm (α := Nat × Int × Unit) [6, 7, 8, 9, 10, 11, 12, 13, 14, 15, 16, 17, 18, 19, 20, 21] (fun x fr W => (x.1 : Int) = (a1.length : Int) - x.2.1 ∧ 0 ≤ x.2.1 ∧ forN (fun i s => ref13_ahead.b0 a0 a1 i) x.1 x.2.1 x.2.2 = some o3 ∧ fr 7 = .int .i64 x.2.1 ∧ St A N w W [oB b2 T_Term (Term.C (⟨a2.kind, a2.name, a2.other, a2.form, s_2⟩ : Term))] [oR a_0 a0, fS 2 Hyp.C s_1 a1, oDTerm s_2 a2.sub]) (fun x => x.1) (((a1.length : Int) - 0).toNat, 0, ()) ⟨(by dsimp only; have hle := Int.natCast_nonneg (a1.length); omega), (Int.le_refl _), (by dsimp only; exact e3), rfl, S⟩ ?_
  rintro ⟨m3, i3, _⟩ g3 u3 ⟨hm3, hl3, e3, q3_i, S⟩
  try dsimp only at hm3
  try dsimp only at hl3
  try dsimp only at e3
  try dsimp only at S
  try dsimp only at q3_i
  refine wc_seq (wc_seq (wc_region ?_))
  refine wd (does_mv_i q3_i) ?_
  refine wd (does_mv_l rfl) ?_
  refine wd (does_lenR sl_L_api_Hyp rfl (S.rd 1)) ?_
  refine wd (does_lt rfl rfl) ?_
  refine wl_nil ?_
  refine wc_if rfl (fun hc4 => ?_) (fun hc4 => ?_)
  rotate_left
  ·refine wc_exit ?_
   have hge : (a1.length : Int) ≤ i3 := Int.not_lt.1 (of_decide_eq_false hc4)
   obtain rfl : m3 = 0 := by omega
   replace e3 := forN_0 e3
   exact ⟨rfl, (((((Dif.self _ _ _).upd rfl _).upd rfl _).upd rfl _).upd rfl _), (), e3, S⟩
  refine wc_skip ?_
  have hlt3 : i3 < (a1.length : Int) := of_decide_eq_true hc4
  obtain ⟨m3, rfl⟩ : ∃ m, m3 = m + 1 := ⟨m3 - 1, by omega⟩
  obtain ⟨q3, H, e3⟩ := forN_s e3
  unfold ref13_ahead.b0 at H
  try dsimp only at H
  have hb3 := (S.len 1)
  refine wc_seq ?_
  refine wc_block ?_
  refine wc_seq (wc_region ?_)
  refine wd (does_mv_p rfl) ?_
  refine wd (does_mv_l rfl) ?_
  refine wd (does_mv_i q3_i) ?_
  refine wd (does_indexR sl_L_api_Hyp rfl rfl (S.rd 1) (And.intro (show 0 ≤ i3 by omega) (show i3 < (a1.length : Int) from hlt3)).1 (And.intro (show 0 ≤ i3 by omega) (show i3 < (a1.length : Int) from hlt3)).2) ?_
  refine wd (does_fieldAddr fl_Hyp_form rfl (o' := _) rfl) ?_
  refine wd (does_load on_int rfl (((S.rd 1).at (at_some Hyp.z (And.intro (show 0 ≤ i3 by omega) (show i3 < (a1.length : Int) from hlt3)))).get (Hyp.get_form _))) ?_
  obtain ⟨r6, er6, H⟩ := bind_ex H
  obtain ⟨B8, MB8, SB8, back⟩ := S.calln 0 ((.z 0 rfl .nil))
  refine wl_call (does_call ca_ref03_T_Has) (by decide) (ref03_T_Has_st SB8 er6) ?_
  rintro _ w7 ⟨rfl, S2⟩
  replace S : St A N w w7 [oB b2 T_Term (Term.C (⟨a2.kind, a2.name, a2.other, a2.form, s_2⟩ : Term))] [oR a_0 a0, fS 2 Hyp.C s_1 a1, oDTerm s_2 a2.sub] := back _ _ _ _ S2 rfl
  clear back S2 SB8
  refine wd (does_not rfl) ?_
  refine wl_nil ?_
  refine wc_if rfl (fun hc9 => ?_) (fun hc9 => ?_)
  ·replace H := if_t hc9 H
   refine wc_seq (wc_region ?_)
   refine wd (does_as_i rfl) ?_
   refine wl_nil ?_
   refine wc_ret ?_
   refine ⟨_, (rets1 (retOne_tmp rfl)), ?_⟩
   replace S : St A N w w7 [] [] := S.arr [] []
   obtain rfl := Option.some.inj H
   obtain rfl := e3
   obtain rfl := aft_r Ho3
   exact ⟨rfl, S⟩
  replace H := if_f hc9 H
  refine wc_skip ?_
  refine wc_region ?_
  refine wd (does_mv_i q3_i) ?_
  refine wd (does_addc rfl rfl (c := i3 + 1) rfl (by omega) (by omega)) ?_
  refine wd (does_as_i rfl) ?_
  refine wl_nil ?_
  obtain rfl := Option.some.inj H
  exact ⟨rfl, ((((((((((((((((Dif.self _ _ _).upd rfl _).upd rfl _).upd rfl _).upd rfl _).upd rfl _).upd rfl _).upd rfl _).upd rfl _).upd rfl _).upd rfl _).upd rfl _).upd rfl _).upd rfl _).upd rfl _).upd rfl _), (m3, i3 + 1, ()), ⟨(by dsimp only; omega), (by dsimp only; omega), e3, rfl, S⟩, by dsimp only; omega⟩
 rintro g10 u11 ⟨s3, rfl, S⟩
 have H := Ho3
 dsimp only [aft] at H
 refine wc_seq (wc_region ?_)
 refine wd (does_load_agg ag_Term rfl ((S.blk 0).all _ (Term.len _)) (Term.len _)) ?_
 obtain ⟨r12, er12, H⟩ := bind_ex H
 obtain ⟨B14, MB14, SB14, back⟩ := S.calln 0 ((.z 2 rfl .nil))
 refine wl_call (does_call ca_ref12_Check) (by decide) (ref12_Check_st (a0 := a2) SB14 er12) ?_
 rintro _ w13 ⟨rfl, S2⟩
 replace S : St A N w w13 [oB b2 T_Term (Term.C (⟨a2.kind, a2.name, a2.other, a2.form, s_2⟩ : Term))] [oR a_0 a0, fS 2 Hyp.C s_1 a1, oDTerm s_2 a2.sub] := back _ _ _ _ S2 rfl
 clear back S2 SB14
 refine wd (does_as_i rfl) ?_
 refine wl_nil ?_
 refine wc_ret ?_
 refine ⟨_, (rets1 (retOne_tmp rfl)), ?_⟩
 replace S : St A N w w13 [] [] := S.arr [] []
 obtain rfl := Option.some.inj H
 exact ⟨rfl, S⟩
theorem ref13_checker_st {A : Nat → Prop} {N : Oth} {w : World} {a0 : Tb} {a_0 : Option Addr} {a1 : List Hyp} {s_1 : SlV} (S : St A N w w [oR a_0 a0] [fS 2 Hyp.C s_1 a1]) {r : PC} (H : ref13_checker.f a0 a1 = some r) :
  Calls PP F_ref13_checker #[.pointer a_0, s_1.v] w fun e w' => ∃ v, e = .returned v ∧ (∃ ao0 : Option Addr, v = .pointer ao0 ∧ St A N w w' [oC ao0 a_0 r] []) := by
 unfold ref13_checker.f at H
 refine calls_of_wc (n := 19) fn_ref13_checker rfl rfl (by simp) ?_
 refine wc_seq (wc_region ?_)
 refine wd (does_as_p rfl) ?_
 refine wl_nil ?_
 refine wc_seq (wc_region ?_)
 refine wd (does_mv_p rfl) ?_
 refine wd (Does.to (v' := .agg (RC.C (⟨a_0, SlV.nil, SlV.nil, SlV.nil⟩ : RC)).toArray) (does_buildv (vs := [(0, .pointer a_0)]) bu_RC (consP rfl rfl) (Bld.one rfl rfl (by rw [RC.len]; decide) (RC.set_t _ _) Bld.nil)) rfl) ?_
 refine wl_box_agg rfl (by decide) fun b2 w1 hw1 => ?_
 replace S : St A N w w1 [oB b2 T_RC (RC.C (⟨a_0, SlV.nil, SlV.nil, SlV.nil⟩ : RC)), oR a_0 a0] [fS 2 Hyp.C s_1 a1] := S.new hw1
 replace S := S.nil T_Hyp 2 Hyp.C
 replace S := S.nil T_int 1 IC
 replace S := S.nil T_int 1 IC
 replace S := S.front 1
 replace S := S.front 2
 replace S := S.front 4
 replace S := S.front 4
 replace S : St A N w w1 [oC (some ⟨b2, 0, none⟩) a_0 (⟨a0, ([] : List Hyp), ([] : List Int), ([] : List Int)⟩ : PC)] [fS 2 Hyp.C s_1 a1] := S.shut_oC rfl
 refine wd (does_as_p rfl) ?_
 refine wl_nil ?_
 refine wc_seq (wc_region ?_)
 refine wd (does_mv_p rfl) ?_
 refine wd (does_mv_p rfl) ?_
 obtain ⟨p3, s5, s6, s7, hp4, S⟩ := S.open_oC 0
 replace S : St A N w w1 [oB p3 T_RC (RC.C (⟨a_0, s5, s6, s7⟩ : RC)), oR a_0 a0, oS T_Hyp 2 Hyp.C s5 ([] : List Hyp), oS T_int 1 IC s6 ([] : List Int), oS T_int 1 IC s7 ([] : List Int)] [fS 2 Hyp.C s_1 a1] := S
 refine wd (does_nilCheck (congrArg Value.pointer hp4)) ?_
 refine wd (does_fieldAddr fl_RC_hyps rfl (o' := 1) rfl) ?_
 refine wd (does_load on_L_api_Hyp rfl ((S.blk 0).cell (RC.get_hyps _))) ?_
 refine wd (does_mv_l rfl) ?_
 obtain ⟨ha10, H⟩ := chk_ex H
 have ha10 := of_decide_eq_true ha10
 refine wl_appendm (C := Hyp.C) sl_L_api_Hyp el_Hyp rfl rfl (S.sl 2) (S.rd 0) Hyp.one ha10 (by omega) (by decide) fun s9 w8 O hw8 gw8 => ?_
 replace S : St A N w w8 [oS T_Hyp 2 Hyp.C s9 (([] : List Hyp) ++ a1), oB p3 T_RC (RC.C (⟨a_0, s5, s6, s7⟩ : RC)), oR a_0 a0, oS T_int 1 IC s6 ([] : List Int), oS T_int 1 IC s7 ([] : List Int)] [fS 2 Hyp.C s_1 a1] := S.push 2 O (by first | (simp; done) | (simp; omega)) hw8 gw8
 clear O
 refine wd (does_nilCheck (congrArg Value.pointer hp4)) ?_
 refine wd (does_fieldAddr fl_RC_hyps rfl (o' := 1) rfl) ?_
 refine wl_store on_L_api_Hyp rfl rfl (S.blk 1) (by rw [RC.len]; decide) (SlV.one _ _ rfl) (RC.set_hyps _ _) fun w11 B hw11 zw11 => ?_
 replace S : St A N w w11 [oB p3 T_RC (RC.C (⟨a_0, s9, s6, s7⟩ : RC)), oS T_Hyp 2 Hyp.C s9 (([] : List Hyp) ++ a1), oR a_0 a0, oS T_int 1 IC s6 ([] : List Int), oS T_int 1 IC s7 ([] : List Int)] [fS 2 Hyp.C s_1 a1] := S.store 1 B hw11
 clear B
 replace S := S.front 4
 replace S := S.front 4
 replace S := S.front 3
 replace S := S.front 4
 replace S := S.front 4
 replace S : St A N w w11 [oC (some ⟨b2, 0, none⟩) a_0 (⟨a0, ([] : List Hyp) ++ a1, ([] : List Int), ([] : List Int)⟩ : PC)] [fS 2 Hyp.C s_1 a1] := S.shut_oC hp4
 refine wl_nil ?_
 refine wc_seq (wc_region ?_)
 refine wd (does_mv_p rfl) ?_
 refine wd (does_as_p rfl) ?_
 refine wl_nil ?_
 refine wc_ret ?_
 refine ⟨_, (rets1 (retOne_tmp rfl)), ?_⟩
 replace S : St A N w w11 [oC (some ⟨b2, 0, none⟩) a_0 (⟨a0, ([] : List Hyp) ++ a1, ([] : List Int), ([] : List Int)⟩ : PC)] [] := S.arr [0] []
 obtain rfl := Option.some.inj H
 exact ⟨(some ⟨b2, 0, none⟩), rfl, S⟩
theorem ref13_Where_st {A : Nat → Prop} {N : Oth} {w : World} {a0 : Tb} {a_0 : Option Addr} {a1 : List Hyp} {s_1 : SlV} {a2 : PTerm} {s_2 : SlV} {a3 : Int} (S : St A N w w [oR a_0 a0] [fS 2 Hyp.C s_1 a1, oDTerm s_2 a2.sub]) {k : Nat} {r : Tb × List Int × Int} (H : ref13_Where.f k a0 a1 a2 a3 = some r) :
  Calls PP F_ref13_Where #[.pointer a_0, s_1.v, .agg (Term.C (⟨a2.kind, a2.name, a2.other, a2.form, s_2⟩ : Term)).toArray, .int .i64 a3] w fun e w' => ∃ v, e = .returned v ∧ (∃ so0 : SlV, v = .tuple #[so0.v, .int .i64 r.2.2] ∧ St A N w w' [oR a_0 r.1, oS T_int 1 IC so0 r.2.1] []) := by
 unfold ref13_Where.f at H
 refine calls_of_wc (n := 37) fn_ref13_Where rfl rfl (by simp) ?_
 refine wc_seq (wc_region ?_)
 refine wl_box_agg rfl (by decide) fun b2 w1 hw1 => ?_
 replace S : St A N w w1 [oB b2 T_Term (Term.C (⟨a2.kind, a2.name, a2.other, a2.form, s_2⟩ : Term)), oR a_0 a0] [fS 2 Hyp.C s_1 a1, oDTerm s_2 a2.sub] := S.new hw1
 refine wd (does_as_nil) ?_
 refine wd (does_as_i rfl) ?_
 refine wl_nil ?_
 refine wc_seq (wc_seq (wc_region ?_))
 refine wd (does_mv_p rfl) ?_
 refine wd (does_mv_i rfl) ?_
 obtain ⟨r3, er3, H⟩ := bind_ex H
 obtain ⟨B5, MB5, SB5, back⟩ := S.calln 0 ((.o 1 rfl .nil))
 refine wl_call (does_call ca_ref03_T_Has) (by decide) (ref03_T_Has_st SB5 er3) ?_
 rintro _ w4 ⟨rfl, S2⟩
 replace S : St A N w w4 [oB b2 T_Term (Term.C (⟨a2.kind, a2.name, a2.other, a2.form, s_2⟩ : Term)), oR a_0 a0] [fS 2 Hyp.C s_1 a1, oDTerm s_2 a2.sub] := back _ _ _ _ S2 rfl
 clear back S2 SB5
 refine wd (does_not rfl) ?_
 refine wl_nil ?_
 refine wc_if rfl (fun hc6 => ?_) (fun hc6 => ?_)
 ·replace H := if_t hc6 H
  refine wc_seq (wc_region ?_)
  refine wd (does_as_nil) ?_
  refine wd (does_as_i rfl) ?_
  refine wl_nil ?_
  refine wc_ret ?_
  replace S : St A N w w4 [oS T_int 1 IC SlV.nil ([] : List Int), oB b2 T_Term (Term.C (⟨a2.kind, a2.name, a2.other, a2.form, s_2⟩ : Term)), oR a_0 a0] [fS 2 Hyp.C s_1 a1, oDTerm s_2 a2.sub] := S.nil T_int 1 IC
  refine ⟨_, (rets2 (retOne_tmp rfl) (retOne_tmp rfl)), ?_⟩
  replace S : St A N w w4 [oR a_0 a0, oS T_int 1 IC SlV.nil ([] : List Int)] [] := S.arr [2, 0] []
  obtain rfl := Option.some.inj H
  exact ⟨SlV.nil, rfl, S⟩
 replace H := if_f hc6 H
 refine wc_skip ?_
 refine wc_seq (wc_region ?_)
 refine wd (does_mv_p rfl) ?_
 refine wd (does_mv_l rfl) ?_
 refine wd (does_load_agg ag_Term rfl ((S.blk 0).all _ (Term.len _)) (Term.len _)) ?_
 obtain ⟨r7, er7, H⟩ := bind_ex H
 obtain ⟨B9, MB9, SB9, back⟩ := S.calln 0 ((.o 1 rfl (.z 0 rfl (.z 1 rfl .nil))))
 refine wl_call (does_call ca_ref13_ahead) (by decide) (ref13_ahead_st (a2 := a2) SB9 er7) ?_
 rintro _ w8 ⟨rfl, S2⟩
 replace S : St A N w w8 [oB b2 T_Term (Term.C (⟨a2.kind, a2.name, a2.other, a2.form, s_2⟩ : Term)), oR a_0 a0] [fS 2 Hyp.C s_1 a1, oDTerm s_2 a2.sub] := back _ _ _ _ S2 rfl
 clear back S2 SB9
 refine wd (does_as_i rfl) ?_
 refine wl_nil ?_
 refine wc_seq (wc_seq (wc_region ?_))
 refine wd (does_mv_i rfl) ?_
 refine wd (does_ne rfl rfl) ?_
 refine wl_nil ?_
 refine wc_if rfl (fun hc10 => ?_) (fun hc10 => ?_)
 ·replace H := if_t hc10 H
  refine wc_seq (wc_region ?_)
  refine wd (does_mv_i rfl) ?_
  refine wd (does_as_nil) ?_
  refine wd (does_as_i rfl) ?_
  refine wl_nil ?_
  refine wc_ret ?_
  replace S : St A N w w8 [oS T_int 1 IC SlV.nil ([] : List Int), oB b2 T_Term (Term.C (⟨a2.kind, a2.name, a2.other, a2.form, s_2⟩ : Term)), oR a_0 a0] [fS 2 Hyp.C s_1 a1, oDTerm s_2 a2.sub] := S.nil T_int 1 IC
  refine ⟨_, (rets2 (retOne_tmp rfl) (retOne_tmp rfl)), ?_⟩
  replace S : St A N w w8 [oR a_0 a0, oS T_int 1 IC SlV.nil ([] : List Int)] [] := S.arr [2, 0] []
  obtain rfl := Option.some.inj H
  exact ⟨SlV.nil, rfl, S⟩
 replace H := if_f hc10 H
 refine wc_skip ?_
 refine wc_seq (wc_region ?_)
 refine wd (does_mv_p rfl) ?_
 refine wd (does_mv_l rfl) ?_
 obtain ⟨r11, er11, H⟩ := bind_ex H
 replace S : St A N w w8 [oR a_0 a0, oB b2 T_Term (Term.C (⟨a2.kind, a2.name, a2.other, a2.form, s_2⟩ : Term))] [fS 2 Hyp.C s_1 a1, oDTerm s_2 a2.sub] := S.front 1
 obtain ⟨B13, MB13, SB13, back⟩ := S.calln 1 ((.z 0 rfl .nil))
 refine wl_call (does_call ca_ref13_checker) (by decide) (ref13_checker_st SB13 er11) ?_
 rintro _ w12 ⟨a14, rfl, S2⟩
 replace S : St A N w w12 [oC a14 a_0 r11, oB b2 T_Term (Term.C (⟨a2.kind, a2.name, a2.other, a2.form, s_2⟩ : Term))] [fS 2 Hyp.C s_1 a1, oDTerm s_2 a2.sub] := back _ _ _ _ S2 rfl
 clear back S2 SB13
 refine wd (does_as_p rfl) ?_
 refine wl_nil ?_
 refine wc_seq (wc_region ?_)
 refine wd (does_mv_p rfl) ?_
 refine wd (does_load_agg ag_Term rfl ((S.blk 1).all _ (Term.len _)) (Term.len _)) ?_
 refine wd (does_mv_i rfl) ?_
 obtain ⟨r15, er15, H⟩ := bind_ex H
 obtain ⟨B17, MB17, SB17, back⟩ := S.calln 1 ((.z 1 rfl .nil))
 refine wl_call (does_call ca_ref13_C_Checked) (by decide) (ref13_C_Checked_st (a1 := a2) SB17 er15) ?_
 rintro _ w16 ⟨rfl, S2⟩
 replace S : St A N w w16 [oC a14 a_0 r15.1, oB b2 T_Term (Term.C (⟨a2.kind, a2.name, a2.other, a2.form, s_2⟩ : Term))] [fS 2 Hyp.C s_1 a1, oDTerm s_2 a2.sub] := back _ _ _ _ S2 rfl
 clear back S2 SB17
 refine wd (does_as_i rfl) ?_
 refine wl_nil ?_
 refine wc_seq (wc_seq (wc_region ?_))
 refine wd (does_mv_i rfl) ?_
 refine wd (does_eq rfl rfl) ?_
 refine wl_nil ?_
 refine wc_if rfl (fun hc18 => ?_) (fun hc18 => ?_)
 ·replace H := if_t hc18 H
  refine wc_seq (wc_region ?_)
  refine wd (does_as_nil) ?_
  refine wd (does_as_i rfl) ?_
  refine wl_nil ?_
  refine wc_ret ?_
  obtain ⟨p19, s21, s22, s23, hp20, S⟩ := S.open_oC 0
  replace S : St A N w w16 [oB p19 T_RC (RC.C (⟨a_0, s21, s22, s23⟩ : RC)), oR a_0 r15.1.t, oS T_Hyp 2 Hyp.C s21 r15.1.hyps, oS T_int 1 IC s22 r15.1.way, oS T_int 1 IC s23 r15.1.wrong, oB b2 T_Term (Term.C (⟨a2.kind, a2.name, a2.other, a2.form, s_2⟩ : Term))] [fS 2 Hyp.C s_1 a1, oDTerm s_2 a2.sub] := S
  replace S : St A N w w16 [oS T_int 1 IC SlV.nil ([] : List Int), oB p19 T_RC (RC.C (⟨a_0, s21, s22, s23⟩ : RC)), oR a_0 r15.1.t, oS T_Hyp 2 Hyp.C s21 r15.1.hyps, oS T_int 1 IC s22 r15.1.way, oS T_int 1 IC s23 r15.1.wrong, oB b2 T_Term (Term.C (⟨a2.kind, a2.name, a2.other, a2.form, s_2⟩ : Term))] [fS 2 Hyp.C s_1 a1, oDTerm s_2 a2.sub] := S.nil T_int 1 IC
  refine ⟨_, (rets2 (retOne_tmp rfl) (retOne_tmp rfl)), ?_⟩
  replace S : St A N w w16 [oR a_0 r15.1.t, oS T_int 1 IC SlV.nil ([] : List Int)] [] := S.arr [2, 0] []
  obtain rfl := Option.some.inj H
  exact ⟨SlV.nil, rfl, S⟩
 replace H := if_f hc18 H
 refine wc_skip ?_
 refine wc_seq (wc_region ?_)
 refine wd (does_mv_p rfl) ?_
 obtain ⟨p24, s26, s27, s28, hp25, S⟩ := S.open_oC 0
 replace S : St A N w w16 [oB p24 T_RC (RC.C (⟨a_0, s26, s27, s28⟩ : RC)), oR a_0 r15.1.t, oS T_Hyp 2 Hyp.C s26 r15.1.hyps, oS T_int 1 IC s27 r15.1.way, oS T_int 1 IC s28 r15.1.wrong, oB b2 T_Term (Term.C (⟨a2.kind, a2.name, a2.other, a2.form, s_2⟩ : Term))] [fS 2 Hyp.C s_1 a1, oDTerm s_2 a2.sub] := S
 refine wd (does_nilCheck (congrArg Value.pointer hp25)) ?_
 refine wd (does_fieldAddr fl_RC_wrong rfl (o' := 3) rfl) ?_
 refine wd (does_load on_L_int rfl ((S.blk 0).cell (RC.get_wrong _))) ?_
 refine wd (does_mv_i rfl) ?_
 refine wd (does_as_l rfl) ?_
 refine wd (does_as_i rfl) ?_
 refine wl_nil ?_
 refine wc_ret ?_
 refine ⟨_, (rets2 (retOne_tmp rfl) (retOne_tmp rfl)), ?_⟩
 replace S : St A N w w16 [oR a_0 r15.1.t, oS T_int 1 IC s28 r15.1.wrong] [] := S.arr [1, 4] []
 obtain rfl := Option.some.inj H
 exact ⟨s28, rfl, S⟩
end Go.Proofs.YtjebgcoknpcadaaDoor
end
section
namespace Go.Proofs.YtjebgcoknpcadaaDoor
open Gw Go.RowKit
theorem checker_facts {t : Tb} {l : List Hyp} {r : PC} (h : ref13_checker.f t l = some r) : r.t = t ∧ r.way = [] ∧ r.wrong = [] := by
 obtain ⟨_, h⟩ := chk_ex h
 cases h
 exact ⟨rfl, rfl, rfl⟩
theorem Gw.St.mkC {A : Nat → Prop} {N : Oth} {w0 w : World} {L Z : List OA} {b : Nat} {a : Option Addr} {s1 : SlV} {t : Tb} {r : PC} (h : St A N w0 w ((oB b T_RC (RC.C ⟨a, s1, SlV.nil, SlV.nil⟩)).star (oS T_Hyp 2 Hyp.C s1 r.hyps) :: oR a t :: L) Z) (hr : r.t = t ∧ r.way = [] ∧ r.wrong = []) : St A N w0 w (oC (some ⟨b, 0, none⟩) a r :: L) Z := by
 obtain ⟨h1, h2, h3⟩ := hr
 have k1 := h.unstar 0
 have k2 := ((k1.nil T_int 1 IC).nil T_int 1 IC)
 have k3 : St A N w0 w (oB b T_RC (RC.C ⟨a, s1, SlV.nil, SlV.nil⟩) :: oR a t :: oS T_Hyp 2 Hyp.C s1 r.hyps :: oS T_int 1 IC SlV.nil [] :: oS T_int 1 IC SlV.nil [] :: L) Z := ((k2.front 3).front 4).front 4
 have k4 := k3.shut_oC (a := some ⟨b, 0, none⟩) rfl
 rw [← h1, ← h2] at k4
 obtain ⟨rt, rh, rw_, rr⟩ := r
 simp only at h1 h2 h3 k4 ⊢
 subst h1 h2 h3
 exact k4
theorem ref13_checker_raw {A : Nat → Prop} {N : Oth} {w : World} {l : List Hyp} {s : SlV} (S : St A N w w [] [fS 2 Hyp.C s l]) (a : Option Addr) {t : Tb} {r : PC} (H : ref13_checker.f t l = some r) :
  Calls PP F_ref13_checker #[.pointer a, s.v] w fun e w' => ∃ v, e = .returned v ∧ ∃ (b : Nat) (s1 : SlV), v = .pointer (some ⟨b, 0, none⟩) ∧ St A N w w' [(oB b T_RC (RC.C ⟨a, s1, SlV.nil, SlV.nil⟩)).star (oS T_Hyp 2 Hyp.C s1 r.hyps)] [] := by
 obtain ⟨ha, H⟩ := chk_ex H
 cases H
 have ha := of_decide_eq_true ha
 refine calls_of_wc (n := 19) fn_ref13_checker rfl rfl (by simp) ?_
 refine wc_seq (wc_region ?_)
 refine wd (does_as_p rfl) ?_
 refine wl_nil ?_
 refine wc_seq (wc_region ?_)
 refine wd (does_mv_p rfl) ?_
 refine wd (Does.to (v' := .agg (RC.C (⟨a, SlV.nil, SlV.nil, SlV.nil⟩ : RC)).toArray) (does_buildv (vs := [(0, .pointer a)]) bu_RC (consP rfl rfl) (Bld.one rfl rfl (by rw [RC.len]; decide) (RC.set_t _ _) Bld.nil)) rfl) ?_
 refine wl_box_agg rfl (by decide) fun b2 w1 hw1 => ?_
 replace S : St A N w w1 [oB b2 T_RC (RC.C (⟨a, SlV.nil, SlV.nil, SlV.nil⟩ : RC))] [fS 2 Hyp.C s l] := S.new hw1
 replace S : St A N w w1 [oS T_Hyp 2 Hyp.C SlV.nil ([] : List Hyp), oB b2 T_RC (RC.C (⟨a, SlV.nil, SlV.nil, SlV.nil⟩ : RC))] [fS 2 Hyp.C s l] := S.nil T_Hyp 2 Hyp.C
 refine wd (does_as_p rfl) ?_
 refine wl_nil ?_
 refine wc_seq (wc_region ?_)
 refine wd (does_mv_p rfl) ?_
 refine wd (does_mv_p rfl) ?_
 refine wd (does_nilCheck rfl) ?_
 refine wd (does_fieldAddr fl_RC_hyps rfl (o' := 1) rfl) ?_
 refine wd (does_load on_L_api_Hyp rfl ((S.blk 1).cell (RC.get_hyps _))) ?_
 refine wd (does_mv_l rfl) ?_
 refine wl_appendm (C := Hyp.C) sl_L_api_Hyp el_Hyp rfl rfl (S.sl 0) (S.rd 0) Hyp.one ha (by omega) (by decide) fun s9 w8 O hw8 gw8 => ?_
 replace S : St A N w w8 [oS T_Hyp 2 Hyp.C s9 (([] : List Hyp) ++ l), oB b2 T_RC (RC.C (⟨a, SlV.nil, SlV.nil, SlV.nil⟩ : RC))] [fS 2 Hyp.C s l] := S.push 0 O (by first | (simp; done) | (simp; omega)) hw8 gw8
 clear O
 refine wd (does_nilCheck rfl) ?_
 refine wd (does_fieldAddr fl_RC_hyps rfl (o' := 1) rfl) ?_
 refine wl_store on_L_api_Hyp rfl rfl (S.blk 1) (by rw [RC.len]; decide) (SlV.one _ _ rfl) (RC.set_hyps _ _) fun w11 B hw11 zw11 => ?_
 replace S : St A N w w11 [oB b2 T_RC (RC.C (⟨a, s9, SlV.nil, SlV.nil⟩ : RC)), oS T_Hyp 2 Hyp.C s9 (([] : List Hyp) ++ l)] [fS 2 Hyp.C s l] := S.store 1 B hw11
 clear B
 refine wl_nil ?_
 refine wc_seq (wc_region ?_)
 refine wd (does_mv_p rfl) ?_
 refine wd (does_as_p rfl) ?_
 refine wl_nil ?_
 refine wc_ret ?_
 exact ⟨_, (rets1 (retOne_tmp rfl)), b2, s9, rfl, S.star.pickZ (by simp)⟩
end Go.Proofs.YtjebgcoknpcadaaDoor
end
