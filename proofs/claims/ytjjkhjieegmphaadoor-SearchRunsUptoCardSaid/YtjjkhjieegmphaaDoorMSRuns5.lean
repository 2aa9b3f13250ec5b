/- Texts put together: Chapter 11, the document's search: the walks. Printed by pp.py, a program of mine. Chapter 11, SearchRuns: the walks. Printed by pp.py, a program of mine. Chapter 09, the plain law: what the program's rules and the document's answer, told once for both. Chapter 09, the plain law: sequents of a table, choices. Chapter 09, RuleTells: Lean functions with the answers of the Go functions. Printed by pp.py, a program of mine. Chapter 09, the plain law: tables out of rows; RuleTells. Chapter 09, RulePremises: Lean functions with the answers of the Go functions. Printed by pp.py, a program of mine. Chapter 09, the plain law: premises. Chapter 09, weights and values: Lean functions with the answers of the Go functions. Printed by pp.py, a program of mine. Chapter 09, the plain law: a row of a truth table. Chapter 09, the plain law: what premises are, rule by rule. Chapter 09, the plain law: the program's premises are those of PremR. Chapter 09, RuleTruth: Lean functions with the answers of the Go functions. Printed by pp.py, a program of mine. Chapter 09, the plain law: RuleTruth. Kripke models: what rules prove is forced everywhere, what they refute is not somewhere. Kripke models put under one root: what is left open is refuted. Chapter 09, the plain law: weights, and rows of weights that fall. Chapter 09, RuleFalls: Lean functions with the answers of the Go functions. Printed by pp.py, a program of mine. Chapter 09, the plain law: RuleFalls. Chapter 11, the plain law: the order in which sequents fall. Chapter 11, the plain law: what a search keeps. -/
import Derived.Test.YtjjkhjieegmphaaDoorMSRuns4
set_option linter.unusedVariables false
set_option linter.unusedSimpArgs false
section
namespace Go.Proofs.YtjjkhjieegmphaaDoor
open Gw Go.RowKit
set_option maxHeartbeats 4000000
theorem ref11_run_find_st {A : Nat → Prop} {N : Oth} {w : World} {a0 : PRRun} {a_0 : Option Addr} {g_0_1 : Option Addr} {a1 : Sq} (S : St A N w w [oU a_0 g_0_1 a0] []) {k : Nat} {r : PRRun × Int} (H : ref11_run_find.f k a0 a1 = some r) :
  Calls PP F_ref11_run_find #[.pointer a_0, .agg (Sq.C a1).toArray] w fun e w' => ∃ v, e = .returned v ∧ (v = .int .i64 r.2 ∧ St A N w w' [oU a_0 g_0_1 r.1] []) := by
 unfold ref11_run_find.f at H
 refine calls_of_wc (n := 26) fn_ref11_run_find rfl rfl (by simp) (wc_seq (wc_region ?_))
 refine wl_box_agg rfl (by decide) fun b2 w1 hw1 => ?_
 replace S := S.new hw1
 refine wd (does_as_i rfl) (wl_nil (wc_seq (wc_seq (wc_region (wd (does_as_i rfl) (wl_nil ?_))))))
 obtain ⟨o3, e3, Ho3⟩ := bind_ex H
 clear H
 refine wc_cutq [4, 5, 6, 7, 8, 9, 10, 11, 12, 13, 14, 15, 16, 17, 18, 19, 20, 21, 22, 23, 24, 25] (fun fr W => ∃ s3 : Int, o3 = .inl s3 ∧ fr 5 = .int .i64 s3 ∧ St A N w W [oB b2 T_Sq (Sq.C a1), oU a_0 g_0_1 a0] []) ?_ ?_
 ·refine wc_block ?_
  refine wc_loopm (α := Nat × Int) [4, 5, 6, 7, 8, 9, 10, 11, 12, 13, 14, 15, 16, 17, 18, 19, 20, 21, 22, 23, 24, 25] (fun x fr W => iter (fun s => ref11_run_find.b0 a0 a1 s) x.1 x.2 = some o3 ∧ fr 5 = .int .i64 (x.2) ∧ St A N w W [oB b2 T_Sq (Sq.C a1), oU a_0 g_0_1 a0] []) (fun x => x.1) (k, 0) ⟨(by dsimp only; exact e3), rfl, S⟩ ?_
  rintro ⟨m3, x3_0⟩ g3 u3 ⟨e3, q3_5, S⟩
  try dsimp only at e3
  try dsimp only at S
  try dsimp only at q3_5
  obtain ⟨m3, rfl⟩ : ∃ m, m3 = m + 1 := ⟨m3 - 1, by cases m3 with | zero => cases e3 | succ m => rfl⟩
  obtain ⟨q3, H, e3⟩ := iter_s e3
  unfold ref11_run_find.b0 at H
  try dsimp only at H
  refine wc_seq (wc_seq (wc_region (wd (does_mv_i q3_5) (wd (does_mv_p rfl) ?_))))
  obtain ⟨p4, s6, hp5, S⟩ := S.open_oU 1
  replace S := S
  refine wd (does_nilCheck (congrArg Value.pointer hp5)) (wd (does_fieldAddr fl_RRun_steps rfl (o' := 1) rfl) (wd (does_load on_L_api_Step rfl ((S.blk 0).cell (RRun.get_steps _))) (wd (does_lenD sl_L_api_Step rfl (S.onO 2)) (wd (does_lt rfl rfl) ?_))))
  replace S := ((S.front 2).front 2).front 2
  replace S := S.shut_oU hp5
  refine wl_nil ?_
  refine wc_if rfl (fun hc7 => ?_) (fun hc7 => ?_)
  rotate_left
  ·replace H := if_f hc7 H
   refine wc_exit ?_
   replace S := S.arr [1, 0] []
   obtain rfl := Option.some.inj H
   exact ⟨rfl, ((((((((Dif.self _ _ _).upd rfl _).upd rfl _).upd rfl _).upd rfl _).upd rfl _).upd rfl _).upd rfl _), x3_0, e3, q3_5, S⟩
  replace H := if_t hc7 H
  refine wc_skip (wc_seq ?_)
  refine wc_block (wc_seq ?_)
  obtain ⟨p8, s10, hp9, S⟩ := S.open_oU 0
  replace S := S
  refine wc_quiet 9 (Ext u3) hmix (by kernel_rfl) (by kernel_rfl) (Ext.drawn _) (wq_does (fun v K => does_mv_p rfl) (wq_does (fun v K => does_nilCheck (congrArg Value.pointer hp9)) (wq_does (fun v K => does_fieldAddr fl_RRun_steps rfl (o' := 1) rfl) (wq_does (fun v K => does_load on_L_api_Step rfl (((S.ext K).blk 0).cell (RRun.get_steps _))) (wq_does (fun v K => does_mv_i q3_5) ?_)))))
  obtain ⟨hi11, H⟩ := chk_ex H
  refine wq_does (fun v K => does_indexD sl_L_api_Step rfl rfl ((S.ext K).onO 2) (inb_ex hi11).1 (inb_ex hi11).2) (wq_does (fun v K => does_fieldAddr fl_Step_seq rfl (o' := _) rfl) (wq_does (fun v K => does_load_agg ag_Sq rfl (oD.cells (z := PStep.z) ((S.ext K).onO 2) (inb_ex hi11) (fun _ => rStep.sub_seq)) (Sq.len _)) (wq_does (fun v K => does_load_agg ag_Sq rfl (((S.ext K).blk 3).all _ (Sq.len _)) (Sq.len _)) ?_)))
  refine wq_nil fun w12 K => ?_
  replace S := S.ext K
  clear K
  refine wd (does_eqv eg_Sq (eq_Sq _ _) (by decide) rfl rfl) ?_
  replace S := ((S.front 2).front 2).front 2
  replace S := S.shut_oU hp9
  refine wl_nil ?_
  refine wc_if rfl (fun hc13 => ?_) (fun hc13 => ?_)
  ·replace H := if_t hc13 H
   refine wc_seq (wc_region (wd (does_mv_i q3_5) (wd (does_as_i rfl) (wl_nil (wc_ret ?_)))))
   refine ⟨_, (rets1 (retOne_tmp rfl)), ?_⟩
   replace S := S.arr [0] []
   obtain rfl := Option.some.inj H
   obtain rfl := e3
   obtain rfl := aft_r Ho3
   exact ⟨rfl, S⟩
  replace H := if_f hc13 H
  refine wc_skip (wc_region (wd (does_mv_i q3_5) (wd (does_add rfl rfl) (wd (does_as_i rfl) (wl_nil ?_)))))
  replace S := S.arr [1, 0] []
  obtain rfl := Option.some.inj H
  exact ⟨rfl, (((((((((((((((((((((Dif.self _ _ _).upd rfl _).upd rfl _).upd rfl _).upd rfl _).upd rfl _).upd rfl _).upd rfl _).upd rfl _).upd rfl _).upd rfl _).upd rfl _).upd rfl _).upd rfl _).upd rfl _).upd rfl _).upd rfl _).upd rfl _).upd rfl _).upd rfl _).upd rfl _), (m3, IntKind.i64.wrap (x3_0 + 1)), ⟨e3, rfl, S⟩, by dsimp only; omega⟩
 rintro g14 u15 ⟨s3, rfl, p3_5, S⟩
 have H := Ho3
 dsimp only [aft] at H
 refine wc_seq (wc_region (wd (does_as_i rfl) (wl_nil (wc_ret ?_))))
 refine ⟨_, (rets1 (retOne_tmp rfl)), ?_⟩
 replace S := S.arr [1] []
 obtain rfl := Option.some.inj H
 exact ⟨rfl, S⟩
theorem ref11_run_end_st {A : Nat → Prop} {N : Oth} {w : World} {a0 : PRRun} {a_0 : Option Addr} {g_0_1 : Option Addr} {a1 : Sq} {a2 : Bool} {a3 : Int} {a4 : Int} {a5 : List Int} {s_5 : SlV} (S : St A N w w [oU a_0 g_0_1 a0, oS T_int 1 IC s_5 a5] []) {r : PRRun × Int × Int} (H : ref11_run_end.f a0 a1 a2 a3 a4 a5 = some r) :
  Calls PP F_ref11_run_end #[.pointer a_0, .agg (Sq.C a1).toArray, .bool a2, .int .i64 a3, .int .i64 a4, s_5.v] w fun e w' => ∃ v, e = .returned v ∧ (v = .tuple #[.int .i64 r.2.1, .int .i64 r.2.2] ∧ St A N w w' [oU a_0 g_0_1 r.1] []) := by
 unfold ref11_run_end.f at H
 refine calls_of_wc (n := 35) fn_ref11_run_end rfl rfl (by simp) (wc_seq (wc_region ?_))
 refine wl_box_agg rfl (by decide) fun b2 w1 hw1 => ?_
 replace S := S.new hw1
 refine wd (does_as_i rfl) (wd (does_as_i rfl) (wl_nil (wc_seq ?_)))
 obtain ⟨p3, s5, hp4, S⟩ := S.open_oU 1
 replace S := S
 obtain ⟨ms6, S⟩ := S.openD 2
 replace S := S
 have hlms6 : ms6.length = a0.steps.length := (S.own 1 rfl).elim fun _ hb => big_len hb
 obtain ⟨ha7, H⟩ := chk_ex H
 have ha7 := of_decide_eq_true ha7
 rw [← hlms6] at ha7
 have hSO := S.sl 0
 have hSlt := hSO.lt
 have SH : ∀ v, Chg s5.fp w1 v → St A (N.or s5.fp) w v [big rStep ms6 a0.steps, oB p3 T_RRun (RRun.C (⟨g_0_1, s5, a0.visits, a0.budget⟩ : RRun)), oR g_0_1 a0.t, oB b2 T_Sq (Sq.C a1), oS T_int 1 IC s_5 a5] [] := fun v hc => S.away 0 (hc := hc)
 refine wc_draw 13 ⟨fun L v => Chg s5.fp w1 v ∧ (L 12 = false → Ext w1 v), fun L a b => Chg s5.fp a b ∧ (L 12 = true → Ext a b), fun i v u => match i with
  | 0 => v = Value.pointer a_0
  | 1 => v = Value.pointer a_0
  | 2 => v = Value.pointer (some ⟨p3, 0, none⟩)
  | 3 => v = Value.pointer (some ⟨p3, 1, none⟩)
  | 4 => v = s5.v
  | 5 => v = Value.agg (Sq.C a1).toArray
  | 6 => v = Value.bool a2
  | 7 => v = Value.int .i64 a3
  | 8 => v = Value.int .i64 a4
  | 9 => v = s_5.v
  | 10 => v = Value.agg (Step.C (⟨a1, a2, a3, a4, s_5⟩ : Step)).toArray
  | 11 => ∃ b sl, v = SlV.v sl ∧ sl = ⟨some ⟨b, 0, none⟩, 1, 1⟩ ∧ Blk u b T_Step (Step.C (⟨a1, a2, a3, a4, s_5⟩ : Step)) ∧ ¬ s5.fp b
  | 12 => ∃ s', v = SlV.v s' ∧ Own u 0 T_Step 21 s' ((ms6 ++ [(⟨a1, a2, a3, a4, s_5⟩ : Step)]).map Step.C) ∧ ∀ i, s'.fp i → s5.fp i ∨ w1.heap.size ≤ i
  | _ => True⟩ hmix (by kernel_rfl) ?_ ⟨(Ext.drawn _).mono (fun _ _ x => x.elim), fun _ => Ext.drawn _⟩ ⟨?_, ?_, ?_, ?_, ?_, ?_, ?_, ?_, ?_, ?_, ?_, ?_, ?_, trivial⟩ ?_
 ·intro L i v a b hLi hle hv
  match i, hLi, hv with
  | 0, _, hv => exact hv
  | 1, _, hv => exact hv
  | 2, _, hv => exact hv
  | 3, _, hv => exact hv
  | 4, _, hv => exact hv
  | 5, _, hv => exact hv
  | 6, _, hv => exact hv
  | 7, _, hv => exact hv
  | 8, _, hv => exact hv
  | 9, _, hv => exact hv
  | 10, _, hv => exact hv
  | 11, _, ⟨b, sl, e1, e2, hb, hn⟩ => exact ⟨b, sl, e1, e2, hb.chg hle.1 hn, hn⟩
  | 12, hLi, ⟨s', e1, ho, hg⟩ => exact ⟨s', e1, ho.ext (hle.2 hLi), hg⟩
  | _ + 13, _, _ => exact trivial
 ·rintro L g v hL hT 
  refine wd (does_mv_p rfl) (wl_nil (ob ⟨hT.1, fun h => hT.2 h⟩ ⟨Chg.refl _ _, fun _ => Ext.refl _⟩ rfl))
 ·rintro L g v hL hT 
  refine wd (does_mv_p rfl) (wl_nil (ob ⟨hT.1, fun h => hT.2 h⟩ ⟨Chg.refl _ _, fun _ => Ext.refl _⟩ rfl))
 ·rintro L g v hL hT hv1
  refine wd (does_nilCheck ((hv1 : _ = Value.pointer a_0).trans (congrArg Value.pointer hp4))) (wl_nil (ob ⟨hT.1, fun h => hT.2 h⟩ ⟨Chg.refl _ _, fun _ => Ext.refl _⟩ rfl))
 ·rintro L g v hL hT hv2
  refine wd (does_fieldAddr fl_RRun_steps hv2 (o' := 1) rfl) (wl_nil (ob ⟨hT.1, fun h => hT.2 h⟩ ⟨Chg.refl _ _, fun _ => Ext.refl _⟩ rfl))
 ·rintro L g v hL hT hv3
  refine wd (does_load on_L_api_Step hv3 (((SH v hT.1).blk 1).cell (RRun.get_steps _))) (wl_nil (ob ⟨hT.1, fun h => hT.2 h⟩ ⟨Chg.refl _ _, fun _ => Ext.refl _⟩ rfl))
 ·rintro L g v hL hT 
  refine wd (does_load_agg ag_Sq rfl (((SH v hT.1).blk 3).all _ (Sq.len _)) (Sq.len _)) (wl_nil (ob ⟨hT.1, fun h => hT.2 h⟩ ⟨Chg.refl _ _, fun _ => Ext.refl _⟩ rfl))
 ·rintro L g v hL hT 
  refine wd (does_mv_b rfl) (wl_nil (ob ⟨hT.1, fun h => hT.2 h⟩ ⟨Chg.refl _ _, fun _ => Ext.refl _⟩ rfl))
 ·rintro L g v hL hT 
  refine wd (does_mv_i rfl) (wl_nil (ob ⟨hT.1, fun h => hT.2 h⟩ ⟨Chg.refl _ _, fun _ => Ext.refl _⟩ rfl))
 ·rintro L g v hL hT 
  refine wd (does_mv_i rfl) (wl_nil (ob ⟨hT.1, fun h => hT.2 h⟩ ⟨Chg.refl _ _, fun _ => Ext.refl _⟩ rfl))
 ·rintro L g v hL hT 
  refine wd (does_mv_l rfl) (wl_nil (ob ⟨hT.1, fun h => hT.2 h⟩ ⟨Chg.refl _ _, fun _ => Ext.refl _⟩ rfl))
 ·rintro L g v hL hT hv5 hv6 hv7 hv8 hv9
  refine wd (Does.to (v' := .agg (Step.C (⟨a1, a2, a3, a4, s_5⟩ : Step)).toArray) (does_buildv (vs := [(0, .agg (Sq.C a1).toArray), (1, .bool a2), (2, .int .i64 a3), (3, .int .i64 a4), (4, s_5.v)]) bu_Step (consP hv5 (consP hv6 (consP hv7 (consP hv8 (consP hv9 rfl))))) (Bld.step rfl rfl (Sq.len _) (by rw [Step.len]; decide) (Step.put_seq _ _) (Bld.one rfl rfl (by rw [Step.len]; decide) (Step.set_proved _ _) (Bld.one rfl rfl (by rw [Step.len]; decide) (Step.set_rule _ _) (Bld.one rfl rfl (by rw [Step.len]; decide) (Step.set_main _ _) (Bld.one rfl (SlV.one _ _ rfl) (by rw [Step.len]; decide) (Step.set_kids _ _) Bld.nil)))))) rfl) (wl_nil (ob ⟨hT.1, fun h => hT.2 h⟩ ⟨Chg.refl _ _, fun _ => Ext.refl _⟩ rfl))
 ·rintro L g v hL hT hv10
  refine wl_lit1 sl_L_api_Step el_Step.zero hv10 rfl (Step.len _) (by decide) (by decide) fun b v' sl hn hq => wl_nil (ob ⟨hT.1.thenExt hn.ext, fun h => (hT.2 h).trans hn.ext⟩ ⟨hn.ext.mono (fun _ _ x => x.elim), fun _ => hn.ext⟩ ⟨b, sl, rfl, hq, hn.blk, fun e => by have := hSlt _ e; have := hn.at_; have := hT.1.size; omega⟩)
 ·rintro L g v hL hT hv4 ⟨b, sl, hv11, hq, hb, hnb⟩
  refine wl_push (C := Step.C) sl_L_api_Step el_Step hv4 hv11 (hSO.ext (hT.2 hL)) hb hq (Step.len _) (Step.one _) ha7 (by omega) (by decide) fun s' v' ho hc hg => wl_nil (ob ⟨hT.1.trans hc, fun h => (by cases h)⟩ ⟨hc, fun h => (by rw [hL] at h; cases h)⟩ ⟨s', rfl, ho, fun i e => (hg i e).imp id (fun h => Nat.le_trans hT.1.size h)⟩)
 rintro L g w8 hLm hT hv10_0 hv10_1 hv10_2 hv10_3 hv10_4 hv10_5 hv10_6 hv10_7 hv10_8 hv10_9 hv10_10 ⟨b, sl, hv10_11, hq, hb, hnb⟩ ⟨s9, hv10_12, O, gO⟩
 replace S := S.push 0 O (by rw [List.length_append, List.length_singleton]; omega) hT.1 gO
 clear O gO SH hSO hSlt
 replace S := S.front 5
 replace S : St A N w w8 [rStep (⟨a1, a2, a3, a4, s_5⟩ : Step) (⟨a1, a2, a3, a4, a5⟩ : PStep), oS T_Step 21 Step.C s9 (ms6 ++ [(⟨a1, a2, a3, a4, s_5⟩ : Step)]), big rStep ms6 a0.steps, oB p3 T_RRun (RRun.C (⟨g_0_1, s5, a0.visits, a0.budget⟩ : RRun)), oR g_0_1 a0.t, oB b2 T_Sq (Sq.C a1)] [] := (S.putp ⟨rfl, rfl, rfl, rfl⟩).star
 replace S := ((S.front 2).front 2).pushD
 refine wd (does_nilCheck ((hv10_0 : _ = Value.pointer a_0).trans (congrArg Value.pointer hp4))) (wd (does_fieldAddr fl_RRun_steps rfl (o' := 1) rfl) ?_)
 refine wl_store on_L_api_Step rfl hv10_12 (S.blk 1) (by rw [RRun.len]; decide) (SlV.one _ _ rfl) (RRun.set_steps _ _) fun w11 B hw11 zw11 => ?_
 replace S := S.store 1 B hw11
 clear B
 replace S := ((S.front 1).front 2).front 2
 replace S := S.shut_oU hp4
 refine wl_nil (wc_seq (wc_region (wd (does_mv_p rfl) ?_)))
 obtain ⟨p12, s14, hp13, S⟩ := S.open_oU 0
 replace S := S
 refine wd (does_nilCheck (congrArg Value.pointer hp13)) (wd (does_fieldAddr fl_RRun_steps rfl (o' := 1) rfl) (wd (does_load on_L_api_Step rfl ((S.blk 0).cell (RRun.get_steps _))) (wd (does_lenD sl_L_api_Step rfl (S.onO 2)) (wd (does_sub rfl rfl) (wd (does_as_i rfl) (wd (does_as_i rfl) ?_))))))
 replace S := ((S.front 2).front 2).front 2
 replace S := S.shut_oU hp13
 refine wl_nil (wc_ret ?_)
 refine ⟨_, (rets2 (retOne_tmp rfl) (retOne_tmp rfl)), ?_⟩
 replace S := S.arr [0] []
 obtain rfl := Option.some.inj H
 exact ⟨rfl, S⟩
theorem ref11_run_choose_gst {rec_ref11_run_decide : PRRun → Sq → Option (PRRun × Int × Int)} (hrec_ref11_run_decide : ∀ {A : Nat → Prop} {N : Oth} {w : World} {a0 : PRRun} {a_0 : Option Addr} {g_0_1 : Option Addr} {a1 : Sq} (S : St A N w w [oU a_0 g_0_1 a0] []) {r : PRRun × Int × Int} (H : rec_ref11_run_decide a0 a1 = some r), Calls PP F_ref11_run_decide #[.pointer a_0, .agg (Sq.C a1).toArray] w fun e w' => ∃ v, e = .returned v ∧ (v = .tuple #[.int .i64 r.2.1, .int .i64 r.2.2] ∧ St A N w w' [oU a_0 g_0_1 r.1] [])) {A : Nat → Prop} {N : Oth} {w : World} {a0 : PRRun} {a_0 : Option Addr} {g_0_1 : Option Addr} {a1 : Sq} (S : St A N w w [oU a_0 g_0_1 a0] []) {r : PRRun × Int × Int} (H : ref11_run_choose.g rec_ref11_run_decide a0 a1 = some r) :
  Calls PP F_ref11_run_choose #[.pointer a_0, .agg (Sq.C a1).toArray] w fun e w' => ∃ v, e = .returned v ∧ (v = .tuple #[.int .i64 r.2.1, .int .i64 r.2.2] ∧ St A N w w' [oU a_0 g_0_1 r.1] []) := by
 unfold ref11_run_choose.g at H
 refine calls_of_wc (n := 147) fn_ref11_run_choose rfl rfl (by simp) (wc_seq (wc_region ?_))
 refine wl_box_agg rfl (by decide) fun b2 w1 hw1 => ?_
 replace S := S.new hw1
 refine wd (does_as_i rfl) (wd (does_as_i rfl) (wl_nil (wc_seq ?_)))
 obtain ⟨p3, s5, hp4, S⟩ := S.open_oU 1
 replace S := S
 refine wc_ws hmix fun w7 K => ?_
 replace S := S.ext K
 clear K
 refine ws_semi 0 5 [] (by kernel_rfl) (by decide) (by kernel_rfl)
  (V := fun i v u => match i with
  | _ => True) ?_ ?_
 ·intro i v u u' hi hx hv
  match i, hv with
  | _, _ => exact trivial
 refine wm_does (fun v K => does_mv_p rfl) rfl (wm_does (fun v K => does_nilCheck (congrArg Value.pointer hp4)) rfl (wm_does (fun v K => does_fieldAddr fl_RRun_t rfl (o' := 0) rfl) rfl (wm_does (fun v K => does_load on_Two rfl (((S.ext K).blk 0).cell (RRun.get_t _))) rfl (wm_does (fun v K => does_load_agg ag_Sq rfl (((S.ext K).blk 3).all _ (Sq.len _)) (Sq.len _)) rfl ?_))))
 refine wm_nil fun g w8 K hV => ?_
 replace S := S.ext K
 clear K hV
 refine ws_chain 5 7 (by kernel_rfl) (by decide) ?_
 obtain ⟨r10, er10, H⟩ := bind_ex H
 obtain ⟨B12, MB12, SB12, back⟩ := S.calln 0 ((.o 1 rfl .nil))
 refine wl_call (does_call ca_ref09_Choices) (by decide) (ref09_Choices_st SB12 er10) ?_
 rintro _ w11 ⟨s13, s14, rfl, S2⟩
 replace S := back _ _ _ _ S2 rfl
 clear back S2 SB12
 refine wd (does_mv_t rfl) (wl_nil ⟨rfl, ?_⟩)
 refine ws_semi 7 10 [] (by kernel_rfl) (by decide) (by kernel_rfl)
  (V := fun i v u => match i with
  | _ => True) ?_ ?_
 ·intro i v u u' hi hx hv
  match i, hv with
  | _, _ => exact trivial
 refine wm_does (fun v K => does_extract rfl rfl) rfl (wm_does (fun v K => does_extract rfl rfl) rfl (wm_does (fun v K => does_as_l rfl) rfl ?_))
 refine wm_nil fun g w15 K hV => ?_
 replace S := S.ext K
 clear K hV
 refine ws_tail 10 (by kernel_rfl) (by decide) (wd (does_as_l rfl) ?_)
 replace S := ((S.front 4).front 4).front 4
 replace S := S.shut_oU hp4
 refine wl_nil (wc_seq (wc_region (wd (does_as_nil) (wl_nil (wc_seq (wc_seq (wc_region (wd (does_as_i rfl) (wl_nil ?_)))))))))
 replace S := S.nil T_int 1 IC
 obtain ⟨o17, e17, Ho17⟩ := bind_ex H
 clear H
 refine wc_cutq [4, 5, 8, 9, 10, 11, 12, 13, 23, 24, 25, 26, 27, 28, 29, 30, 31, 32, 33, 34, 35, 36, 37, 38, 39, 40, 41, 42, 43, 44, 45, 46, 47, 48, 49, 50, 51, 52, 53, 54, 55, 56, 57, 58, 59, 60, 61, 62, 63, 64, 65, 66, 67, 68, 69, 70, 71, 72, 73, 74, 75, 76, 77, 78, 79, 80, 81, 82, 83, 84, 85, 86, 87, 88, 89, 90, 91, 92, 93, 94, 95, 96, 97, 98, 99, 100, 101, 102, 103, 104, 105, 106, 107, 108, 109, 110, 111, 112, 113, 114, 115, 116, 117, 118, 119, 120, 121, 122, 123, 124, 125, 126, 127, 128, 129, 130, 131, 132, 133, 134, 135, 136, 137, 138, 139, 140] (fun fr W => ∃ s17 : List Int × PRRun, o17 = .inl s17 ∧ ∃ s18 : SlV, fr 8 = s18.v ∧ St A N w W [oS T_int 1 IC s18 s17.1, oU a_0 g_0_1 s17.2, oS T_api_Rule 1 IC s13 r10.1, oS T_int 1 IC s14 r10.2, oB b2 T_Sq (Sq.C a1)] []) ?_ ?_
 ·refine wc_block ?_
  refine wc_loopm (α := Nat × Int × (List Int × PRRun)) [4, 5, 8, 9, 10, 11, 12, 13, 23, 24, 25, 26, 27, 28, 29, 30, 31, 32, 33, 34, 35, 36, 37, 38, 39, 40, 41, 42, 43, 44, 45, 46, 47, 48, 49, 50, 51, 52, 53, 54, 55, 56, 57, 58, 59, 60, 61, 62, 63, 64, 65, 66, 67, 68, 69, 70, 71, 72, 73, 74, 75, 76, 77, 78, 79, 80, 81, 82, 83, 84, 85, 86, 87, 88, 89, 90, 91, 92, 93, 94, 95, 96, 97, 98, 99, 100, 101, 102, 103, 104, 105, 106, 107, 108, 109, 110, 111, 112, 113, 114, 115, 116, 117, 118, 119, 120, 121, 122, 123, 124, 125, 126, 127, 128, 129, 130, 131, 132, 133, 134, 135, 136, 137, 138, 139, 140] (fun x fr W => (x.1 : Int) = (r10.1.length : Int) - x.2.1 ∧ 0 ≤ x.2.1 ∧ forN (fun i s => ref11_run_choose.b0 r10 a1 rec_ref11_run_decide i s.1 s.2) x.1 x.2.1 x.2.2 = some o17 ∧ ∃ s19 : SlV, fr 9 = .int .i64 x.2.1 ∧ fr 8 = s19.v ∧ St A N w W [oS T_int 1 IC s19 (x.2.2.1), oU a_0 g_0_1 (x.2.2.2), oS T_api_Rule 1 IC s13 r10.1, oS T_int 1 IC s14 r10.2, oB b2 T_Sq (Sq.C a1)] []) (fun x => x.1) (((r10.1.length : Int) - 0).toNat, 0, (([] : List Int), a0)) ⟨(by dsimp only; have hle := Int.natCast_nonneg (r10.1.length); omega), (Int.le_refl _), (by dsimp only; exact e17), SlV.nil, rfl, rfl, S⟩ ?_
  rintro ⟨m17, i17, ⟨x17_0, x17_1⟩⟩ g17 u17 ⟨hm17, hl17, e17, s20, q17_i, q17_8, S⟩
  try dsimp only at hm17
  try dsimp only at hl17
  try dsimp only at e17
  try dsimp only at S
  try dsimp only at q17_i
  try dsimp only at q17_8
  refine wc_seq (wc_seq (wc_region (wd (does_mv_i q17_i) (wd (does_mv_l rfl) (wd (does_lenR sl_L_api_Rule rfl (S.rdO 2)) (wd (does_lt rfl rfl) (wl_nil ?_)))))))
  refine wc_if rfl (fun hc21 => ?_) (fun hc21 => ?_)
  rotate_left
  ·refine wc_exit ?_
   have hge : (r10.1.length : Int) ≤ i17 := Int.not_lt.1 (of_decide_eq_false hc21)
   obtain rfl : m17 = 0 := by omega
   replace e17 := forN_0 e17
   exact ⟨rfl, (((((Dif.self _ _ _).upd rfl _).upd rfl _).upd rfl _).upd rfl _), (x17_0, x17_1), e17, s20, q17_8, S⟩
  refine wc_skip ?_
  have hlt17 : i17 < (r10.1.length : Int) := of_decide_eq_true hc21
  obtain ⟨m17, rfl⟩ : ∃ m, m17 = m + 1 := ⟨m17 - 1, by omega⟩
  obtain ⟨q17, H, e17⟩ := forN_s e17
  unfold ref11_run_choose.b0 at H
  try dsimp only at H
  have hb17 := (S.lenO 2)
  refine wc_seq ?_
  refine wc_block (wc_seq ?_)
  obtain ⟨p22, s24, hp23, S⟩ := S.open_oU 1
  replace S := S
  refine wc_ws hmix fun w28 K => ?_
  replace S := S.ext K
  clear K
  obtain ⟨hi30, H⟩ := chk_ex H
  refine ws_semi 0 13 [] (by kernel_rfl) (by decide) (by kernel_rfl)
   (V := fun i v u => match i with
   | _ => True) ?_ ?_
  ·intro i v u u' hi hx hv
   match i, hv with
   | _, _ => exact trivial
  refine wm_does (fun v K => does_mv_p rfl) rfl (wm_does (fun v K => does_nilCheck (congrArg Value.pointer hp23)) rfl (wm_does (fun v K => does_fieldAddr fl_RRun_t rfl (o' := 0) rfl) rfl (wm_does (fun v K => does_load on_Two rfl (((S.ext K).blk 0).cell (RRun.get_t _))) rfl (wm_does (fun v K => does_load_agg ag_Sq rfl (((S.ext K).blk 6).all _ (Sq.len _)) (Sq.len _)) rfl (wm_does (fun v K => does_mv_l rfl) rfl (wm_does (fun v K => does_mv_i q17_i) rfl (wm_does (fun v K => does_indexR sl_L_api_Rule rfl rfl ((S.ext K).rdO 4) (And.intro (show 0 ≤ i17 by omega) (show i17 < (r10.1.length : Int) from hlt17)).1 (And.intro (show 0 ≤ i17 by omega) (show i17 < (r10.1.length : Int) from hlt17)).2) rfl (wm_does (fun v K => does_load on_api_Rule rfl (((S.ext K).rdO 4).one (at_some (0 : Int) (And.intro (show 0 ≤ i17 by omega) (show i17 < (r10.1.length : Int) from hlt17))) rfl)) rfl (wm_does (fun v K => does_mv_l rfl) rfl (wm_does (fun v K => does_mv_i q17_i) rfl (wm_does (fun v K => does_indexR sl_L_int rfl rfl ((S.ext K).rdO 5) (inb_ex hi30).1 (inb_ex hi30).2) rfl (wm_does (fun v K => does_load on_int rfl (((S.ext K).rdO 5).one (at_some (0 : Int) (inb_ex hi30)) rfl)) rfl ?_))))))))))))
  refine wm_nil fun g w31 K hV => ?_
  replace S := S.ext K
  clear K hV
  refine ws_chain 13 15 (by kernel_rfl) (by decide) ?_
  obtain ⟨r33, er33, H⟩ := bind_ex H
  replace S := S.front 1
  obtain ⟨B35, MB35, SB35, back⟩ := S.calln 1 ((.nil))
  refine wl_call (does_call ca_ref09_Premises) (by decide) (ref09_Premises_st SB35 er33) ?_
  rintro _ w34 ⟨s36, rfl, S2⟩
  replace S := back _ _ _ _ S2 rfl
  clear back S2 SB35
  refine wd (does_mv_t rfl) (wl_nil ⟨rfl, ?_⟩)
  refine ws_semi 15 18 [] (by kernel_rfl) (by decide) (by kernel_rfl)
   (V := fun i v u => match i with
   | _ => True) ?_ ?_
  ·intro i v u u' hi hx hv
   match i, hv with
   | _, _ => exact trivial
  refine wm_does (fun v K => does_extract rfl rfl) rfl (wm_does (fun v K => does_extract rfl rfl) rfl (wm_does (fun v K => does_as_l rfl) rfl ?_))
  refine wm_nil fun g w37 K hV => ?_
  replace S := S.ext K
  clear K hV
  refine ws_tail 18 (by kernel_rfl) (by decide) (wd (does_as_i rfl) ?_)
  replace S := ((S.front 3).front 1).front 3
  replace S := S.shut_oU hp23
  refine wl_nil (wc_seq (wc_seq (wc_region (wd (does_mv_i rfl) (wd (does_ne rfl rfl) (wl_nil ?_))))))
  refine wc_if rfl (fun hc39 => ?_) (fun hc39 => ?_)
  ·replace H := if_t hc39 H
   refine wc_seq (wc_region (wd (does_mv_i rfl) (wd (does_as_i rfl) (wd (does_as_i rfl) (wl_nil (wc_ret ?_))))))
   refine ⟨_, (rets2 (retOne_tmp rfl) (retOne_tmp rfl)), ?_⟩
   replace S := S.arr [0] []
   obtain rfl := Option.some.inj H
   obtain rfl := e17
   obtain rfl := aft_r Ho17
   exact ⟨rfl, S⟩
  replace H := if_f hc39 H
  refine wc_skip (wc_seq (wc_region (wd (does_mv_p rfl) (wd (does_mv_l rfl) ?_))))
  obtain ⟨hi40, H⟩ := chk_ex H
  refine wd (does_indexR sl_L_api_Seq rfl rfl (S.rdO 1) (inb_ex hi40).1 (inb_ex hi40).2) (wd (does_load_agg ag_Sq rfl ((S.rdO 1).at (at_some Sq.z (inb_ex hi40))) (Sq.len _)) ?_)
  obtain ⟨r41, er41, H⟩ := bind_ex H
  obtain ⟨B43, MB43, SB43, back⟩ := S.calln 1 ((.nil))
  refine wl_call (does_call ca_ref11_run_decide) (by decide) (hrec_ref11_run_decide SB43 er41) ?_
  rintro _ w42 ⟨rfl, S2⟩
  replace S := back _ _ _ _ S2 rfl
  clear back S2 SB43
  refine wd (does_mv_t rfl) (wd (does_extract rfl rfl) (wd (does_extract rfl rfl) (wd (does_as_i rfl) (wd (does_as_i rfl) (wl_nil (wc_seq (wc_seq (wc_region (wd (does_mv_i rfl) (wd (does_ne rfl rfl) (wl_nil ?_)))))))))))
  refine wc_if rfl (fun hc44 => ?_) (fun hc44 => ?_)
  ·replace H := if_t hc44 H
   refine wc_seq (wc_region (wd (does_mv_i rfl) (wd (does_as_i rfl) (wd (does_as_i rfl) (wl_nil (wc_ret ?_))))))
   refine ⟨_, (rets2 (retOne_tmp rfl) (retOne_tmp rfl)), ?_⟩
   replace S := S.arr [0] []
   obtain rfl := Option.some.inj H
   obtain rfl := e17
   obtain rfl := aft_r Ho17
   exact ⟨rfl, S⟩
  replace H := if_f hc44 H
  refine wc_skip (wc_seq (wc_seq (wc_region (wd (does_mv_p rfl) ?_))))
  obtain ⟨p45, s47, hp46, S⟩ := S.open_oU 0
  replace S := S
  refine wd (does_nilCheck (congrArg Value.pointer hp46)) (wd (does_fieldAddr fl_RRun_steps rfl (o' := 1) rfl) (wd (does_load on_L_api_Step rfl ((S.blk 0).cell (RRun.get_steps _))) (wd (does_mv_i rfl) ?_)))
  obtain ⟨hi48, H⟩ := chk_ex H
  refine wd (does_indexD sl_L_api_Step rfl rfl (S.onO 2) (inb_ex hi48).1 (inb_ex hi48).2) (wd (does_fieldAddr fl_Step_proved rfl (o' := _) rfl) (wd (does_load on_bool rfl (oD.cell (z := PStep.z) (S.onO 2) (inb_ex hi48) (fun _ => rStep.get_proved))) (wd (does_not rfl) ?_)))
  replace S := ((S.front 2).front 2).front 2
  replace S := S.shut_oU hp46
  refine wl_nil ?_
  refine wc_if rfl (fun hc49 => ?_) (fun hc49 => ?_)
  ·replace H := if_t hc49 H
   refine wc_seq (wc_region (wd (does_mv_l q17_8) (wd (does_mv_i rfl) ?_)))
   refine wl_lits (C := IC) (l := [r41.2.1]) (vs := [.int .i64 r41.2.1]) sl_L_int el_int.zero rfl rfl (fun _ _ => rfl) (by decide) rfl (by decide) fun b51 w50 s52 hBw50 hw50 => ?_
   replace S := S.lit hBw50 hw50 (by simp)
   obtain ⟨ha55, H⟩ := chk_ex H
   have ha55 := of_decide_eq_true ha55
   refine wl_appends (C := IC) sl_L_int el_int rfl rfl (S.sl 3) (S.rdO 0) (by simp) (fun a _ v hv => by rw [List.mem_singleton.1 hv]; rfl) ha55 (by omega) (by decide) fun s54 w53 O hw53 gw53 => ?_
   replace S := S.push 3 O (by first | (simp; done) | (simp; omega)) hw53 gw53
   clear O
   refine wd (does_as_l rfl) (wl_nil ?_)
   refine wc_exit (wc_region (wd (does_mv_i q17_i) (wd (does_addc rfl rfl (c := i17 + 1) rfl (by omega) (by omega)) (wd (does_as_i rfl) (wl_nil ?_)))))
   replace S := S.arr [0, 2, 4, 5, 6] []
   obtain rfl := Option.some.inj H
   exact ⟨rfl, (((((((((((((((((((((((((((((((((((((((((((((((((((((((((Dif.self _ _ _).upd rfl _).upd rfl _).upd rfl _).upd rfl _).upd rfl _).upd rfl _).upd rfl _).upd rfl _).upd rfl _).upd rfl _).upd rfl _).upd rfl _).upd rfl _).upd rfl _).upd rfl _).upd rfl _).upd rfl _).mask rfl _).upd rfl _).upd rfl _).upd rfl _).upd rfl _).upd rfl _).mask rfl _).upd rfl _).upd rfl _).upd rfl _).upd rfl _).upd rfl _).upd rfl _).upd rfl _).upd rfl _).upd rfl _).upd rfl _).upd rfl _).upd rfl _).upd rfl _).upd rfl _).upd rfl _).upd rfl _).upd rfl _).upd rfl _).upd rfl _).upd rfl _).upd rfl _).upd rfl _).upd rfl _).upd rfl _).upd rfl _).upd rfl _).upd rfl _).upd rfl _).upd rfl _).upd rfl _).upd rfl _).upd rfl _), (m17, i17 + 1, (x17_0 ++ [r41.2.1], r41.1)), ⟨(by dsimp only; omega), (by dsimp only; omega), e17, s54, rfl, rfl, S⟩, by dsimp only; omega⟩
  replace H := if_f hc49 H
  refine wc_skip (wc_seq (wc_seq (wc_region (wd (does_mv_l rfl) (wd (does_lenR sl_L_api_Seq rfl (S.rdO 1)) (wd (does_eq rfl rfl) (wl_nil ?_)))))))
  refine wc_if rfl (fun hc56 => ?_) (fun hc56 => ?_)
  ·replace H := if_t hc56 H
   refine wc_seq ?_
   refine wc_ws hmix fun w60 K => ?_
   replace S := S.ext K
   clear K
   obtain ⟨hi62, H⟩ := chk_ex H
   refine ws_semi 0 12 [11] (by kernel_rfl) (by decide) (by kernel_rfl)
    (V := fun i v u => match i with
    | 11 => ∃ sl, v = SlV.v sl ∧ Own u 0 T_int 1 sl ([r41.2.1].map IC) ∧ (∀ j, sl.fp j → w60.heap.size ≤ j)
    | _ => True) ?_ ?_
   ·intro i v u u' hi hx hv
    match i, hv with
    | 11, ⟨b, e1, hb, hl⟩ => exact ⟨b, e1, hb.ext hx, hl⟩
    | 0, _ => exact trivial
    | 1, _ => exact trivial
    | 2, _ => exact trivial
    | 3, _ => exact trivial
    | 4, _ => exact trivial
    | 5, _ => exact trivial
    | 6, _ => exact trivial
    | 7, _ => exact trivial
    | 8, _ => exact trivial
    | 9, _ => exact trivial
    | 10, _ => exact trivial
    | _ + 12, _ => exact trivial
   refine wm_does (fun v K => does_mv_p rfl) rfl (wm_does (fun v K => does_load_agg ag_Sq rfl (((S.ext K).blk 5).all _ (Sq.len _)) (Sq.len _)) rfl (wm_does (fun v K => does_mv_l rfl) rfl (wm_does (fun v K => does_mv_i q17_i) rfl (wm_does (fun v K => does_indexR sl_L_api_Rule rfl rfl ((S.ext K).rdO 3) (And.intro (show 0 ≤ i17 by omega) (show i17 < (r10.1.length : Int) from hlt17)).1 (And.intro (show 0 ≤ i17 by omega) (show i17 < (r10.1.length : Int) from hlt17)).2) rfl (wm_does (fun v K => does_load on_api_Rule rfl (((S.ext K).rdO 3).one (at_some (0 : Int) (And.intro (show 0 ≤ i17 by omega) (show i17 < (r10.1.length : Int) from hlt17))) rfl)) rfl (wm_does (fun v K => does_mv_l rfl) rfl (wm_does (fun v K => does_mv_i q17_i) rfl (wm_does (fun v K => does_indexR sl_L_int rfl rfl ((S.ext K).rdO 4) (inb_ex hi62).1 (inb_ex hi62).2) rfl (wm_does (fun v K => does_load on_int rfl (((S.ext K).rdO 4).one (at_some (0 : Int) (inb_ex hi62)) rfl)) rfl (wm_does (fun v K => does_mv_i rfl) rfl ?_))))))))))
   refine wm_new (fun g v K G => (have ⟨sl, v', hd, hx, ho, hf⟩ := does_lits (C := IC) (l := [r41.2.1]) (vs := [.int .i64 r41.2.1]) sl_L_int el_int.zero rfl rfl (fun _ _ => rfl) (by first | decide | simp) rfl; ⟨_, v', hd, hx, sl, rfl, ho, (fun j hj => by have := hf j hj; have := K.size; omega)⟩)) rfl ?_
   refine wm_nil fun g w64 K hV => ?_
   obtain ⟨s63, hv6511, ho11, hf11⟩ := hV 11 rfl (by decide)
   replace S := S.addO K ho11 (by simp) hf11
   clear K hV
   refine ws_chain 12 13 (by kernel_rfl) (by decide) ?_
   obtain ⟨r66, er66, H⟩ := bind_ex H
   replace S := S.front 1
   obtain ⟨B68, MB68, SB68, back⟩ := S.calln 2 ((.nil))
   refine wl_call (does_callg ca_ref11_run_end (cons2 rfl (cons2 rfl (cons2 rfl (cons2 rfl (cons2 rfl (cons2 hv6511 rfl))))))) (by decide) (ref11_run_end_st SB68 er66) ?_
   rintro _ w67 ⟨rfl, S2⟩
   replace S := back _ _ _ _ S2 rfl
   clear back S2 SB68
   refine wl_nil ⟨rfl, ?_⟩
   refine ws_semi 13 15 [] (by kernel_rfl) (by decide) (by kernel_rfl)
    (V := fun i v u => match i with
    | _ => True) ?_ ?_
   ·intro i v u u' hi hx hv
    match i, hv with
    | _, _ => exact trivial
   refine wm_does (fun v K => does_extract rfl rfl) rfl (wm_does (fun v K => does_extract rfl rfl) rfl ?_)
   refine wm_nil fun g w69 K hV => ?_
   replace S := S.ext K
   clear K hV
   refine ws_tail 15 (by kernel_rfl) (by decide) (wd (does_as_i rfl) (wd (does_as_i rfl) (wl_nil (wc_ret ?_))))
   refine ⟨_, (rets2 (retOne_tmp rfl) (retOne_tmp rfl)), ?_⟩
   replace S := S.arr [0] []
   obtain rfl := Option.some.inj H
   obtain rfl := e17
   obtain rfl := aft_r Ho17
   exact ⟨rfl, S⟩
  replace H := if_f hc56 H
  refine wc_skip (wc_seq (wc_region (wd (does_mv_p rfl) (wd (does_mv_l rfl) ?_))))
  obtain ⟨hi71, H⟩ := chk_ex H
  refine wd (does_indexR sl_L_api_Seq rfl rfl (S.rdO 1) (inb_ex hi71).1 (inb_ex hi71).2) (wd (does_load_agg ag_Sq rfl ((S.rdO 1).at (at_some Sq.z (inb_ex hi71))) (Sq.len _)) ?_)
  obtain ⟨r72, er72, H⟩ := bind_ex H
  obtain ⟨B74, MB74, SB74, back⟩ := S.calln 1 ((.nil))
  refine wl_call (does_call ca_ref11_run_decide) (by decide) (hrec_ref11_run_decide SB74 er72) ?_
  rintro _ w73 ⟨rfl, S2⟩
  replace S := back _ _ _ _ S2 rfl
  clear back S2 SB74
  refine wd (does_mv_t rfl) (wd (does_extract rfl rfl) (wd (does_extract rfl rfl) (wd (does_as_i rfl) (wd (does_as_i rfl) (wl_nil (wc_seq (wc_seq (wc_region (wd (does_mv_i rfl) (wd (does_ne rfl rfl) (wl_nil ?_)))))))))))
  refine wc_if rfl (fun hc75 => ?_) (fun hc75 => ?_)
  ·replace H := if_t hc75 H
   refine wc_seq (wc_region (wd (does_mv_i rfl) (wd (does_as_i rfl) (wd (does_as_i rfl) (wl_nil (wc_ret ?_))))))
   refine ⟨_, (rets2 (retOne_tmp rfl) (retOne_tmp rfl)), ?_⟩
   replace S := S.arr [0] []
   obtain rfl := Option.some.inj H
   obtain rfl := e17
   obtain rfl := aft_r Ho17
   exact ⟨rfl, S⟩
  replace H := if_f hc75 H
  refine wc_skip (wc_seq (wc_seq (wc_region (wd (does_mv_p rfl) ?_))))
  obtain ⟨p76, s78, hp77, S⟩ := S.open_oU 0
  replace S := S
  refine wd (does_nilCheck (congrArg Value.pointer hp77)) (wd (does_fieldAddr fl_RRun_steps rfl (o' := 1) rfl) (wd (does_load on_L_api_Step rfl ((S.blk 0).cell (RRun.get_steps _))) (wd (does_mv_i rfl) ?_)))
  obtain ⟨hi79, H⟩ := chk_ex H
  refine wd (does_indexD sl_L_api_Step rfl rfl (S.onO 2) (inb_ex hi79).1 (inb_ex hi79).2) (wd (does_fieldAddr fl_Step_proved rfl (o' := _) rfl) (wd (does_load on_bool rfl (oD.cell (z := PStep.z) (S.onO 2) (inb_ex hi79) (fun _ => rStep.get_proved))) ?_))
  replace S := ((S.front 2).front 2).front 2
  replace S := S.shut_oU hp77
  refine wl_nil ?_
  refine wc_if rfl (fun hc80 => ?_) (fun hc80 => ?_)
  ·replace H := if_t hc80 H
   refine wc_seq ?_
   refine wc_ws hmix fun w84 K => ?_
   replace S := S.ext K
   clear K
   obtain ⟨hi86, H⟩ := chk_ex H
   refine ws_semi 0 13 [12] (by kernel_rfl) (by decide) (by kernel_rfl)
    (V := fun i v u => match i with
    | 12 => ∃ sl, v = SlV.v sl ∧ Own u 0 T_int 1 sl ([r41.2.1, r72.2.1].map IC) ∧ (∀ j, sl.fp j → w84.heap.size ≤ j)
    | _ => True) ?_ ?_
   ·intro i v u u' hi hx hv
    match i, hv with
    | 12, ⟨b, e1, hb, hl⟩ => exact ⟨b, e1, hb.ext hx, hl⟩
    | 0, _ => exact trivial
    | 1, _ => exact trivial
    | 2, _ => exact trivial
    | 3, _ => exact trivial
    | 4, _ => exact trivial
    | 5, _ => exact trivial
    | 6, _ => exact trivial
    | 7, _ => exact trivial
    | 8, _ => exact trivial
    | 9, _ => exact trivial
    | 10, _ => exact trivial
    | 11, _ => exact trivial
    | _ + 13, _ => exact trivial
   refine wm_does (fun v K => does_mv_p rfl) rfl (wm_does (fun v K => does_load_agg ag_Sq rfl (((S.ext K).blk 5).all _ (Sq.len _)) (Sq.len _)) rfl (wm_does (fun v K => does_mv_l rfl) rfl (wm_does (fun v K => does_mv_i q17_i) rfl (wm_does (fun v K => does_indexR sl_L_api_Rule rfl rfl ((S.ext K).rdO 3) (And.intro (show 0 ≤ i17 by omega) (show i17 < (r10.1.length : Int) from hlt17)).1 (And.intro (show 0 ≤ i17 by omega) (show i17 < (r10.1.length : Int) from hlt17)).2) rfl (wm_does (fun v K => does_load on_api_Rule rfl (((S.ext K).rdO 3).one (at_some (0 : Int) (And.intro (show 0 ≤ i17 by omega) (show i17 < (r10.1.length : Int) from hlt17))) rfl)) rfl (wm_does (fun v K => does_mv_l rfl) rfl (wm_does (fun v K => does_mv_i q17_i) rfl (wm_does (fun v K => does_indexR sl_L_int rfl rfl ((S.ext K).rdO 4) (inb_ex hi86).1 (inb_ex hi86).2) rfl (wm_does (fun v K => does_load on_int rfl (((S.ext K).rdO 4).one (at_some (0 : Int) (inb_ex hi86)) rfl)) rfl (wm_does (fun v K => does_mv_i rfl) rfl (wm_does (fun v K => does_mv_i rfl) rfl ?_)))))))))))
   refine wm_new (fun g v K G => (have ⟨sl, v', hd, hx, ho, hf⟩ := does_lits (C := IC) (l := [r41.2.1, r72.2.1]) (vs := [.int .i64 r41.2.1, .int .i64 r72.2.1]) sl_L_int el_int.zero rfl rfl (fun _ _ => rfl) (by first | decide | simp) rfl; ⟨_, v', hd, hx, sl, rfl, ho, (fun j hj => by have := hf j hj; have := K.size; omega)⟩)) rfl ?_
   refine wm_nil fun g w88 K hV => ?_
   obtain ⟨s87, hv8912, ho12, hf12⟩ := hV 12 rfl (by decide)
   replace S := S.addO K ho12 (by simp) hf12
   clear K hV
   refine ws_chain 13 14 (by kernel_rfl) (by decide) ?_
   obtain ⟨r90, er90, H⟩ := bind_ex H
   replace S := S.front 1
   obtain ⟨B92, MB92, SB92, back⟩ := S.calln 2 ((.nil))
   refine wl_call (does_callg ca_ref11_run_end (cons2 rfl (cons2 rfl (cons2 rfl (cons2 rfl (cons2 rfl (cons2 hv8912 rfl))))))) (by decide) (ref11_run_end_st SB92 er90) ?_
   rintro _ w91 ⟨rfl, S2⟩
   replace S := back _ _ _ _ S2 rfl
   clear back S2 SB92
   refine wl_nil ⟨rfl, ?_⟩
   refine ws_semi 14 16 [] (by kernel_rfl) (by decide) (by kernel_rfl)
    (V := fun i v u => match i with
    | _ => True) ?_ ?_
   ·intro i v u u' hi hx hv
    match i, hv with
    | _, _ => exact trivial
   refine wm_does (fun v K => does_extract rfl rfl) rfl (wm_does (fun v K => does_extract rfl rfl) rfl ?_)
   refine wm_nil fun g w93 K hV => ?_
   replace S := S.ext K
   clear K hV
   refine ws_tail 16 (by kernel_rfl) (by decide) (wd (does_as_i rfl) (wd (does_as_i rfl) (wl_nil (wc_ret ?_))))
   refine ⟨_, (rets2 (retOne_tmp rfl) (retOne_tmp rfl)), ?_⟩
   replace S := S.arr [0] []
   obtain rfl := Option.some.inj H
   obtain rfl := e17
   obtain rfl := aft_r Ho17
   exact ⟨rfl, S⟩
  replace H := if_f hc80 H
  refine wc_skip (wc_seq ?_)
  refine wc_ws hmix fun w98 K => ?_
  replace S := S.ext K
  clear K
  obtain ⟨hi100, H⟩ := chk_ex H
  refine ws_semi 0 12 [11] (by kernel_rfl) (by decide) (by kernel_rfl)
   (V := fun i v u => match i with
   | 11 => ∃ sl, v = SlV.v sl ∧ Own u 0 T_int 1 sl ([r72.2.1].map IC) ∧ (∀ j, sl.fp j → w98.heap.size ≤ j)
   | _ => True) ?_ ?_
  ·intro i v u u' hi hx hv
   match i, hv with
   | 11, ⟨b, e1, hb, hl⟩ => exact ⟨b, e1, hb.ext hx, hl⟩
   | 0, _ => exact trivial
   | 1, _ => exact trivial
   | 2, _ => exact trivial
   | 3, _ => exact trivial
   | 4, _ => exact trivial
   | 5, _ => exact trivial
   | 6, _ => exact trivial
   | 7, _ => exact trivial
   | 8, _ => exact trivial
   | 9, _ => exact trivial
   | 10, _ => exact trivial
   | _ + 12, _ => exact trivial
  refine wm_does (fun v K => does_mv_p rfl) rfl (wm_does (fun v K => does_load_agg ag_Sq rfl (((S.ext K).blk 5).all _ (Sq.len _)) (Sq.len _)) rfl (wm_does (fun v K => does_mv_l rfl) rfl (wm_does (fun v K => does_mv_i q17_i) rfl (wm_does (fun v K => does_indexR sl_L_api_Rule rfl rfl ((S.ext K).rdO 3) (And.intro (show 0 ≤ i17 by omega) (show i17 < (r10.1.length : Int) from hlt17)).1 (And.intro (show 0 ≤ i17 by omega) (show i17 < (r10.1.length : Int) from hlt17)).2) rfl (wm_does (fun v K => does_load on_api_Rule rfl (((S.ext K).rdO 3).one (at_some (0 : Int) (And.intro (show 0 ≤ i17 by omega) (show i17 < (r10.1.length : Int) from hlt17))) rfl)) rfl (wm_does (fun v K => does_mv_l rfl) rfl (wm_does (fun v K => does_mv_i q17_i) rfl (wm_does (fun v K => does_indexR sl_L_int rfl rfl ((S.ext K).rdO 4) (inb_ex hi100).1 (inb_ex hi100).2) rfl (wm_does (fun v K => does_load on_int rfl (((S.ext K).rdO 4).one (at_some (0 : Int) (inb_ex hi100)) rfl)) rfl (wm_does (fun v K => does_mv_i rfl) rfl ?_))))))))))
  refine wm_new (fun g v K G => (have ⟨sl, v', hd, hx, ho, hf⟩ := does_lits (C := IC) (l := [r72.2.1]) (vs := [.int .i64 r72.2.1]) sl_L_int el_int.zero rfl rfl (fun _ _ => rfl) (by first | decide | simp) rfl; ⟨_, v', hd, hx, sl, rfl, ho, (fun j hj => by have := hf j hj; have := K.size; omega)⟩)) rfl ?_
  refine wm_nil fun g w102 K hV => ?_
  obtain ⟨s101, hv10311, ho11, hf11⟩ := hV 11 rfl (by decide)
  replace S := S.addO K ho11 (by simp) hf11
  clear K hV
  refine ws_chain 12 13 (by kernel_rfl) (by decide) ?_
  obtain ⟨r104, er104, H⟩ := bind_ex H
  replace S := S.front 1
  obtain ⟨B106, MB106, SB106, back⟩ := S.calln 2 ((.nil))
  refine wl_call (does_callg ca_ref11_run_end (cons2 rfl (cons2 rfl (cons2 rfl (cons2 rfl (cons2 rfl (cons2 hv10311 rfl))))))) (by decide) (ref11_run_end_st SB106 er104) ?_
  rintro _ w105 ⟨rfl, S2⟩
  replace S := back _ _ _ _ S2 rfl
  clear back S2 SB106
  refine wl_nil ⟨rfl, ?_⟩
  refine ws_semi 13 15 [] (by kernel_rfl) (by decide) (by kernel_rfl)
   (V := fun i v u => match i with
   | _ => True) ?_ ?_
  ·intro i v u u' hi hx hv
   match i, hv with
   | _, _ => exact trivial
  refine wm_does (fun v K => does_extract rfl rfl) rfl (wm_does (fun v K => does_extract rfl rfl) rfl ?_)
  refine wm_nil fun g w107 K hV => ?_
  replace S := S.ext K
  clear K hV
  refine ws_tail 15 (by kernel_rfl) (by decide) (wd (does_as_i rfl) (wd (does_as_i rfl) (wl_nil (wc_ret ?_))))
  refine ⟨_, (rets2 (retOne_tmp rfl) (retOne_tmp rfl)), ?_⟩
  replace S := S.arr [0] []
  obtain rfl := Option.some.inj H
  obtain rfl := e17
  obtain rfl := aft_r Ho17
  exact ⟨rfl, S⟩
 rintro g109 u110 ⟨s17, rfl, s18, p17_8, S⟩
 have H := Ho17
 dsimp only [aft] at H
 refine wc_seq (wc_region (wd (does_mv_p rfl) (wd (does_load_agg ag_Sq rfl ((S.blk 4).all _ (Sq.len _)) (Sq.len _)) (wd (does_mv_l p17_8) ?_))))
 obtain ⟨r111, er111, H⟩ := bind_ex H
 replace S := S.front 1
 obtain ⟨B113, MB113, SB113, back⟩ := S.calln 2 ((.nil))
 refine wl_call (does_call ca_ref11_run_end) (by decide) (ref11_run_end_st SB113 er111) ?_
 rintro _ w112 ⟨rfl, S2⟩
 replace S := back _ _ _ _ S2 rfl
 clear back S2 SB113
 refine wd (does_extract rfl rfl) (wd (does_extract rfl rfl) (wd (does_as_i rfl) (wd (does_as_i rfl) (wl_nil (wc_ret ?_)))))
 refine ⟨_, (rets2 (retOne_tmp rfl) (retOne_tmp rfl)), ?_⟩
 replace S := S.arr [0] []
 obtain rfl := Option.some.inj H
 exact ⟨rfl, S⟩
theorem ref11_run_decide_gst {rec_ref11_run_decide : PRRun → Sq → Option (PRRun × Int × Int)} (hrec_ref11_run_decide : ∀ {A : Nat → Prop} {N : Oth} {w : World} {a0 : PRRun} {a_0 : Option Addr} {g_0_1 : Option Addr} {a1 : Sq} (S : St A N w w [oU a_0 g_0_1 a0] []) {r : PRRun × Int × Int} (H : rec_ref11_run_decide a0 a1 = some r), Calls PP F_ref11_run_decide #[.pointer a_0, .agg (Sq.C a1).toArray] w fun e w' => ∃ v, e = .returned v ∧ (v = .tuple #[.int .i64 r.2.1, .int .i64 r.2.2] ∧ St A N w w' [oU a_0 g_0_1 r.1] [])) {A : Nat → Prop} {N : Oth} {w : World} {a0 : PRRun} {a_0 : Option Addr} {g_0_1 : Option Addr} {a1 : Sq} (S : St A N w w [oU a_0 g_0_1 a0] []) {k : Nat} {r : PRRun × Int × Int} (H : ref11_run_decide.g rec_ref11_run_decide k a0 a1 = some r) :
  Calls PP F_ref11_run_decide #[.pointer a_0, .agg (Sq.C a1).toArray] w fun e w' => ∃ v, e = .returned v ∧ (v = .tuple #[.int .i64 r.2.1, .int .i64 r.2.2] ∧ St A N w w' [oU a_0 g_0_1 r.1] []) := by
 unfold ref11_run_decide.g at H
 refine calls_of_wc (n := 115) fn_ref11_run_decide rfl rfl (by simp) (wc_seq (wc_region ?_))
 refine wl_box_agg rfl (by decide) fun b2 w1 hw1 => ?_
 replace S := S.new hw1
 refine wd (does_as_i rfl) (wd (does_as_i rfl) (wl_nil (wc_seq (wc_region (wd (does_mv_p rfl) (wd (does_load_agg ag_Sq rfl ((S.blk 0).all _ (Sq.len _)) (Sq.len _)) ?_))))))
 obtain ⟨r3, er3, H⟩ := bind_ex H
 replace S := S.front 1
 obtain ⟨B5, MB5, SB5, back⟩ := S.calln 1 ((.nil))
 refine wl_call (does_call ca_ref11_run_find) (by decide) (ref11_run_find_st SB5 er3) ?_
 rintro _ w4 ⟨rfl, S2⟩
 replace S := back _ _ _ _ S2 rfl
 clear back S2 SB5
 refine wd (does_as_i rfl) (wl_nil (wc_seq (wc_seq (wc_region (wd (does_mv_i rfl) (wd (does_ge rfl rfl) (wl_nil ?_)))))))
 refine wc_if rfl (fun hc6 => ?_) (fun hc6 => ?_)
 ·replace H := if_t hc6 H
  refine wc_seq (wc_region (wd (does_mv_i rfl) (wd (does_as_i rfl) (wd (does_as_i rfl) (wl_nil (wc_ret ?_))))))
  refine ⟨_, (rets2 (retOne_tmp rfl) (retOne_tmp rfl)), ?_⟩
  replace S := S.arr [0] []
  obtain rfl := Option.some.inj H
  exact ⟨rfl, S⟩
 replace H := if_f hc6 H
 refine wc_skip (wc_seq (wc_seq ?_))
 obtain ⟨p7, s9, hp8, S⟩ := S.open_oU 0
 replace S := S
 refine wc_quiet 8 (Ext w4) hmix (by kernel_rfl) (by kernel_rfl) (Ext.drawn _) (wq_does (fun v K => does_mv_p rfl) (wq_does (fun v K => does_nilCheck (congrArg Value.pointer hp8)) (wq_does (fun v K => does_fieldAddr fl_RRun_visits rfl (o' := 2) rfl) (wq_does (fun v K => does_load on_int rfl (((S.ext K).blk 0).cell (RRun.get_visits _))) (wq_does (fun v K => does_mv_p rfl) (wq_does (fun v K => does_nilCheck (congrArg Value.pointer hp8)) (wq_does (fun v K => does_fieldAddr fl_RRun_budget rfl (o' := 3) rfl) (wq_does (fun v K => does_load on_int rfl (((S.ext K).blk 0).cell (RRun.get_budget _))) ?_))))))))
 refine wq_nil fun w10 K => ?_
 replace S := S.ext K
 clear K
 refine wd (does_ge rfl rfl) ?_
 replace S := ((S.front 2).front 2).front 2
 replace S := S.shut_oU hp8
 refine wl_nil ?_
 refine wc_if rfl (fun hc11 => ?_) (fun hc11 => ?_)
 ·replace H := if_t hc11 H
  refine wc_seq (wc_region (wd (does_as_i rfl) (wd (does_as_i rfl) (wl_nil (wc_ret ?_)))))
  refine ⟨_, (rets2 (retOne_tmp rfl) (retOne_tmp rfl)), ?_⟩
  replace S := S.arr [0] []
  obtain rfl := Option.some.inj H
  exact ⟨rfl, S⟩
 replace H := if_f hc11 H
 refine wc_skip (wc_seq (wc_region (wd (does_mv_p rfl) ?_)))
 obtain ⟨p12, s14, hp13, S⟩ := S.open_oU 0
 replace S := S
 refine wd (does_nilCheck (congrArg Value.pointer hp13)) (wd (does_fieldAddr fl_RRun_visits rfl (o' := 2) rfl) (wd (does_load on_int rfl ((S.blk 0).cell (RRun.get_visits _))) (wd (does_add rfl rfl) (wd (does_nilCheck (congrArg Value.pointer hp13)) (wd (does_fieldAddr fl_RRun_visits rfl (o' := 2) rfl) ?_)))))
 refine wl_store on_int rfl rfl (S.blk 0) (by rw [RRun.len]; decide) rfl (RRun.set_visits _ _) fun w15 B hw15 zw15 => ?_
 replace S := S.store 0 B hw15
 clear B
 replace S := ((S.front 2).front 2).front 2
 replace S := S.shut_oU hp13
 refine wl_nil (wc_seq ?_)
 obtain ⟨p16, s18, hp17, S⟩ := S.open_oU 0
 replace S := S
 refine wc_quiet 10 (Ext w15) hmix (by kernel_rfl) (by kernel_rfl) (Ext.drawn _) (wq_does (fun v K => does_mv_p rfl) (wq_does (fun v K => does_nilCheck (congrArg Value.pointer hp17)) (wq_does (fun v K => does_fieldAddr fl_RRun_t rfl (o' := 0) rfl) (wq_does (fun v K => does_load on_Two rfl (((S.ext K).blk 0).cell (RRun.get_t _))) (wq_does (fun v K => does_load_agg ag_Sq rfl (((S.ext K).blk 3).all _ (Sq.len _)) (Sq.len _)) ?_)))))
 obtain ⟨r19, er19, H⟩ := bind_ex H
 refine wq_call (fun v => does_call ca_ref09_Apply) (fun v K => (have ⟨M, SS⟩ := (S.ext K).lend ((.o 1 rfl .nil)); quiet (ref09_Apply_st SS er19) (fun v w' h => ⟨h.1, _, _, h.2⟩))) (fun v v' K h => K.thenExt h) (wq_does (fun v K => does_mv_t rfl) (wq_does (fun v K => does_extract rfl rfl) (wq_does (fun v K => does_extract rfl rfl) (wq_does (fun v K => does_as_i rfl) ?_))))
 refine wq_nil fun w20 K => ?_
 replace S := S.ext K
 clear K
 refine wd (does_as_i rfl) ?_
 replace S := ((S.front 2).front 2).front 2
 replace S := S.shut_oU hp17
 refine wl_nil (wc_seq (wc_seq (wc_region (wd (does_mv_i rfl) (wd (does_eq rfl rfl) (wl_nil ?_))))))
 refine wc_if rfl (fun hc21 => ?_) (fun hc21 => ?_)
 ·replace H := if_t hc21 H
  refine wc_seq (wc_region (wd (does_mv_p rfl) (wd (does_load_agg ag_Sq rfl ((S.blk 1).all _ (Sq.len _)) (Sq.len _)) ?_)))
  obtain ⟨r22, er22, H⟩ := bind_ex H
  obtain ⟨B24, MB24, SB24, back⟩ := S.calln 1 ((.nil))
  refine wl_call (does_call ca_ref11_run_choose) (by decide) (ref11_run_choose_gst hrec_ref11_run_decide SB24 er22) ?_
  rintro _ w23 ⟨rfl, S2⟩
  replace S := back _ _ _ _ S2 rfl
  clear back S2 SB24
  refine wd (does_extract rfl rfl) (wd (does_extract rfl rfl) (wd (does_as_i rfl) (wd (does_as_i rfl) (wl_nil (wc_ret ?_)))))
  refine ⟨_, (rets2 (retOne_tmp rfl) (retOne_tmp rfl)), ?_⟩
  replace S := S.arr [0] []
  obtain rfl := Option.some.inj H
  exact ⟨rfl, S⟩
 replace H := if_f hc21 H
 refine wc_skip (wc_seq ?_)
 obtain ⟨p25, s27, hp26, S⟩ := S.open_oU 0
 replace S := S
 refine wc_ws hmix fun w29 K => ?_
 replace S := S.ext K
 clear K
 refine ws_semi 0 7 [] (by kernel_rfl) (by decide) (by kernel_rfl)
  (V := fun i v u => match i with
  | _ => True) ?_ ?_
 ·intro i v u u' hi hx hv
  match i, hv with
  | _, _ => exact trivial
 refine wm_does (fun v K => does_mv_p rfl) rfl (wm_does (fun v K => does_nilCheck (congrArg Value.pointer hp26)) rfl (wm_does (fun v K => does_fieldAddr fl_RRun_t rfl (o' := 0) rfl) rfl (wm_does (fun v K => does_load on_Two rfl (((S.ext K).blk 0).cell (RRun.get_t _))) rfl (wm_does (fun v K => does_load_agg ag_Sq rfl (((S.ext K).blk 3).all _ (Sq.len _)) (Sq.len _)) rfl (wm_does (fun v K => does_mv_i rfl) rfl (wm_does (fun v K => does_mv_i rfl) rfl ?_))))))
 refine wm_nil fun g w30 K hV => ?_
 replace S := S.ext K
 clear K hV
 refine ws_chain 7 9 (by kernel_rfl) (by decide) ?_
 obtain ⟨r32, er32, H⟩ := bind_ex H
 replace S := S.front 1
 obtain ⟨B34, MB34, SB34, back⟩ := S.calln 1 ((.nil))
 refine wl_call (does_call ca_ref09_Premises) (by decide) (ref09_Premises_st SB34 er32) ?_
 rintro _ w33 ⟨s35, rfl, S2⟩
 replace S := back _ _ _ _ S2 rfl
 clear back S2 SB34
 refine wd (does_mv_t rfl) (wl_nil ⟨rfl, ?_⟩)
 refine ws_semi 9 12 [] (by kernel_rfl) (by decide) (by kernel_rfl)
  (V := fun i v u => match i with
  | _ => True) ?_ ?_
 ·intro i v u u' hi hx hv
  match i, hv with
  | _, _ => exact trivial
 refine wm_does (fun v K => does_extract rfl rfl) rfl (wm_does (fun v K => does_extract rfl rfl) rfl (wm_does (fun v K => does_as_l rfl) rfl ?_))
 refine wm_nil fun g w36 K hV => ?_
 replace S := S.ext K
 clear K hV
 refine ws_tail 12 (by kernel_rfl) (by decide) (wd (does_as_i rfl) ?_)
 replace S := ((S.front 3).front 1).front 3
 replace S := S.shut_oU hp26
 refine wl_nil (wc_seq (wc_seq (wc_region (wd (does_mv_i rfl) (wd (does_ne rfl rfl) (wl_nil ?_))))))
 refine wc_if rfl (fun hc38 => ?_) (fun hc38 => ?_)
 ·replace H := if_t hc38 H
  refine wc_seq (wc_region (wd (does_mv_i rfl) (wd (does_as_i rfl) (wd (does_as_i rfl) (wl_nil (wc_ret ?_))))))
  refine ⟨_, (rets2 (retOne_tmp rfl) (retOne_tmp rfl)), ?_⟩
  replace S := S.arr [0] []
  obtain rfl := Option.some.inj H
  exact ⟨rfl, S⟩
 replace H := if_f hc38 H
 refine wc_skip (wc_seq (wc_region (wd (does_as_nil) (wl_nil (wc_seq (wc_seq (wc_region (wd (does_as_i rfl) (wl_nil ?_)))))))))
 replace S := S.nil T_int 1 IC
 obtain ⟨o39, e39, Ho39⟩ := bind_ex H
 clear H
 refine wc_cutq [4, 5, 11, 12, 13, 14, 67, 68, 69, 70, 71, 72, 73, 74, 75, 76, 77, 78, 79, 80, 81, 82, 83, 84, 85, 86, 87, 88, 89, 90, 91, 92, 93, 94, 95, 96, 97, 98, 99, 100, 101, 102, 103, 104, 105, 106] (fun fr W => ∃ s39 : List Int × PRRun, o39 = .inl s39 ∧ ∃ s40 : SlV, fr 11 = s40.v ∧ St A N w W [oS T_int 1 IC s40 s39.1, oU a_0 g_0_1 s39.2, oS T_Sq 17 Sq.C s35 r32.2.1, oB b2 T_Sq (Sq.C a1)] []) ?_ ?_
 ·refine wc_block ?_
  refine wc_loopm (α := Nat × Int × (List Int × PRRun)) [4, 5, 11, 12, 13, 14, 67, 68, 69, 70, 71, 72, 73, 74, 75, 76, 77, 78, 79, 80, 81, 82, 83, 84, 85, 86, 87, 88, 89, 90, 91, 92, 93, 94, 95, 96, 97, 98, 99, 100, 101, 102, 103, 104, 105, 106] (fun x fr W => (x.1 : Int) = (r32.2.1.length : Int) - x.2.1 ∧ 0 ≤ x.2.1 ∧ forN (fun i s => ref11_run_decide.b0 rec_ref11_run_decide r32 a1 r19 i s.1 s.2) x.1 x.2.1 x.2.2 = some o39 ∧ ∃ s41 : SlV, fr 12 = .int .i64 x.2.1 ∧ fr 11 = s41.v ∧ St A N w W [oS T_int 1 IC s41 (x.2.2.1), oU a_0 g_0_1 (x.2.2.2), oS T_Sq 17 Sq.C s35 r32.2.1, oB b2 T_Sq (Sq.C a1)] []) (fun x => x.1) (((r32.2.1.length : Int) - 0).toNat, 0, (([] : List Int), (⟨r32.1, r3.1.steps, IntKind.i64.wrap (r3.1.visits + 1), r3.1.budget⟩ : PRRun))) ⟨(by dsimp only; have hle := Int.natCast_nonneg (r32.2.1.length); omega), (Int.le_refl _), (by dsimp only; exact e39), SlV.nil, rfl, rfl, S⟩ ?_
  rintro ⟨m39, i39, ⟨x39_0, x39_1⟩⟩ g39 u39 ⟨hm39, hl39, e39, s42, q39_i, q39_11, S⟩
  try dsimp only at hm39
  try dsimp only at hl39
  try dsimp only at e39
  try dsimp only at S
  try dsimp only at q39_i
  try dsimp only at q39_11
  refine wc_seq (wc_seq (wc_region (wd (does_mv_i q39_i) (wd (does_mv_l rfl) (wd (does_lenR sl_L_api_Seq rfl (S.rdO 2)) (wd (does_lt rfl rfl) (wl_nil ?_)))))))
  refine wc_if rfl (fun hc43 => ?_) (fun hc43 => ?_)
  rotate_left
  ·refine wc_exit ?_
   have hge : (r32.2.1.length : Int) ≤ i39 := Int.not_lt.1 (of_decide_eq_false hc43)
   obtain rfl : m39 = 0 := by omega
   replace e39 := forN_0 e39
   exact ⟨rfl, (((((Dif.self _ _ _).upd rfl _).upd rfl _).upd rfl _).upd rfl _), (x39_0, x39_1), e39, s42, q39_11, S⟩
  refine wc_skip ?_
  have hlt39 : i39 < (r32.2.1.length : Int) := of_decide_eq_true hc43
  obtain ⟨m39, rfl⟩ : ∃ m, m39 = m + 1 := ⟨m39 - 1, by omega⟩
  obtain ⟨q39, H, e39⟩ := forN_s e39
  unfold ref11_run_decide.b0 at H
  try dsimp only at H
  have hb39 := (S.lenO 2)
  refine wc_seq ?_
  refine wc_block (wc_seq (wc_region (wd (does_mv_p rfl) (wd (does_mv_l rfl) (wd (does_mv_i q39_i) (wd (does_indexR sl_L_api_Seq rfl rfl (S.rdO 2) (And.intro (show 0 ≤ i39 by omega) (show i39 < (r32.2.1.length : Int) from hlt39)).1 (And.intro (show 0 ≤ i39 by omega) (show i39 < (r32.2.1.length : Int) from hlt39)).2) (wd (does_load_agg ag_Sq rfl ((S.rdO 2).at (at_some Sq.z (And.intro (show 0 ≤ i39 by omega) (show i39 < (r32.2.1.length : Int) from hlt39)))) (Sq.len _)) ?_)))))))
  obtain ⟨r45, er45, H⟩ := bind_ex H
  replace S := S.front 1
  obtain ⟨B47, MB47, SB47, back⟩ := S.calln 1 ((.nil))
  refine wl_call (does_call ca_ref11_run_decide) (by decide) (hrec_ref11_run_decide SB47 er45) ?_
  rintro _ w46 ⟨rfl, S2⟩
  replace S := back _ _ _ _ S2 rfl
  clear back S2 SB47
  refine wd (does_mv_t rfl) (wd (does_extract rfl rfl) (wd (does_extract rfl rfl) (wd (does_as_i rfl) (wd (does_as_i rfl) (wl_nil (wc_seq (wc_seq (wc_region (wd (does_mv_i rfl) (wd (does_ne rfl rfl) (wl_nil ?_)))))))))))
  refine wc_if rfl (fun hc48 => ?_) (fun hc48 => ?_)
  ·replace H := if_t hc48 H
   refine wc_seq (wc_region (wd (does_mv_i rfl) (wd (does_as_i rfl) (wd (does_as_i rfl) (wl_nil (wc_ret ?_))))))
   refine ⟨_, (rets2 (retOne_tmp rfl) (retOne_tmp rfl)), ?_⟩
   replace S := S.arr [0] []
   obtain rfl := Option.some.inj H
   obtain rfl := e39
   obtain rfl := aft_r Ho39
   exact ⟨rfl, S⟩
  replace H := if_f hc48 H
  refine wc_skip (wc_seq (wc_seq (wc_region (wd (does_mv_p rfl) ?_))))
  obtain ⟨p49, s51, hp50, S⟩ := S.open_oU 0
  replace S := S
  refine wd (does_nilCheck (congrArg Value.pointer hp50)) (wd (does_fieldAddr fl_RRun_steps rfl (o' := 1) rfl) (wd (does_load on_L_api_Step rfl ((S.blk 0).cell (RRun.get_steps _))) (wd (does_mv_i rfl) ?_)))
  obtain ⟨hi52, H⟩ := chk_ex H
  refine wd (does_indexD sl_L_api_Step rfl rfl (S.onO 2) (inb_ex hi52).1 (inb_ex hi52).2) (wd (does_fieldAddr fl_Step_proved rfl (o' := _) rfl) (wd (does_load on_bool rfl (oD.cell (z := PStep.z) (S.onO 2) (inb_ex hi52) (fun _ => rStep.get_proved))) (wd (does_not rfl) ?_)))
  replace S := ((S.front 2).front 2).front 2
  replace S := S.shut_oU hp50
  refine wl_nil ?_
  refine wc_if rfl (fun hc53 => ?_) (fun hc53 => ?_)
  ·replace H := if_t hc53 H
   refine wc_seq (wc_region (wd (does_mv_p rfl) (wd (does_load_agg ag_Sq rfl ((S.blk 3).all _ (Sq.len _)) (Sq.len _)) (wd (does_mv_i rfl) (wd (does_mv_i rfl) (wd (does_mv_i rfl) ?_))))))
   refine wl_lits (C := IC) (l := [r45.2.1]) (vs := [.int .i64 r45.2.1]) sl_L_int el_int.zero rfl rfl (fun _ _ => rfl) (by decide) rfl (by decide) fun b55 w54 s56 hBw54 hw54 => ?_
   replace S := S.lit hBw54 hw54 (by simp)
   obtain ⟨r57, er57, H⟩ := bind_ex H
   replace S := S.front 1
   obtain ⟨B59, MB59, SB59, back⟩ := S.calln 2 ((.nil))
   refine wl_call (does_call ca_ref11_run_end) (by decide) (ref11_run_end_st SB59 er57) ?_
   rintro _ w58 ⟨rfl, S2⟩
   replace S := back _ _ _ _ S2 rfl
   clear back S2 SB59
   refine wd (does_extract rfl rfl) (wd (does_extract rfl rfl) (wd (does_as_i rfl) (wd (does_as_i rfl) (wl_nil (wc_ret ?_)))))
   refine ⟨_, (rets2 (retOne_tmp rfl) (retOne_tmp rfl)), ?_⟩
   replace S := S.arr [0] []
   obtain rfl := Option.some.inj H
   obtain rfl := e39
   obtain rfl := aft_r Ho39
   exact ⟨rfl, S⟩
  replace H := if_f hc53 H
  refine wc_skip (wc_region (wd (does_mv_l q39_11) (wd (does_mv_i rfl) ?_)))
  refine wl_lits (C := IC) (l := [r45.2.1]) (vs := [.int .i64 r45.2.1]) sl_L_int el_int.zero rfl rfl (fun _ _ => rfl) (by decide) rfl (by decide) fun b61 w60 s62 hBw60 hw60 => ?_
  replace S := S.lit hBw60 hw60 (by simp)
  obtain ⟨ha65, H⟩ := chk_ex H
  have ha65 := of_decide_eq_true ha65
  refine wl_appends (C := IC) sl_L_int el_int rfl rfl (S.sl 2) (S.rdO 0) (by simp) (fun a _ v hv => by rw [List.mem_singleton.1 hv]; rfl) ha65 (by omega) (by decide) fun s64 w63 O hw63 gw63 => ?_
  replace S := S.push 2 O (by first | (simp; done) | (simp; omega)) hw63 gw63
  clear O
  refine wd (does_as_l rfl) (wl_nil (wc_region (wd (does_mv_i q39_i) (wd (does_addc rfl rfl (c := i39 + 1) rfl (by omega) (by omega)) (wd (does_as_i rfl) (wl_nil ?_))))))
  replace S := S.arr [0, 2, 3, 4] []
  obtain rfl := Option.some.inj H
  exact ⟨rfl, (((((((((((((((((((((((((((((((((((Dif.self _ _ _).upd rfl _).upd rfl _).upd rfl _).upd rfl _).upd rfl _).upd rfl _).upd rfl _).upd rfl _).upd rfl _).upd rfl _).upd rfl _).upd rfl _).upd rfl _).upd rfl _).upd rfl _).upd rfl _).upd rfl _).upd rfl _).upd rfl _).upd rfl _).upd rfl _).upd rfl _).upd rfl _).upd rfl _).upd rfl _).upd rfl _).upd rfl _).upd rfl _).upd rfl _).upd rfl _).upd rfl _).upd rfl _).upd rfl _).upd rfl _), (m39, i39 + 1, (x39_0 ++ [r45.2.1], r45.1)), ⟨(by dsimp only; omega), (by dsimp only; omega), e39, s64, rfl, rfl, S⟩, by dsimp only; omega⟩
 rintro g66 u67 ⟨s39, rfl, s40, p39_11, S⟩
 have H := Ho39
 dsimp only [aft] at H
 refine wc_seq (wc_region (wd (does_mv_p rfl) (wd (does_load_agg ag_Sq rfl ((S.blk 3).all _ (Sq.len _)) (Sq.len _)) (wd (does_mv_i rfl) (wd (does_mv_i rfl) (wd (does_mv_l p39_11) ?_))))))
 obtain ⟨r68, er68, H⟩ := bind_ex H
 replace S := S.front 1
 obtain ⟨B70, MB70, SB70, back⟩ := S.calln 2 ((.nil))
 refine wl_call (does_call ca_ref11_run_end) (by decide) (ref11_run_end_st SB70 er68) ?_
 rintro _ w69 ⟨rfl, S2⟩
 replace S := back _ _ _ _ S2 rfl
 clear back S2 SB70
 refine wd (does_extract rfl rfl) (wd (does_extract rfl rfl) (wd (does_as_i rfl) (wd (does_as_i rfl) (wl_nil (wc_ret ?_)))))
 refine ⟨_, (rets2 (retOne_tmp rfl) (retOne_tmp rfl)), ?_⟩
 replace S := S.arr [0] []
 obtain rfl := Option.some.inj H
 exact ⟨rfl, S⟩
theorem ref11_run_decide_st {A : Nat → Prop} {N : Oth} {w : World} {a0 : PRRun} {a_0 : Option Addr} {g_0_1 : Option Addr} {a1 : Sq} (S : St A N w w [oU a_0 g_0_1 a0] []) {k : Nat} {r : PRRun × Int × Int} (H : ref11_run_decide.f k a0 a1 = some r) :
  Calls PP F_ref11_run_decide #[.pointer a_0, .agg (Sq.C a1).toArray] w fun e w' => ∃ v, e = .returned v ∧ (v = .tuple #[.int .i64 r.2.1, .int .i64 r.2.2] ∧ St A N w w' [oU a_0 g_0_1 r.1] []) := by
 have main : ∀ (k : Nat) {A : Nat → Prop} {N : Oth} {w : World} {a0 : PRRun} {a_0 : Option Addr} {g_0_1 : Option Addr} {a1 : Sq} (S : St A N w w [oU a_0 g_0_1 a0] []) {r : PRRun × Int × Int} (H : ref11_run_decide.f k a0 a1 = some r), Calls PP F_ref11_run_decide #[.pointer a_0, .agg (Sq.C a1).toArray] w fun e w' => ∃ v, e = .returned v ∧ (v = .tuple #[.int .i64 r.2.1, .int .i64 r.2.2] ∧ St A N w w' [oU a_0 g_0_1 r.1] []) := by
  intro k
  induction k with
  | zero => intro A N w a0 a_0 g_0_1 a1 S r H; cases H
  | succ k ih => intro A N w a0 a_0 g_0_1 a1 S r H; exact ref11_run_decide_gst ih S H
 exact main k S H
theorem ref11_Run_st {A : Nat → Prop} {N : Oth} {w : World} {a0 : Tb} {a_0 : Option Addr} {a1 : Sq} {a2 : Int} (S : St A N w w [oR a_0 a0] []) {k : Nat} {r : Tb × PFound × Int} (H : ref11_Run.f k a0 a1 a2 = some r) :
  Calls PP F_ref11_Run #[.pointer a_0, .agg (Sq.C a1).toArray, .int .i64 a2] w fun e w' => ∃ v, e = .returned v ∧ (∃ so0 : SlV, v = .tuple #[.agg (Found.C (⟨r.2.1.proved, so0, r.2.1.visits⟩ : Found)).toArray, .int .i64 r.2.2] ∧ St A N w w' [oR a_0 r.1, oDStep so0 r.2.1.steps] []) := by
 unfold ref11_Run.f at H
 refine calls_of_wc (n := 63) fn_ref11_Run rfl rfl (by simp) (wc_seq (wc_region ?_))
 refine wl_box_agg rfl (by decide) fun b2 w1 hw1 => ?_
 replace S := S.new hw1
 refine wl_alloc ze_Found (by decide) fun b4 w3 hw3 => ?_
 replace S := S.new hw3
 refine wd (does_as_i rfl) (wl_nil (wc_seq (wc_seq (wc_region (wd (does_mv_p rfl) (wd (does_load_agg ag_Sq rfl ((S.blk 1).all _ (Sq.len _)) (Sq.len _)) ?_))))))
 obtain ⟨r5, er5, H⟩ := bind_ex H
 obtain ⟨B7, MB7, SB7, back⟩ := S.calln 0 ((.o 2 rfl .nil))
 refine wl_call (does_call ca_ref09_Right) (by decide) (ref09_Right_st SB7 er5) ?_
 rintro _ w6 ⟨rfl, S2⟩
 replace S := back _ _ _ _ S2 rfl
 clear back S2 SB7
 refine wd (does_not rfl) (wl_nil ?_)
 refine wc_if rfl (fun hc8 => ?_) (fun hc8 => ?_)
 ·replace H := if_t hc8 H
  refine wc_seq (wc_region (wd (Does.to (v' := .agg (Found.C (⟨false, SlV.nil, 0⟩ : Found)).toArray) (does_buildv (vs := []) bu_Found rfl Bld.nil) rfl) ?_))
  refine wl_store_agg ag_Found rfl rfl (S.blk 0) (Found.len _) (by rw [Found.len]; decide) (Found.one _) (store_all (Found.len _)) fun w9 B hw9 zw9 => ?_
  replace S := S.store 0 B hw9
  clear B
  refine wd (does_as_i rfl) (wl_nil (wc_ret ?_))
  replace S := S.nilD T_Step 21 Step.C rStep
  refine ⟨_, (rets2 (retOne_agg ag_Found rfl ((S.blk 1).all _ (Found.len _)) (Found.len _)) (retOne_tmp rfl)), ?_⟩
  replace S := S.arr [3, 0] []
  obtain rfl := Option.some.inj H
  exact ⟨SlV.nil, rfl, S⟩
 replace H := if_f hc8 H
 refine wc_skip (wc_seq (wc_seq (wc_region (wd (does_mv_i rfl) (wd (does_lt rfl rfl) (wd (does_mv_b rfl) (wg (fun hg => does_mv_i rfl) (wg (fun hg => does_gt (gv_yes hg) rfl) (wd (does_or rfl (fun hp => (gv_yes (and_1 hp)))) (wl_nil ?_))))))))))
 refine wc_if rfl (fun hc10 => ?_) (fun hc10 => ?_)
 ·replace H := if_t hc10 H
  refine wc_seq (wc_region (wd (Does.to (v' := .agg (Found.C (⟨false, SlV.nil, 0⟩ : Found)).toArray) (does_buildv (vs := []) bu_Found rfl Bld.nil) rfl) ?_))
  refine wl_store_agg ag_Found rfl rfl (S.blk 0) (Found.len _) (by rw [Found.len]; decide) (Found.one _) (store_all (Found.len _)) fun w11 B hw11 zw11 => ?_
  replace S := S.store 0 B hw11
  clear B
  refine wd (does_as_i rfl) (wl_nil (wc_ret ?_))
  replace S := S.nilD T_Step 21 Step.C rStep
  refine ⟨_, (rets2 (retOne_agg ag_Found rfl ((S.blk 1).all _ (Found.len _)) (Found.len _)) (retOne_tmp rfl)), ?_⟩
  replace S := S.arr [3, 0] []
  obtain rfl := Option.some.inj H
  exact ⟨SlV.nil, rfl, S⟩
 replace H := if_f hc10 H
 refine wc_skip (wc_seq (wc_region (wd (does_mv_p rfl) ?_)))
 obtain ⟨ht12, H⟩ := chk_ex H
 obtain ⟨p13, s14, hp15, S⟩ := S.openR 2 ht12
 replace S := S
 refine wd (does_nilCheck (congrArg Value.pointer hp15)) (wd (does_fieldAddr fl_RTab_n rfl (o' := 0) rfl) (wd (does_load on_L_api_Node rfl ((S.blk 0).cell (RTab.get_n _))) (wd (does_lenR sl_L_api_Node rfl (S.rdO 1)) (wd (does_as_i rfl) ?_))))
 replace S := ((S.front 1).front 1).shutR hp15
 refine wl_nil (wc_seq (wc_region (wd (does_mv_p rfl) (wd (does_mv_i rfl) (wd (Does.to (v' := .agg (RRun.C (⟨a_0, SlV.nil, 0, a2⟩ : RRun)).toArray) (does_buildv (vs := [(0, .pointer a_0), (3, .int .i64 a2)]) bu_RRun (consP rfl (consP rfl rfl)) (Bld.one rfl rfl (by rw [RRun.len]; decide) (RRun.set_t _ _) (Bld.one rfl rfl (by rw [RRun.len]; decide) (RRun.set_budget _ _) Bld.nil))) rfl) ?_)))))
 refine wl_box_agg rfl (by decide) fun b17 w16 hw16 => ?_
 replace S := ((S.new hw16).nilD T_Step 21 Step.C rStep).front 2
 replace S := (S.front 2).shut_oU rfl
 refine wd (does_as_p rfl) (wl_nil (wc_seq (wc_region (wd (does_mv_p rfl) (wd (does_load_agg ag_Sq rfl ((S.blk 2).all _ (Sq.len _)) (Sq.len _)) ?_)))))
 obtain ⟨r18, er18, H⟩ := bind_ex H
 obtain ⟨B20, MB20, SB20, back⟩ := S.calln 1 ((.nil))
 refine wl_call (does_call ca_ref11_run_decide) (by decide) (ref11_run_decide_st SB20 er18) ?_
 rintro _ w19 ⟨rfl, S2⟩
 replace S := back _ _ _ _ S2 rfl
 clear back S2 SB20
 refine wd (does_mv_t rfl) (wd (does_extract rfl rfl) (wd (does_extract rfl rfl) (wd (does_as_i rfl) (wd (does_as_i rfl) (wl_nil (wc_seq (wc_seq (wc_region (wd (does_mv_i rfl) (wd (does_ne rfl rfl) (wl_nil ?_)))))))))))
 refine wc_if rfl (fun hc21 => ?_) (fun hc21 => ?_)
 ·replace H := if_t hc21 H
  refine wc_seq (wc_region (wd (does_mv_p rfl) (wd (does_mv_i rfl) ?_)))
  obtain ⟨p22, s24, hp23, S⟩ := S.open_oU 0
  replace S := S
  obtain ⟨r25, er25, H⟩ := bind_ex H
  replace S := S.front 1
  obtain ⟨B27, MB27, SB27, back⟩ := S.calln 1 ((.nil))
  refine wl_call (does_call ca_ref03_T_Cut) (by decide) (ref03_T_Cut_st SB27 er25) ?_
  rintro _ w26 ⟨rfl, S2⟩
  replace S := back _ _ _ _ S2 rfl
  clear back S2 SB27
  replace S := ((S.front 2).front 1).front 2
  replace S := S.shut_oU hp23
  refine wl_nil (wc_seq (wc_region (wd (Does.to (v' := .agg (Found.C (⟨false, SlV.nil, 0⟩ : Found)).toArray) (does_buildv (vs := []) bu_Found rfl Bld.nil) rfl) (wd (does_mv_i rfl) ?_))))
  refine wl_store_agg ag_Found rfl rfl (S.blk 1) (Found.len _) (by rw [Found.len]; decide) (Found.one _) (store_all (Found.len _)) fun w28 B hw28 zw28 => ?_
  replace S := S.store 1 B hw28
  clear B
  refine wd (does_as_i rfl) (wl_nil (wc_ret ?_))
  obtain ⟨p29, s31, hp30, S⟩ := S.open_oU 1
  replace S := S.nilD T_Step 21 Step.C rStep
  refine ⟨_, (rets2 (retOne_agg ag_Found rfl ((S.blk 4).all _ (Found.len _)) (Found.len _)) (retOne_tmp rfl)), ?_⟩
  replace S := S.arr [2, 0] []
  obtain rfl := Option.some.inj H
  exact ⟨SlV.nil, rfl, S⟩
 replace H := if_f hc21 H
 refine wc_skip (wc_seq ?_)
 obtain ⟨p32, s34, hp33, S⟩ := S.open_oU 0
 replace S := S
 refine wc_quiet 16 (Ext w19) hmix (by kernel_rfl) (by kernel_rfl) (Ext.drawn _) (wq_does (fun v K => does_mv_p rfl) (wq_does (fun v K => does_nilCheck (congrArg Value.pointer hp33)) (wq_does (fun v K => does_fieldAddr fl_RRun_steps rfl (o' := 1) rfl) (wq_does (fun v K => does_load on_L_api_Step rfl (((S.ext K).blk 0).cell (RRun.get_steps _))) (wq_does (fun v K => does_mv_i rfl) ?_)))))
 obtain ⟨hi35, H⟩ := chk_ex H
 refine wq_does (fun v K => does_indexD sl_L_api_Step rfl rfl ((S.ext K).onO 2) (inb_ex hi35).1 (inb_ex hi35).2) (wq_does (fun v K => does_fieldAddr fl_Step_proved rfl (o' := _) rfl) (wq_does (fun v K => does_load on_bool rfl (oD.cell (z := PStep.z) ((S.ext K).onO 2) (inb_ex hi35) (fun _ => rStep.get_proved))) (wq_does (fun v K => does_mv_p rfl) (wq_does (fun v K => does_nilCheck (congrArg Value.pointer hp33)) (wq_does (fun v K => does_fieldAddr fl_RRun_steps rfl (o' := 1) rfl) (wq_does (fun v K => does_load on_L_api_Step rfl (((S.ext K).blk 0).cell (RRun.get_steps _))) (wq_does (fun v K => does_mv_p rfl) (wq_does (fun v K => does_nilCheck (congrArg Value.pointer hp33)) (wq_does (fun v K => does_fieldAddr fl_RRun_visits rfl (o' := 2) rfl) (wq_does (fun v K => does_load on_int rfl (((S.ext K).blk 0).cell (RRun.get_visits _))) ?_))))))))))
 refine wq_nil fun w36 K => ?_
 replace S := S.ext K
 clear K
 refine wd (Does.to (v' := .agg (Found.C (⟨(at_ PStep.z r18.1.steps r18.2.1).proved, s34, r18.1.visits⟩ : Found)).toArray) (does_buildv (vs := [(0, .bool ((at_ PStep.z r18.1.steps r18.2.1).proved)), (1, s34.v), (2, .int .i64 r18.1.visits)]) bu_Found (consP rfl (consP rfl (consP rfl rfl))) (Bld.one rfl rfl (by rw [Found.len]; decide) (Found.set_proved _ _) (Bld.one rfl (SlV.one _ _ rfl) (by rw [Found.len]; decide) (Found.set_steps _ _) (Bld.one rfl rfl (by rw [Found.len]; decide) (Found.set_visits _ _) Bld.nil)))) rfl) ?_
 refine wl_store_agg ag_Found rfl rfl (S.blk 3) (Found.len _) (by rw [Found.len]; decide) (Found.one _) (store_all (Found.len _)) fun w37 B hw37 zw37 => ?_
 replace S := S.store 3 B hw37
 clear B
 refine wd (does_as_i rfl) (wl_nil (wc_ret ?_))
 refine ⟨_, (rets2 (retOne_agg ag_Found rfl ((S.blk 0).all _ (Found.len _)) (Found.len _)) (retOne_tmp rfl)), ?_⟩
 replace S := S.arr [2, 3] []
 obtain rfl := Option.some.inj H
 exact ⟨s34, rfl, S⟩
theorem ref11_Steps_st {A : Nat → Prop} {N : Oth} {w : World} {a0 : List PStep} {s_0 : SlV} {a1 : List PStep} {s_1 : SlV} (S : St A N w w [] [oDStep s_0 a0, oDStep s_1 a1]) {r : Bool} (H : ref11_Steps.f a0 a1 = some r) :
  Calls PP F_ref11_Steps #[s_0.v, s_1.v] w fun e w' => ∃ v, e = .returned v ∧ (v = .bool r ∧ St A N w w' [] []) := by
 unfold ref11_Steps.f at H
 refine calls_of_wc (n := 61) fn_ref11_Steps rfl rfl (by simp) (wc_seq (wc_region (wd (does_as_b rfl) (wl_nil (wc_seq (wc_seq (wc_region (wd (does_mv_l rfl) (wd (does_lenD sl_L_api_Step rfl (S.onZ 0)) (wd (does_mv_l rfl) (wd (does_lenD sl_L_api_Step rfl (S.onZ 1)) (wd (does_ne rfl rfl) (wl_nil ?_)))))))))))))
 refine wc_if rfl (fun hc1 => ?_) (fun hc1 => ?_)
 ·replace H := if_t hc1 H
  refine wc_seq (wc_region (wd (does_as_b rfl) (wl_nil (wc_ret ?_))))
  refine ⟨_, (rets1 (retOne_tmp rfl)), ?_⟩
  replace S := S.arr [] []
  obtain rfl := Option.some.inj H
  exact ⟨rfl, S⟩
 replace H := if_f hc1 H
 refine wc_skip (wc_seq (wc_seq (wc_region (wd (does_as_i rfl) (wl_nil ?_)))))
 obtain ⟨o2, e2, Ho2⟩ := bind_ex H
 clear H
 refine wc_cutq [4, 5, 6, 7, 13, 14, 15, 16, 17, 18, 19, 20, 21, 22, 23, 24, 25, 26, 27, 28, 29, 30, 31, 32, 33, 34, 35, 36, 37, 38, 39, 40, 41, 42, 43, 44, 45, 46, 47, 48, 49, 50, 51, 52, 53, 54, 55, 56, 57, 58, 59, 60] (fun fr W => ∃ s2 : Unit, o2 = .inl s2 ∧ St A N w W [] [oDStep s_0 a0, oDStep s_1 a1]) ?_ ?_
 ·refine wc_block ?_
  refine wc_loopm (α := Nat × Int × Unit) [4, 5, 6, 7, 13, 14, 15, 16, 17, 18, 19, 20, 21, 22, 23, 24, 25, 26, 27, 28, 29, 30, 31, 32, 33, 34, 35, 36, 37, 38, 39, 40, 41, 42, 43, 44, 45, 46, 47, 48, 49, 50, 51, 52, 53, 54, 55, 56, 57, 58, 59, 60] (fun x fr W => (x.1 : Int) = (a0.length : Int) - x.2.1 ∧ 0 ≤ x.2.1 ∧ forN (fun i s => ref11_Steps.b0 a1 a0 i) x.1 x.2.1 x.2.2 = some o2 ∧ fr 5 = .int .i64 x.2.1 ∧ St A N w W [] [oDStep s_0 a0, oDStep s_1 a1]) (fun x => x.1) (((a0.length : Int) - 0).toNat, 0, ()) ⟨(by dsimp only; have hle := Int.natCast_nonneg (a0.length); omega), (Int.le_refl _), (by dsimp only; exact e2), rfl, S⟩ ?_
  rintro ⟨m2, i2, _⟩ g2 u2 ⟨hm2, hl2, e2, q2_i, S⟩
  try dsimp only at hm2
  try dsimp only at hl2
  try dsimp only at e2
  try dsimp only at S
  try dsimp only at q2_i
  refine wc_seq (wc_seq (wc_region (wd (does_mv_i q2_i) (wd (does_mv_l rfl) (wd (does_lenD sl_L_api_Step rfl (S.onZ 0)) (wd (does_lt rfl rfl) (wl_nil ?_)))))))
  refine wc_if rfl (fun hc3 => ?_) (fun hc3 => ?_)
  rotate_left
  ·refine wc_exit ?_
   have hge : (a0.length : Int) ≤ i2 := Int.not_lt.1 (of_decide_eq_false hc3)
   obtain rfl : m2 = 0 := by omega
   replace e2 := forN_0 e2
   exact ⟨rfl, (((((Dif.self _ _ _).upd rfl _).upd rfl _).upd rfl _).upd rfl _), (), e2, S⟩
  refine wc_skip ?_
  have hlt2 : i2 < (a0.length : Int) := of_decide_eq_true hc3
  obtain ⟨m2, rfl⟩ : ∃ m, m2 = m + 1 := ⟨m2 - 1, by omega⟩
  obtain ⟨q2, H, e2⟩ := forN_s e2
  unfold ref11_Steps.b0 at H
  try dsimp only at H
  have hb2 := (S.lenDZ 0)
  refine wc_seq ?_
  refine wc_block (wc_seq (wc_region (wd (does_mv_l rfl) (wd (does_mv_i q2_i) (wd (does_indexD sl_L_api_Step rfl rfl (S.onZ 0) (And.intro (show 0 ≤ i2 by omega) (show i2 < (a0.length : Int) from hlt2)).1 (And.intro (show 0 ≤ i2 by omega) (show i2 < (a0.length : Int) from hlt2)).2) ?_)))))
  obtain ⟨s5, hc6, S⟩ := S.viewStep 0 (And.intro (show 0 ≤ i2 by omega) (show i2 < (a0.length : Int) from hlt2))
  replace S := S
  refine wd (does_load_agg ag_Step rfl hc6 (Step.len _)) ?_
  refine wl_alloc ze_Step (by decide) fun b8 w7 hw7 => ?_
  replace S := S.new hw7
  refine wl_store_agg ag_Step rfl rfl (S.blk 0) (Step.len _) (by rw [Step.len]; decide) (Step.one _) (store_all (Step.len _)) fun w9 B hw9 zw9 => ?_
  replace S := S.store 0 B hw9
  clear B
  refine wl_nil (wc_seq (wc_region (wd (does_mv_l rfl) (wd (does_mv_i q2_i) ?_))))
  obtain ⟨hi10, H⟩ := chk_ex H
  refine wd (does_indexD sl_L_api_Step rfl rfl (S.onZ 2) (inb_ex hi10).1 (inb_ex hi10).2) ?_
  obtain ⟨s11, hc12, S⟩ := S.viewStep 2 (inb_ex hi10)
  replace S := S
  refine wd (does_load_agg ag_Step rfl hc12 (Step.len _)) ?_
  refine wl_alloc ze_Step (by decide) fun b14 w13 hw13 => ?_
  replace S := S.new hw13
  refine wl_store_agg ag_Step rfl rfl (S.blk 0) (Step.len _) (by rw [Step.len]; decide) (Step.one _) (store_all (Step.len _)) fun w15 B hw15 zw15 => ?_
  replace S := S.store 0 B hw15
  clear B
  refine wl_nil (wc_seq (wc_region (wd (does_fieldAddr fl_Step_seq rfl (o' := 0) rfl) (wd (does_load_agg ag_Sq rfl ((S.blk 1).cells (Step.sub_seq _)) (Sq.len _)) (wd (does_fieldAddr fl_Step_seq rfl (o' := 0) rfl) (wd (does_load_agg ag_Sq rfl ((S.blk 0).cells (Step.sub_seq _)) (Sq.len _)) (wd (does_nev eg_Sq (eq_Sq _ _) (by decide) rfl rfl) (wd (does_mv_b rfl) (wg (fun hg => does_fieldAddr fl_Step_proved rfl (o' := 17) rfl) (wg (fun hg => does_load on_bool (gv_yes hg) ((S.blk 1).cell (Step.get_proved _))) (wg (fun hg => does_fieldAddr fl_Step_proved rfl (o' := 17) rfl) (wg (fun hg => does_load on_bool (gv_yes hg) ((S.blk 0).cell (Step.get_proved _))) (wg (fun hg => does_neb un_bool (gv_yes hg) (gv_yes hg)) (wd (does_or rfl (fun hp => (gv_yes (and_1 hp)))) (wd (does_mv_b rfl) (wg (fun hg => does_fieldAddr fl_Step_rule rfl (o' := 18) rfl) (wg (fun hg => does_load on_api_Rule (gv_yes hg) ((S.blk 1).cell (Step.get_rule _))) (wg (fun hg => does_fieldAddr fl_Step_rule rfl (o' := 18) rfl) (wg (fun hg => does_load on_api_Rule (gv_yes hg) ((S.blk 0).cell (Step.get_rule _))) (wg (fun hg => does_ne (gv_yes hg) (gv_yes hg)) (wd (does_or rfl (fun hp => (gv_yes (and_1 hp)))) (wd (does_mv_b rfl) (wg (fun hg => does_fieldAddr fl_Step_main rfl (o' := 19) rfl) (wg (fun hg => does_load on_int (gv_yes hg) ((S.blk 1).cell (Step.get_main _))) (wg (fun hg => does_fieldAddr fl_Step_main rfl (o' := 19) rfl) (wg (fun hg => does_load on_int (gv_yes hg) ((S.blk 0).cell (Step.get_main _))) (wg (fun hg => does_ne (gv_yes hg) (gv_yes hg)) (wd (does_or rfl (fun hp => (gv_yes (and_1 hp)))) (wd (does_mv_b rfl) (wg (fun hg => does_fieldAddr fl_Step_kids rfl (o' := 20) rfl) (wg (fun hg => does_load on_L_int (gv_yes hg) ((S.blk 1).cell (Step.get_kids _))) (wg (fun hg => does_fieldAddr fl_Step_kids rfl (o' := 20) rfl) (wg (fun hg => does_load on_L_int (gv_yes hg) ((S.blk 0).cell (Step.get_kids _))) ?_)))))))))))))))))))))))))))))))))
  obtain ⟨r16, er16, H⟩ := bind_ex H
  refine wl_gcall (j := 26) (pol := false) rfl rfl rfl (by decide) (fun hg => does_callg ca_ref03_Ints (cons2 (gv_yes hg) (cons2 (gv_yes hg) rfl))) (by decide) (fun hg => (have ⟨M, SS⟩ := S.lend ((.z 1 rfl (.z 0 rfl .nil))); quiet (ref03_Ints_st SS (if_t (by simpa using hg) er16)) (fun v w' h => ⟨h.1, _, _, h.2⟩))) fun w17 hw17 => ?_
  replace S := S.ext hw17
  refine wg (fun hg => does_not (gv_yes hg)) (wd (does_or rfl (fun hp => (gv_yes (and_1 hp)))) (wl_nil ?_))
  refine wc_if rfl (fun hc18 => ?_) (fun hc18 => ?_)
  ·replace H := if_t hc18 H
   refine wc_seq (wc_region (wd (does_as_b rfl) (wl_nil (wc_ret ?_))))
   refine ⟨_, (rets1 (retOne_tmp rfl)), ?_⟩
   replace S := S.arr [] []
   obtain rfl := Option.some.inj H
   obtain rfl := e2
   obtain rfl := aft_r Ho2
   exact ⟨rfl, S⟩
  replace H := if_f hc18 H
  refine wc_skip (wc_region (wd (does_mv_i q2_i) (wd (does_addc rfl rfl (c := i2 + 1) rfl (by omega) (by omega)) (wd (does_as_i rfl) (wl_nil ?_)))))
  replace S := S.arr [] [2, 3]
  obtain rfl := Option.some.inj H
  exact ⟨rfl, ((((((((((((((((((((((((((((((((((((((((((((((((((((Dif.self _ _ _).upd rfl _).upd rfl _).upd rfl _).upd rfl _).upd rfl _).upd rfl _).upd rfl _).upd rfl _).upd rfl _).upd rfl _).upd rfl _).upd rfl _).upd rfl _).upd rfl _).upd rfl _).upd rfl _).upd rfl _).upd rfl _).upd rfl _).upd rfl _).upd rfl _).upd rfl _).upd rfl _).upd rfl _).upd rfl _).upd rfl _).upd rfl _).upd rfl _).upd rfl _).upd rfl _).upd rfl _).upd rfl _).upd rfl _).upd rfl _).upd rfl _).upd rfl _).upd rfl _).upd rfl _).upd rfl _).upd rfl _).upd rfl _).upd rfl _).upd rfl _).upd rfl _).upd rfl _).upd rfl _).upd rfl _).upd rfl _).upd rfl _).upd rfl _).upd rfl _), (m2, i2 + 1, ()), ⟨(by dsimp only; omega), (by dsimp only; omega), e2, rfl, S⟩, by dsimp only; omega⟩
 rintro g19 u20 ⟨s2, rfl, S⟩
 have H := Ho2
 dsimp only [aft] at H
 refine wc_seq (wc_region (wd (does_as_b rfl) (wl_nil (wc_ret ?_))))
 refine ⟨_, (rets1 (retOne_tmp rfl)), ?_⟩
 replace S := S.arr [] []
 obtain rfl := Option.some.inj H
 exact ⟨rfl, S⟩
theorem ref11_Same_st {A : Nat → Prop} {N : Oth} {w : World} {a0 : PFound} {s_0 : SlV} {a1 : PFound} {s_1 : SlV} (S : St A N w w [] [oDStep s_0 a0.steps, oDStep s_1 a1.steps]) {r : Bool} (H : ref11_Same.f a0 a1 = some r) :
  Calls PP F_ref11_Same #[.agg (Found.C (⟨a0.proved, s_0, a0.visits⟩ : Found)).toArray, .agg (Found.C (⟨a1.proved, s_1, a1.visits⟩ : Found)).toArray] w fun e w' => ∃ v, e = .returned v ∧ (v = .bool r ∧ St A N w w' [] []) := by
 unfold ref11_Same.f at H
 refine calls_of_wc (n := 24) fn_ref11_Same rfl rfl (by simp) (wc_seq (wc_region ?_))
 refine wl_box_agg rfl (by decide) fun b2 w1 hw1 => ?_
 replace S := S.new hw1
 refine wl_box_agg rfl (by decide) fun b4 w3 hw3 => ?_
 replace S := S.new hw3
 refine wd (does_as_b rfl) (wl_nil (wc_seq (wc_region (wd (does_fieldAddr fl_Found_proved rfl (o' := 0) rfl) (wd (does_load on_bool rfl ((S.blk 1).cell (Found.get_proved _))) (wd (does_fieldAddr fl_Found_proved rfl (o' := 0) rfl) (wd (does_load on_bool rfl ((S.blk 0).cell (Found.get_proved _))) (wd (does_eqb un_bool rfl rfl) (wd (does_mv_b rfl) (wg (fun hg => does_fieldAddr fl_Found_visits rfl (o' := 2) rfl) (wg (fun hg => does_load on_int (gv_yes hg) ((S.blk 1).cell (Found.get_visits _))) (wg (fun hg => does_fieldAddr fl_Found_visits rfl (o' := 2) rfl) (wg (fun hg => does_load on_int (gv_yes hg) ((S.blk 0).cell (Found.get_visits _))) (wg (fun hg => does_eq (gv_yes hg) (gv_yes hg)) (wd (does_and rfl (fun hp => (gv_yes (and_1 hp)))) (wd (does_mv_b rfl) (wg (fun hg => does_fieldAddr fl_Found_steps rfl (o' := 1) rfl) (wg (fun hg => does_load on_L_api_Step (gv_yes hg) ((S.blk 1).cell (Found.get_steps _))) (wg (fun hg => does_fieldAddr fl_Found_steps rfl (o' := 1) rfl) (wg (fun hg => does_load on_L_api_Step (gv_yes hg) ((S.blk 0).cell (Found.get_steps _))) ?_))))))))))))))))))))
 obtain ⟨r5, er5, H⟩ := bind_ex H
 refine wl_gcall (j := 12) (pol := true) rfl rfl rfl (by decide) (fun hg => does_callg ca_ref11_Steps (cons2 (gv_yes hg) (cons2 (gv_yes hg) rfl))) (by decide) (fun hg => (have ⟨M, SS⟩ := S.lend ((.z 0 rfl (.z 1 rfl .nil))); quiet (ref11_Steps_st SS (if_t (by simpa using hg) er5)) (fun v w' h => ⟨h.1, _, _, h.2⟩))) fun w6 hw6 => ?_
 replace S := S.ext hw6
 refine wd (does_and rfl (fun hp => (gv_yes (and_1 hp)))) (wd (does_as_b rfl) (wl_nil (wc_ret ?_)))
 refine ⟨_, (rets1 (retOne_tmp rfl)), ?_⟩
 replace S := S.arr [] []
 obtain rfl := Option.some.inj H
 exact ⟨rfl, S⟩
end Go.Proofs.YtjjkhjieegmphaaDoor
end
section
namespace Go.Proofs.YtjjkhjieegmphaaDoor
open Gw Go.RowKit
set_option maxHeartbeats 4000000
theorem law11_SearchRuns_st {A : Nat → Prop} {N : Oth} {w : World} {a0 : List Nd} {s_0 : SlV} {a1 : Sq} {a2 : Int} (S : St A N w w [] [fS 4 Nd.C s_0 a0, oTz]) {k : Nat} {r : Bool} (H : law11_SearchRuns.f k a0 a1 a2 = some r) :
  Calls PP F_law11_SearchRuns #[s_0.v, .agg (Sq.C a1).toArray, .int .i64 a2] w fun e w' => ∃ v, e = .returned v ∧ (v = .bool r ∧ St A N w w' [] []) := by
 unfold law11_SearchRuns.f at H
 refine calls_of_wc (n := 119) fn_law11_SearchRuns rfl rfl (by simp) (wc_seq (wc_region ?_))
 refine wl_box_agg rfl (by decide) fun b2 w1 hw1 => ?_
 replace S := S.new hw1
 refine wd (does_as_b rfl) (wl_nil (wc_seq (wc_region (wd (does_mv_l rfl) ?_))))
 obtain ⟨r3, er3, H⟩ := bind_ex H
 obtain ⟨B5, MB5, SB5, back⟩ := S.calln 0 ((.z 0 rfl .nil))
 refine wl_call (does_call ca_law03_Both) (by decide) (law03_Both_st SB5 er3) ?_
 rintro _ w4 ⟨a6, a7, rfl, S2⟩
 replace S := back _ _ _ _ S2 rfl
 clear back S2 SB5
 refine wd (does_mv_t rfl) (wd (does_extract rfl rfl) (wd (does_extract rfl rfl) (wd (does_extract rfl rfl) (wd (does_as_p rfl) (wd (does_as_p rfl) (wd (does_as_b rfl) (wl_nil (wc_seq (wc_seq (wc_region (wd (does_mv_b rfl) (wd (does_not rfl) (wl_nil ?_)))))))))))))
 refine wc_if rfl (fun hc8 => ?_) (fun hc8 => ?_)
 ·replace H := if_t hc8 H
  refine wc_seq (wc_region ?_)
  obtain ⟨r9, er9, H⟩ := bind_ex H
  obtain ⟨B11, MB11, SB11, back⟩ := S.calln 0 ((.z 1 rfl .nil))
  refine wl_call (does_call ca_law11_heads) (by decide) (law11_heads_st SB11 er9) ?_
  rintro _ w10 ⟨rfl, S2⟩
  replace S := back _ _ _ _ S2 rfl
  clear back S2 SB11
  refine wd (does_as_b rfl) (wl_nil (wc_ret ?_))
  refine ⟨_, (rets1 (retOne_tmp rfl)), ?_⟩
  replace S := S.arr [] []
  obtain rfl := Option.some.inj H
  exact ⟨rfl, S⟩
 replace H := if_f hc8 H
 refine wc_skip (wc_seq (wc_region (wd (does_mv_p rfl) (wd (does_load_agg ag_Sq rfl ((S.blk 2).all _ (Sq.len _)) (Sq.len _)) (wd (does_mv_i rfl) ?_)))))
 obtain ⟨r12, er12, H⟩ := bind_ex H
 obtain ⟨B14, MB14, SB14, back⟩ := S.calln 1 ((.z 1 rfl .nil))
 refine wl_call (does_call ca_search_Run) (by decide) (search_Run_st SB14 er12) ?_
 rintro _ w13 ⟨s15, rfl, S2⟩
 replace S := back _ _ _ _ S2 rfl
 clear back S2 SB14
 refine wd (does_mv_t rfl) (wd (does_extract rfl rfl) (wd (does_extract rfl rfl) ?_))
 refine wl_alloc ze_Found (by decide) fun b17 w16 hw16 => ?_
 replace S := S.new hw16
 refine wl_store_agg ag_Found rfl rfl (S.blk 0) (Found.len _) (by rw [Found.len]; decide) (Found.one _) (store_all (Found.len _)) fun w18 B hw18 zw18 => ?_
 replace S := S.store 0 B hw18
 clear B
 refine wd (does_as_i rfl) (wl_nil (wc_seq (wc_region (wd (does_mv_p rfl) (wd (does_load_agg ag_Sq rfl ((S.blk 4).all _ (Sq.len _)) (Sq.len _)) (wd (does_mv_i rfl) ?_))))))
 obtain ⟨r19, er19, H⟩ := bind_ex H
 replace S := S.front 3
 obtain ⟨B21, MB21, SB21, back⟩ := S.calln 1 ((.nil))
 refine wl_call (does_call ca_ref11_Run) (by decide) (ref11_Run_st SB21 er19) ?_
 rintro _ w20 ⟨s22, rfl, S2⟩
 replace S := back _ _ _ _ S2 rfl
 clear back S2 SB21
 refine wd (does_mv_t rfl) (wd (does_extract rfl rfl) (wd (does_extract rfl rfl) ?_))
 refine wl_alloc ze_Found (by decide) fun b24 w23 hw23 => ?_
 replace S := S.new hw23
 refine wl_store_agg ag_Found rfl rfl (S.blk 0) (Found.len _) (by rw [Found.len]; decide) (Found.one _) (store_all (Found.len _)) fun w25 B hw25 zw25 => ?_
 replace S := S.store 0 B hw25
 clear B
 refine wd (does_as_i rfl) (wl_nil (wc_seq (wc_seq (wc_region (wd (does_load_agg ag_Found rfl ((S.blk 3).all _ (Found.len _)) (Found.len _)) (wd (does_load_agg ag_Found rfl ((S.blk 0).all _ (Found.len _)) (Found.len _)) ?_))))))
 obtain ⟨r26, er26, H⟩ := bind_ex H
 obtain ⟨B28, MB28, SB28, back⟩ := S.calln 0 ((.o 5 rfl (.o 2 rfl .nil)))
 refine wl_call (does_call ca_ref11_Same) (by decide) (ref11_Same_st (a0 := r12.2.1) (a1 := r19.2.1) SB28 er26) ?_
 rintro _ w27 ⟨rfl, S2⟩
 replace S := back _ _ _ _ S2 rfl
 clear back S2 SB28
 refine wd (does_not rfl) (wd (does_mv_b rfl) (wg (fun hg => does_mv_i rfl) (wg (fun hg => does_mv_i rfl) (wg (fun hg => does_ne (gv_yes hg) (gv_yes hg)) (wd (does_or rfl (fun hp => (gv_yes (and_1 hp)))) (wd (does_mv_b rfl) (wg (fun hg => does_mv_p rfl) (wg (fun hg => does_mv_p rfl) ?_))))))))
 obtain ⟨r29, er29, H⟩ := bind_ex H
 refine wl_gcall (j := 9) (pol := false) rfl rfl rfl (by decide) (fun hg => does_callg ca_law03_Like (cons2 (gv_yes hg) (cons2 (gv_yes hg) rfl))) (by decide) (fun hg => (have ⟨M, SS⟩ := S.lend ((.o 4 rfl (.o 1 rfl .nil))); quiet (law03_Like_st SS (if_t (by simpa using hg) er29)) (fun v w' h => ⟨h.1, _, _, h.2⟩))) fun w30 hw30 => ?_
 replace S := S.ext hw30
 refine wg (fun hg => does_not (gv_yes hg)) (wd (does_or rfl (fun hp => (gv_yes (and_1 hp)))) (wl_nil ?_))
 refine wc_if rfl (fun hc31 => ?_) (fun hc31 => ?_)
 ·replace H := if_t hc31 H
  refine wc_seq (wc_region (wd (does_as_b rfl) (wl_nil (wc_ret ?_))))
  refine ⟨_, (rets1 (retOne_tmp rfl)), ?_⟩
  replace S := S.arr [] []
  obtain rfl := Option.some.inj H
  exact ⟨rfl, S⟩
 replace H := if_f hc31 H
 refine wc_skip (wc_seq (wc_seq (wc_region (wd (does_as_i rfl) (wl_nil ?_)))))
 obtain ⟨o32, e32, Ho32⟩ := bind_ex H
 clear H
 refine wc_cutq [14, 15, 58, 59, 60, 61, 62, 63, 64, 65, 66, 67, 68, 69, 70, 71, 72, 73, 74, 75, 76, 77, 78, 79, 80, 81, 82, 83, 84, 85, 86, 87, 88] (fun fr W => ∃ s32 : Int × List PStep, o32 = .inl s32 ∧ fr 14 = .int .i64 s32.1 ∧ St A N w W [oB b24 T_Found (Found.C (⟨r19.2.1.proved, s22, r19.2.1.visits⟩ : Found)), oR a7 r19.1, oDStep s22 r19.2.1.steps, oB b17 T_Found (Found.C (⟨r12.2.1.proved, s15, r12.2.1.visits⟩ : Found)), oT a6 r12.1, oDStep s15 s32.2, oB b2 T_Sq (Sq.C a1)] [fS 4 Nd.C s_0 a0, oTz]) ?_ ?_
 ·refine wc_block ?_
  refine wc_loopm (α := Nat × (Int × List PStep)) [14, 15, 58, 59, 60, 61, 62, 63, 64, 65, 66, 67, 68, 69, 70, 71, 72, 73, 74, 75, 76, 77, 78, 79, 80, 81, 82, 83, 84, 85, 86, 87, 88] (fun x fr W => iter (fun s => law11_SearchRuns.b0 k s.1 s.2) x.1 x.2 = some o32 ∧ fr 14 = .int .i64 (x.2.1) ∧ St A N w W [oB b24 T_Found (Found.C (⟨r19.2.1.proved, s22, r19.2.1.visits⟩ : Found)), oR a7 r19.1, oDStep s22 r19.2.1.steps, oB b17 T_Found (Found.C (⟨r12.2.1.proved, s15, r12.2.1.visits⟩ : Found)), oT a6 r12.1, oDStep s15 (x.2.2), oB b2 T_Sq (Sq.C a1)] [fS 4 Nd.C s_0 a0, oTz]) (fun x => x.1) (k, (0, r12.2.1.steps)) ⟨(by dsimp only; exact e32), rfl, S⟩ ?_
  rintro ⟨m32, ⟨x32_0, x32_1⟩⟩ g32 u32 ⟨e32, q32_14, S⟩
  try dsimp only at e32
  try dsimp only at S
  try dsimp only at q32_14
  obtain ⟨m32, rfl⟩ : ∃ m, m32 = m + 1 := ⟨m32 - 1, by cases m32 with | zero => cases e32 | succ m => rfl⟩
  obtain ⟨q32, H, e32⟩ := iter_s e32
  unfold law11_SearchRuns.b0 at H
  try dsimp only at H
  refine wc_seq (wc_seq (wc_region (wd (does_mv_i q32_14) (wd (does_fieldAddr fl_Found_steps rfl (o' := 1) rfl) (wd (does_load on_L_api_Step rfl ((S.blk 3).cell (Found.get_steps _))) (wd (does_lenD sl_L_api_Step rfl (S.onO 5)) (wd (does_lt rfl rfl) (wl_nil ?_))))))))
  refine wc_if rfl (fun hc33 => ?_) (fun hc33 => ?_)
  rotate_left
  ·replace H := if_f hc33 H
   refine wc_exit ?_
   obtain rfl := Option.some.inj H
   exact ⟨rfl, ((((((Dif.self _ _ _).upd rfl _).upd rfl _).upd rfl _).upd rfl _).upd rfl _), (x32_0, x32_1), e32, q32_14, S⟩
  replace H := if_t hc33 H
  refine wc_skip (wc_seq ?_)
  refine wc_block (wc_seq (wc_seq (wc_region (wd (does_as_i rfl) (wl_nil ?_)))))
  obtain ⟨o34, e34, Ho34⟩ := bind_ex H
  clear H
  refine wc_cutq [15, 65, 66, 67, 68, 69, 70, 71, 72, 73, 74, 75, 76, 77, 78, 79, 80, 81, 82, 83] (fun fr W => ∃ s34 : Int × List PStep, o34 = .inl s34 ∧ fr 15 = .int .i64 s34.1 ∧ St A N w W [oB b24 T_Found (Found.C (⟨r19.2.1.proved, s22, r19.2.1.visits⟩ : Found)), oR a7 r19.1, oDStep s22 r19.2.1.steps, oB b17 T_Found (Found.C (⟨r12.2.1.proved, s15, r12.2.1.visits⟩ : Found)), oT a6 r12.1, oDStep s15 s34.2, oB b2 T_Sq (Sq.C a1)] [fS 4 Nd.C s_0 a0, oTz]) ?_ ?_
  ·refine wc_block ?_
   refine wc_loopm (α := Nat × (Int × List PStep)) [15, 65, 66, 67, 68, 69, 70, 71, 72, 73, 74, 75, 76, 77, 78, 79, 80, 81, 82, 83] (fun x fr W => iter (fun s => law11_SearchRuns.b1 x32_0 s.1 s.2) x.1 x.2 = some o34 ∧ fr 15 = .int .i64 (x.2.1) ∧ St A N w W [oB b24 T_Found (Found.C (⟨r19.2.1.proved, s22, r19.2.1.visits⟩ : Found)), oR a7 r19.1, oDStep s22 r19.2.1.steps, oB b17 T_Found (Found.C (⟨r12.2.1.proved, s15, r12.2.1.visits⟩ : Found)), oT a6 r12.1, oDStep s15 (x.2.2), oB b2 T_Sq (Sq.C a1)] [fS 4 Nd.C s_0 a0, oTz]) (fun x => x.1) (k, (0, x32_1)) ⟨(by dsimp only; exact e34), rfl, S⟩ ?_
   rintro ⟨m34, ⟨x34_0, x34_1⟩⟩ g34 u34 ⟨e34, q34_15, S⟩
   try dsimp only at e34
   try dsimp only at S
   try dsimp only at q34_15
   obtain ⟨m34, rfl⟩ : ∃ m, m34 = m + 1 := ⟨m34 - 1, by cases m34 with | zero => cases e34 | succ m => rfl⟩
   obtain ⟨q34, H, e34⟩ := iter_s e34
   unfold law11_SearchRuns.b1 at H
   try dsimp only at H
   refine wc_seq (wc_seq (wc_region (wd (does_mv_i q34_15) (wd (does_fieldAddr fl_Found_steps rfl (o' := 1) rfl) (wd (does_load on_L_api_Step rfl ((S.blk 3).cell (Found.get_steps _))) (wd (does_mv_i q32_14) ?_))))))
   obtain ⟨hi35, H⟩ := chk_ex H
   refine wd (does_indexD sl_L_api_Step rfl rfl (S.onO 5) (inb_ex hi35).1 (inb_ex hi35).2) (wd (does_fieldAddr fl_Step_kids rfl (o' := _) rfl) ?_)
   obtain ⟨s36, hc37, S⟩ := S.holeStep 5 (inb_ex hi35)
   replace S := S
   refine wd (does_load on_L_int rfl (hc37.get (Step.get_kids _))) (wd (does_lenR sl_L_int rfl (S.rdO 0)) (wd (does_lt rfl rfl) ?_))
   replace S := ((S.front 1).front 1).shutHole0 (inb_ex hi35)
   refine wl_nil ?_
   refine wc_if rfl (fun hc38 => ?_) (fun hc38 => ?_)
   rotate_left
   ·replace H := if_f hc38 H
    refine wc_exit ?_
    replace S := S.arr [1, 2, 3, 4, 5, 0, 6] [0, 1]
    obtain rfl := Option.some.inj H
    exact ⟨rfl, ((((((((((Dif.self _ _ _).upd rfl _).upd rfl _).upd rfl _).upd rfl _).upd rfl _).upd rfl _).upd rfl _).upd rfl _).upd rfl _), (x34_0, x34_1), e34, q34_15, S⟩
   replace H := if_t hc38 H
   refine wc_skip (wc_seq ?_)
   refine wc_block (wc_region (wd (does_fieldAddr fl_Found_steps rfl (o' := 1) rfl) (wd (does_load on_L_api_Step rfl ((S.blk 4).cell (Found.get_steps _))) (wd (does_mv_i q32_14) ?_))))
   obtain ⟨hi39, H⟩ := chk_ex H
   refine wd (does_indexD sl_L_api_Step rfl rfl (S.onO 0) (inb_ex hi39).1 (inb_ex hi39).2) (wd (does_fieldAddr fl_Step_kids rfl (o' := _) rfl) ?_)
   obtain ⟨s40, hc41, S⟩ := S.holeStep 0 (inb_ex hi39)
   replace S := S
   refine wd (does_load on_L_int rfl (hc41.get (Step.get_kids _))) (wd (does_mv_i q34_15) ?_)
   obtain ⟨hi42, H⟩ := chk_ex H
   refine wd (does_indexR sl_L_int rfl rfl (S.rdO 0) (inb_ex hi42).1 (inb_ex hi42).2) ?_
   refine wl_store1 (C := IC) (a := (-7)) on_int rfl rfl (S.sl 0) (inb_ex hi42) rfl rfl fun w43 O hw43 => ?_
   have hlw43 := S.lenO 0
   replace S := S.push 0 O (by rw [List.length_set]; exact hlw43) hw43 (fun i hi => .inl hi)
   clear O
   replace S := ((S.front 1).front 1).shutHole (inb_ex hi39)
   refine wl_nil (wc_region (wd (does_mv_i q34_15) (wd (does_add rfl rfl) (wd (does_as_i rfl) (wl_nil ?_)))))
   replace S := S.arr [1, 2, 3, 4, 5, 0, 6] [0, 1]
   obtain rfl := Option.some.inj H
   exact ⟨rfl, (((((((((((((((((((((Dif.self _ _ _).upd rfl _).upd rfl _).upd rfl _).upd rfl _).upd rfl _).upd rfl _).upd rfl _).upd rfl _).upd rfl _).upd rfl _).upd rfl _).upd rfl _).upd rfl _).upd rfl _).upd rfl _).upd rfl _).upd rfl _).upd rfl _).upd rfl _).upd rfl _), (m34, (IntKind.i64.wrap (x34_0 + 1), setKids x34_1 x32_0 (((at_ PStep.z x34_1 x32_0).kids).set (x34_0).toNat (-7)))), ⟨e34, rfl, S⟩, by dsimp only; omega⟩
  rintro g44 u45 ⟨s34, rfl, p34_15, S⟩
  have H := Ho34
  dsimp only [aft] at H
  refine wc_region (wd (does_fieldAddr fl_Found_steps rfl (o' := 1) rfl) (wd (does_load on_L_api_Step rfl ((S.blk 3).cell (Found.get_steps _))) (wd (does_mv_i q32_14) ?_)))
  obtain ⟨hi46, H⟩ := chk_ex H
  refine wd (does_indexD sl_L_api_Step rfl rfl (S.onO 5) (inb_ex hi46).1 (inb_ex hi46).2) (wd (does_fieldAddr fl_Step_main rfl (o' := _) rfl) ?_)
  refine wl_setMain S 5 (inb_ex hi46) on_int rfl rfl fun w47 hw47 => ?_
  replace S : St A N w w47 [oDStep s15 (setMain s34.2 x32_0 (-7)), oB b24 T_Found (Found.C (⟨r19.2.1.proved, s22, r19.2.1.visits⟩ : Found)), oR a7 r19.1, oDStep s22 r19.2.1.steps, oB b17 T_Found (Found.C (⟨r12.2.1.proved, s15, r12.2.1.visits⟩ : Found)), oT a6 r12.1, oB b2 T_Sq (Sq.C a1)] [fS 4 Nd.C s_0 a0, oTz] := hw47
  refine wl_nil (wc_region (wd (does_mv_i q32_14) (wd (does_add rfl rfl) (wd (does_as_i rfl) (wl_nil ?_)))))
  replace S := S.arr [1, 2, 3, 4, 5, 0, 6] [0, 1]
  obtain rfl := Option.some.inj H
  exact ⟨rfl, ((((((((((((((((Dif.self _ _ _).upd rfl _).upd rfl _).upd rfl _).upd rfl _).upd rfl _).upd rfl _).mask rfl _).upd rfl _).upd rfl _).upd rfl _).upd rfl _).upd rfl _).upd rfl _).upd rfl _).upd rfl _), (m32, (IntKind.i64.wrap (x32_0 + 1), setMain s34.2 x32_0 (-7))), ⟨e32, rfl, S⟩, by dsimp only; omega⟩
 rintro g48 u49 ⟨s32, rfl, p32_14, S⟩
 have H := Ho32
 dsimp only [aft] at H
 refine wc_seq (wc_region (wd (does_mv_p rfl) (wd (does_load_agg ag_Sq rfl ((S.blk 6).all _ (Sq.len _)) (Sq.len _)) (wd (does_mv_i rfl) ?_))))
 obtain ⟨r50, er50, H⟩ := bind_ex H
 replace S := S.front 4
 obtain ⟨B52, MB52, SB52, back⟩ := S.calln 1 ((.z 1 rfl .nil))
 refine wl_call (does_call ca_search_Run) (by decide) (search_Run_st SB52 er50) ?_
 rintro _ w51 ⟨s53, rfl, S2⟩
 replace S := back _ _ _ _ S2 rfl
 clear back S2 SB52
 refine wd (does_mv_t rfl) (wd (does_extract rfl rfl) (wd (does_extract rfl rfl) ?_))
 refine wl_alloc ze_Found (by decide) fun b55 w54 hw54 => ?_
 replace S := S.new hw54
 refine wl_store_agg ag_Found rfl rfl (S.blk 0) (Found.len _) (by rw [Found.len]; decide) (Found.one _) (store_all (Found.len _)) fun w56 B hw56 zw56 => ?_
 replace S := S.store 0 B hw56
 clear B
 refine wd (does_as_i rfl) (wl_nil (wc_seq (wc_region (wd (does_mv_p rfl) (wd (does_load_agg ag_Sq rfl ((S.blk 8).all _ (Sq.len _)) (Sq.len _)) (wd (does_mv_i rfl) ?_))))))
 obtain ⟨r57, er57, H⟩ := bind_ex H
 replace S := S.front 4
 obtain ⟨B59, MB59, SB59, back⟩ := S.calln 1 ((.nil))
 refine wl_call (does_call ca_ref11_Run) (by decide) (ref11_Run_st SB59 er57) ?_
 rintro _ w58 ⟨s60, rfl, S2⟩
 replace S := back _ _ _ _ S2 rfl
 clear back S2 SB59
 refine wd (does_mv_t rfl) (wd (does_extract rfl rfl) (wd (does_extract rfl rfl) ?_))
 refine wl_alloc ze_Found (by decide) fun b62 w61 hw61 => ?_
 replace S := S.new hw61
 refine wl_store_agg ag_Found rfl rfl (S.blk 0) (Found.len _) (by rw [Found.len]; decide) (Found.one _) (store_all (Found.len _)) fun w63 B hw63 zw63 => ?_
 replace S := S.store 0 B hw63
 clear B
 refine wd (does_as_i rfl) (wl_nil (wc_seq (wc_region (wd (does_load_agg ag_Found rfl ((S.blk 3).all _ (Found.len _)) (Found.len _)) (wd (does_load_agg ag_Found rfl ((S.blk 0).all _ (Found.len _)) (Found.len _)) ?_)))))
 obtain ⟨r64, er64, H⟩ := bind_ex H
 obtain ⟨B66, MB66, SB66, back⟩ := S.calln 0 ((.o 5 rfl (.o 2 rfl .nil)))
 refine wl_call (does_call ca_ref11_Same) (by decide) (ref11_Same_st (a0 := r50.2.1) (a1 := r57.2.1) SB66 er64) ?_
 rintro _ w65 ⟨rfl, S2⟩
 replace S := back _ _ _ _ S2 rfl
 clear back S2 SB66
 refine wd (does_mv_b rfl) (wg (fun hg => does_mv_i rfl) (wg (fun hg => does_mv_i rfl) (wg (fun hg => does_eq (gv_yes hg) (gv_yes hg)) (wd (does_and rfl (fun hp => (gv_yes (and_1 hp)))) (wd (does_mv_b rfl) (wg (fun hg => does_mv_p rfl) (wg (fun hg => does_mv_p rfl) ?_)))))))
 obtain ⟨r67, er67, H⟩ := bind_ex H
 refine wl_gcall (j := 8) (pol := true) rfl rfl rfl (by decide) (fun hg => does_callg ca_law03_Like (cons2 (gv_yes hg) (cons2 (gv_yes hg) rfl))) (by decide) (fun hg => (have ⟨M, SS⟩ := S.lend ((.o 4 rfl (.o 1 rfl .nil))); quiet (law03_Like_st SS (if_t (by simpa using hg) er67)) (fun v w' h => ⟨h.1, _, _, h.2⟩))) fun w68 hw68 => ?_
 replace S := S.ext hw68
 refine wd (does_and rfl (fun hp => (gv_yes (and_1 hp)))) (wd (does_mv_b rfl) ?_)
 obtain ⟨r69, er69, H⟩ := bind_ex H
 refine wl_gcall (j := 13) (pol := true) rfl rfl rfl (by decide) (fun hg => does_callg ca_law11_heads rfl) (by decide) (fun hg => (have ⟨M, SS⟩ := S.lend ((.z 1 rfl .nil)); quiet (law11_heads_st SS (if_t (by simpa using hg) er69)) (fun v w' h => ⟨h.1, _, _, h.2⟩))) fun w70 hw70 => ?_
 replace S := S.ext hw70
 refine wd (does_and rfl (fun hp => (gv_yes (and_1 hp)))) (wd (does_as_b rfl) (wl_nil (wc_ret ?_)))
 refine ⟨_, (rets1 (retOne_tmp rfl)), ?_⟩
 replace S := S.arr [] []
 obtain rfl := Option.some.inj H
 exact ⟨rfl, S⟩
end Go.Proofs.YtjjkhjieegmphaaDoor
end
section
namespace Go.Proofs.YtjjkhjieegmphaaDoor
open Gw
theorem forE_find {α σ ρ : Type} {b : α → σ → Option (Stp σ ρ)} {p : α → Bool} {r : α → ρ} : ∀ (l : List α) (s : σ), (∀ x ∈ l, b x s = some (if p x then .ret (r x) else .go s)) → forE b l s = some (match l.find? p with | some x => .inr (r x) | none => .inl s)
 | [], s, _ => rfl
 | x :: l, s, h => by
  rw [forE, h x (by simp)]
  cases hp : p x with
  | true => simp [hp, List.find?_cons]
  | false => simpa [hp, List.find?_cons] using forE_find l s fun y hy => h y (by simp [hy])
theorem forN_find {σ ρ : Type} {b : Int → σ → Option (Stp σ ρ)} {p : Nat → Bool} {r : Nat → ρ} : ∀ (n i : Nat) (s : σ), (∀ j : Nat, i ≤ j → j < i + n → b j s = some (if p j then .ret (r j) else .go s)) → forN b n i s = some (match (List.range' i n).find? p with | some j => .inr (r j) | none => .inl s)
 | 0, i, s, _ => rfl
 | n + 1, i, s, h => by
  rw [forN, h i (Nat.le_refl _) (by omega), List.range'_succ]
  cases hp : p i with
  | true => simp [hp, List.find?_cons]
  | false =>
   have := forN_find n (i + 1) s fun j h1 h2 => h j (by omega) (by omega)
   simpa [hp, List.find?_cons] using this
theorem forS_two {p : Nat → Bool} {c : Nat → Int} {b : Int → List Int × List Int → Option (List Int × List Int)} : ∀ (n i : Nat) (x y : List Int), (∀ (j : Nat) (x y : List Int), i ≤ j → j < i + n → x.length ≤ 2 + j → y.length ≤ 2 + j → b j (x, y) = some (if p j then (x ++ [13], y ++ [(j : Int)]) else (x, y))) → x.length ≤ 2 + i → y.length ≤ 2 + i →
  forS b n i (x, y) = some (x ++ ((List.range' i n).filter p).map (fun _ => 13), y ++ ((List.range' i n).filter p).map fun (j : Nat) => (j : Int))
 | 0, i, x, y, _, _, _ => by simp [forS]
 | n + 1, i, x, y, h, hx, hy => by
  rw [forS, h i x y (Nat.le_refl _) (by omega) hx hy, List.range'_succ]
  cases hp : p i with
  | true =>
   have := forS_two (p := p) (c := c) (b := b) n (i + 1) (x ++ [13]) (y ++ [(i : Int)]) (fun j x y h1 h2 => h j x y (by omega) (by omega)) (by simp; omega) (by simp; omega)
   simpa [hp] using this
  | false =>
   have := forS_two (p := p) (c := c) (b := b) n (i + 1) x y (fun j x y h1 h2 => h j x y (by omega) (by omega)) (by omega) (by omega)
   simpa [hp] using this
theorem forE_two {b : Nat → List Int × List Int → Option (Stp (List Int × List Int) Empty)} {p : Nat → Bool} : ∀ (l : List Nat) (m : Nat) (x y : List Int), (∀ (j : Nat) (x y : List Int), j ∈ l → x.length ≤ 2 + 1024 → y.length ≤ 2 + 1024 → b j (x, y) = some (.go (if p j then (x ++ [(j : Int)], y ++ [13]) else (x, y)))) → x.length + l.length ≤ 2 + 1024 → y.length + l.length ≤ 2 + 1024 →
  forE b l (x, y) = some (.inl (x ++ (l.filter p).map (fun (j : Nat) => (j : Int)), y ++ (l.filter p).map fun _ => 13))
 | [], m, x, y, _, _, _ => by simp [forE]
 | j :: l, m, x, y, h, hx, hy => by
  simp only [List.length_cons] at hx hy
  rw [forE, h j x y (by simp) (by omega) (by omega)]
  cases hp : p j with
  | true =>
   have := forE_two (b := b) (p := p) l m (x ++ [(j : Int)]) (y ++ [13]) (fun i x y h1 => h i x y (by simp [h1])) (by simp; omega) (by simp; omega)
   simpa [hp] using this
  | false =>
   have := forE_two (b := b) (p := p) l m x y (fun i x y h1 => h i x y (by simp [h1])) (by omega) (by omega)
   simpa [hp] using this
theorem list_find {b : Bits} {n : Nat} (hn : n ≤ 1024) (h : ∀ j ∈ b.list, j < n) (p : Nat → Bool) : b.list.find? p = (List.range n).find? fun (j : Nat) => b.has j && p j := by
 have h1 : b.list = (List.range n).filter fun (j : Nat) => b.has j := by
  unfold Bits.list
  rw [show (1024 : Nat) = n + (1024 - n) by omega, List.range_add, List.filter_append, List.append_right_eq_self]
  refine List.filter_eq_nil_iff.2 fun x hx hb => ?_
  obtain ⟨k, hk, rfl⟩ := List.mem_map.1 hx
  have := h (n + k) (Bits.mem_list.2 ⟨by have := List.mem_range.1 hk; omega, hb⟩)
  omega
 rw [h1, List.find?_filter]
 refine congrArg (fun q => (List.range n).find? q) (funext fun a => ?_)
 cases b.has a <;> cases p a <;> simp
abbrev nd (M : List Nd) (i : Int) : Nd := (nodeS M i).1
theorem nd_at {M : List Nd} {i : Int} (h : inb i M.length = true) : at_ Nd.z M i = nd M i := by
 have h := inb_ex h
 unfold nd nodeS hasRow at_
 simp [h]
theorem node_some (M : List Nd) (i : Int) : rule_node.f (some M) i = some (nd M i) := by simp [rule_node.f, formula_Table_Node.f]
def onV (M : List Nd) (b : Bits) (i : Int) : Int :=
 if (nd M i).kind = 2 then 1 else if (nd M i).kind = 3 then 3 else if (nd M i).kind = 4 then 10 else if (nd M i).kind = 5 then
  (if (nd M (nd M i).l).kind = 1 then (if b.has (nd M i).l then 4 else 0) else if (nd M (nd M i).l).kind = 2 then 5 else if (nd M (nd M i).l).kind = 3 then 6 else if (nd M (nd M i).l).kind = 4 then 7 else if (nd M (nd M i).l).kind = 5 then 13 else 0)
 else 0
theorem on_some {M : List Nd} {s : Sq} (hb : s.left.okB = true) (i : Int) : rule_on.f (some M) s i = some (onV M s.left i) := by
 unfold rule_on.f onV
 simp only [node_some, bits_Has.f, hb, chk, Option.bind_some, decide_eq_true_eq, if_true]
 repeat (first | rfl | split)
def fitsV (M : List Nd) (s : Sq) (r i : Int) : Bool :=
 if inb i M.length = false then false else if r = 2 then decide (i = s.goal) && s.left.has i else if r = 8 then decide (i = s.goal) && decide ((nd M i).kind = 5) else if r = 9 then decide (i = s.goal) && decide ((nd M i).kind = 3)
 else if r = 11 ∨ r = 12 then decide (i = s.goal) && decide ((nd M i).kind = 4) else decide (r ≠ 0) && s.left.has i && decide (onV M s.left i = r)
theorem fits_some {M : List Nd} {s : Sq} (hb : s.left.okB = true) (r i : Int) : rule_fits.f (some M) s r i = some (fitsV M s r i) := by
 unfold rule_fits.f fitsV inb
 by_cases h0 : i < 0
 ·have : ¬ 0 ≤ i := by omega
  simp [h0, this]
 ·by_cases h1 : (M.length : Int) ≤ i
  ·have h2 : ¬ i < M.length := by omega
   simp [h0, formula_Table_Len.f, h1, h2]
  ·have h2 : i < M.length := by omega
   have h3 : 0 ≤ i := by omega
   simp only [h0, formula_Table_Len.f, h1, h2, h3, node_some, on_some hb, bits_Has.f, hb, chk, decide_false, decide_true, Bool.not_false, if_true, Option.map_some, Option.bind_some, Bool.false_or, Bool.and_self, Bool.true_eq_false, if_false, decide_eq_true_eq, Bool.false_eq_true]
   by_cases r2 : r = 2
   ·simp [r2]
   by_cases r8 : r = 8
   ·simp [r8]
   by_cases r9 : r = 9
   ·simp [r9]
   by_cases r11 : r = 11
   ·simp [r11]
   by_cases r12 : r = 12
   ·simp [r12]
   simp only [r2, r8, r9, r11, r12, if_false, decide_false, Option.bind_some, or_self, Bool.false_eq_true]
   by_cases hr : r = 0
   ·simp [hr]
   ·cases s.left.has i <;> simp [hr]
structure Wf (M : List Nd) : Prop where
 len : M.length ≤ 1024
 nodup : M.Nodup
 kind : ∀ i : Int, inb i M.length = true → (nd M i).kind = 1 ∨ (nd M i).kind = 2 ∨ (nd M i).kind = 3 ∨ (nd M i).kind = 4 ∨ (nd M i).kind = 5
 kids : ∀ i : Int, inb i M.length = true → (nd M i).kind = 3 ∨ (nd M i).kind = 4 ∨ (nd M i).kind = 5 → (0 ≤ (nd M i).l ∧ (nd M i).l < i) ∧ 0 ≤ (nd M i).r ∧ (nd M i).r < i
theorem Wf.left {M : List Nd} (h : Wf M) {i : Int} (hi : inb i M.length = true) (hk : (nd M i).kind = 3 ∨ (nd M i).kind = 4 ∨ (nd M i).kind = 5) : inb (nd M i).l M.length = true := by
 have h1 := h.kids i hi hk
 have h2 := inb_ex hi
 simp only [inb, Bool.and_eq_true, decide_eq_true_eq]; omega
theorem Wf.right {M : List Nd} (h : Wf M) {i : Int} (hi : inb i M.length = true) (hk : (nd M i).kind = 3 ∨ (nd M i).kind = 4 ∨ (nd M i).kind = 5) : inb (nd M i).r M.length = true := by
 have h1 := h.kids i hi hk
 have h2 := inb_ex hi
 simp only [inb, Bool.and_eq_true, decide_eq_true_eq]; omega
theorem docHas (M : List Nd) (i : Int) : ref03_T_Has.f (some M) i = some (inb i M.length) := by simp [ref03_T_Has.f, chk, inb]
theorem docKind {M : List Nd} {i : Int} (hi : inb i M.length = true) : ref09_kind.f (some M) i = some (nd M i).kind := by
 simp only [ref09_kind.f, chk, Option.isSome_some, Option.getD_some, hi, if_true, nd_at hi]
theorem docFits {M : List Nd} {s : Sq} (hw : Wf M) (hb : s.left.okB = true) (r i : Int) : ref09_Fits.f (some M) s r i = some (fitsV M s r i) := by
 unfold ref09_Fits.f
 rw [docHas]
 cases hi : inb i M.length with
 | false => simp [fitsV, hi]
 | true =>
  simp only [Option.bind_some, Bool.not_true, Bool.false_eq_true, if_false, Option.isSome_some, Option.getD_some, chk, if_true, nd_at hi, ref05_Has.f, hb, hi, fitsV, Bool.true_eq_false]
  have hk := hw.kind i hi
  rcases hk with k | k | k | k | k
  ·have ho : onV M s.left i = 0 := by simp [onV, k]
   by_cases r1 : r = 1
   ·subst r1; cases s.left.has i <;> simp [k, ho]
   by_cases r2 : r = 2
   ·subst r2; cases s.left.has i <;> simp [k, ho]
   by_cases r3 : r = 3
   ·subst r3; cases s.left.has i <;> simp [k, ho]
   by_cases r4 : r = 4
   ·subst r4; cases s.left.has i <;> simp [k, ho]
   by_cases r5 : r = 5
   ·subst r5; cases s.left.has i <;> simp [k, ho]
   by_cases r6 : r = 6
   ·subst r6; cases s.left.has i <;> simp [k, ho]
   by_cases r7 : r = 7
   ·subst r7; cases s.left.has i <;> simp [k, ho]
   by_cases r8 : r = 8
   ·subst r8; cases s.left.has i <;> simp [k, ho]
   by_cases r9 : r = 9
   ·subst r9; cases s.left.has i <;> simp [k, ho]
   by_cases r10 : r = 10
   ·subst r10; cases s.left.has i <;> simp [k, ho]
   by_cases r11 : r = 11
   ·subst r11; cases s.left.has i <;> simp [k, ho]
   by_cases r12 : r = 12
   ·subst r12; cases s.left.has i <;> simp [k, ho]
   by_cases r13 : r = 13
   ·subst r13; cases s.left.has i <;> simp [k, ho]
   simp only [k, ho]
   simp [r1, r2, r3, r4, r5, r6, r7, r8, r9, r10, r11, r12, r13]
   try (intro h; omega)
  ·have ho : onV M s.left i = 1 := by simp [onV, k]
   by_cases r1 : r = 1
   ·subst r1; cases s.left.has i <;> simp [k, ho]
   by_cases r2 : r = 2
   ·subst r2; cases s.left.has i <;> simp [k, ho]
   by_cases r3 : r = 3
   ·subst r3; cases s.left.has i <;> simp [k, ho]
   by_cases r4 : r = 4
   ·subst r4; cases s.left.has i <;> simp [k, ho]
   by_cases r5 : r = 5
   ·subst r5; cases s.left.has i <;> simp [k, ho]
   by_cases r6 : r = 6
   ·subst r6; cases s.left.has i <;> simp [k, ho]
   by_cases r7 : r = 7
   ·subst r7; cases s.left.has i <;> simp [k, ho]
   by_cases r8 : r = 8
   ·subst r8; cases s.left.has i <;> simp [k, ho]
   by_cases r9 : r = 9
   ·subst r9; cases s.left.has i <;> simp [k, ho]
   by_cases r10 : r = 10
   ·subst r10; cases s.left.has i <;> simp [k, ho]
   by_cases r11 : r = 11
   ·subst r11; cases s.left.has i <;> simp [k, ho]
   by_cases r12 : r = 12
   ·subst r12; cases s.left.has i <;> simp [k, ho]
   by_cases r13 : r = 13
   ·subst r13; cases s.left.has i <;> simp [k, ho]
   have ho2 : ¬ (1 : Int) = r := by omega
   cases s.left.has i <;> simp [k, ho, ho2, r1, r2, r3, r4, r5, r6, r7, r8, r9, r10, r11, r12, r13]
   try omega
  ·have ho : onV M s.left i = 3 := by simp [onV, k]
   by_cases r1 : r = 1
   ·subst r1; cases s.left.has i <;> simp [k, ho]
   by_cases r2 : r = 2
   ·subst r2; cases s.left.has i <;> simp [k, ho]
   by_cases r3 : r = 3
   ·subst r3; cases s.left.has i <;> simp [k, ho]
   by_cases r4 : r = 4
   ·subst r4; cases s.left.has i <;> simp [k, ho]
   by_cases r5 : r = 5
   ·subst r5; cases s.left.has i <;> simp [k, ho]
   by_cases r6 : r = 6
   ·subst r6; cases s.left.has i <;> simp [k, ho]
   by_cases r7 : r = 7
   ·subst r7; cases s.left.has i <;> simp [k, ho]
   by_cases r8 : r = 8
   ·subst r8; cases s.left.has i <;> simp [k, ho]
   by_cases r9 : r = 9
   ·subst r9; cases s.left.has i <;> simp [k, ho]
   by_cases r10 : r = 10
   ·subst r10; cases s.left.has i <;> simp [k, ho]
   by_cases r11 : r = 11
   ·subst r11; cases s.left.has i <;> simp [k, ho]
   by_cases r12 : r = 12
   ·subst r12; cases s.left.has i <;> simp [k, ho]
   by_cases r13 : r = 13
   ·subst r13; cases s.left.has i <;> simp [k, ho]
   have ho2 : ¬ (3 : Int) = r := by omega
   cases s.left.has i <;> simp [k, ho, ho2, r1, r2, r3, r4, r5, r6, r7, r8, r9, r10, r11, r12, r13]
   try omega
  ·have ho : onV M s.left i = 10 := by simp [onV, k]
   by_cases r1 : r = 1
   ·subst r1; cases s.left.has i <;> simp [k, ho]
   by_cases r2 : r = 2
   ·subst r2; cases s.left.has i <;> simp [k, ho]
   by_cases r3 : r = 3
   ·subst r3; cases s.left.has i <;> simp [k, ho]
   by_cases r4 : r = 4
   ·subst r4; cases s.left.has i <;> simp [k, ho]
   by_cases r5 : r = 5
   ·subst r5; cases s.left.has i <;> simp [k, ho]
   by_cases r6 : r = 6
   ·subst r6; cases s.left.has i <;> simp [k, ho]
   by_cases r7 : r = 7
   ·subst r7; cases s.left.has i <;> simp [k, ho]
   by_cases r8 : r = 8
   ·subst r8; cases s.left.has i <;> simp [k, ho]
   by_cases r9 : r = 9
   ·subst r9; cases s.left.has i <;> simp [k, ho]
   by_cases r10 : r = 10
   ·subst r10; cases s.left.has i <;> simp [k, ho]
   by_cases r11 : r = 11
   ·subst r11; cases s.left.has i <;> simp [k, ho]
   by_cases r12 : r = 12
   ·subst r12; cases s.left.has i <;> simp [k, ho]
   by_cases r13 : r = 13
   ·subst r13; cases s.left.has i <;> simp [k, ho]
   have ho2 : ¬ (10 : Int) = r := by omega
   cases s.left.has i <;> simp [k, ho, ho2, r1, r2, r3, r4, r5, r6, r7, r8, r9, r10, r11, r12, r13]
   try omega
  ·have hl := hw.left hi (.inr (.inr k))
   have hk2 := hw.kind _ hl
   rw [docKind hl]
   rcases hk2 with c | c | c | c | c
   ·cases hh : s.left.has (nd M i).l with
    | true =>
     have ho : onV M s.left i = 4 := by simp [onV, k, c, hh]
     by_cases r1 : r = 1
     ·subst r1; cases s.left.has i <;> simp [k, ho, c, hh]
     by_cases r2 : r = 2
     ·subst r2; cases s.left.has i <;> simp [k, ho, c, hh]
     by_cases r3 : r = 3
     ·subst r3; cases s.left.has i <;> simp [k, ho, c, hh]
     by_cases r4 : r = 4
     ·subst r4; cases s.left.has i <;> simp [k, ho, c, hh]
     by_cases r5 : r = 5
     ·subst r5; cases s.left.has i <;> simp [k, ho, c, hh]
     by_cases r6 : r = 6
     ·subst r6; cases s.left.has i <;> simp [k, ho, c, hh]
     by_cases r7 : r = 7
     ·subst r7; cases s.left.has i <;> simp [k, ho, c, hh]
     by_cases r8 : r = 8
     ·subst r8; cases s.left.has i <;> simp [k, ho, c, hh]
     by_cases r9 : r = 9
     ·subst r9; cases s.left.has i <;> simp [k, ho, c, hh]
     by_cases r10 : r = 10
     ·subst r10; cases s.left.has i <;> simp [k, ho, c, hh]
     by_cases r11 : r = 11
     ·subst r11; cases s.left.has i <;> simp [k, ho, c, hh]
     by_cases r12 : r = 12
     ·subst r12; cases s.left.has i <;> simp [k, ho, c, hh]
     by_cases r13 : r = 13
     ·subst r13; cases s.left.has i <;> simp [k, ho, c, hh]
     have ho2 : ¬ (4 : Int) = r := by omega
     cases s.left.has i <;> simp [k, ho, ho2, c, hh, r1, r2, r3, r4, r5, r6, r7, r8, r9, r10, r11, r12, r13]
     try omega
    | false =>
     have ho : onV M s.left i = 0 := by simp [onV, k, c, hh]
     by_cases r1 : r = 1
     ·subst r1; cases s.left.has i <;> simp [k, ho, c, hh]
     by_cases r2 : r = 2
     ·subst r2; cases s.left.has i <;> simp [k, ho, c, hh]
     by_cases r3 : r = 3
     ·subst r3; cases s.left.has i <;> simp [k, ho, c, hh]
     by_cases r4 : r = 4
     ·subst r4; cases s.left.has i <;> simp [k, ho, c, hh]
     by_cases r5 : r = 5
     ·subst r5; cases s.left.has i <;> simp [k, ho, c, hh]
     by_cases r6 : r = 6
     ·subst r6; cases s.left.has i <;> simp [k, ho, c, hh]
     by_cases r7 : r = 7
     ·subst r7; cases s.left.has i <;> simp [k, ho, c, hh]
     by_cases r8 : r = 8
     ·subst r8; cases s.left.has i <;> simp [k, ho, c, hh]
     by_cases r9 : r = 9
     ·subst r9; cases s.left.has i <;> simp [k, ho, c, hh]
     by_cases r10 : r = 10
     ·subst r10; cases s.left.has i <;> simp [k, ho, c, hh]
     by_cases r11 : r = 11
     ·subst r11; cases s.left.has i <;> simp [k, ho, c, hh]
     by_cases r12 : r = 12
     ·subst r12; cases s.left.has i <;> simp [k, ho, c, hh]
     by_cases r13 : r = 13
     ·subst r13; cases s.left.has i <;> simp [k, ho, c, hh]
     cases s.left.has i <;> simp [k, ho, c, hh, r1, r2, r3, r4, r5, r6, r7, r8, r9, r10, r11, r12, r13]
     try omega
   ·have ho : onV M s.left i = 5 := by simp [onV, k, c]
    by_cases r1 : r = 1
    ·subst r1; cases s.left.has i <;> simp [k, ho, c]
    by_cases r2 : r = 2
    ·subst r2; cases s.left.has i <;> simp [k, ho, c]
    by_cases r3 : r = 3
    ·subst r3; cases s.left.has i <;> simp [k, ho, c]
    by_cases r4 : r = 4
    ·subst r4; cases s.left.has i <;> simp [k, ho, c]
    by_cases r5 : r = 5
    ·subst r5; cases s.left.has i <;> simp [k, ho, c]
    by_cases r6 : r = 6
    ·subst r6; cases s.left.has i <;> simp [k, ho, c]
    by_cases r7 : r = 7
    ·subst r7; cases s.left.has i <;> simp [k, ho, c]
    by_cases r8 : r = 8
    ·subst r8; cases s.left.has i <;> simp [k, ho, c]
    by_cases r9 : r = 9
    ·subst r9; cases s.left.has i <;> simp [k, ho, c]
    by_cases r10 : r = 10
    ·subst r10; cases s.left.has i <;> simp [k, ho, c]
    by_cases r11 : r = 11
    ·subst r11; cases s.left.has i <;> simp [k, ho, c]
    by_cases r12 : r = 12
    ·subst r12; cases s.left.has i <;> simp [k, ho, c]
    by_cases r13 : r = 13
    ·subst r13; cases s.left.has i <;> simp [k, ho, c]
    have ho2 : ¬ (5 : Int) = r := by omega
    cases s.left.has i <;> simp [k, ho, ho2, c, r1, r2, r3, r4, r5, r6, r7, r8, r9, r10, r11, r12, r13]
    try omega
   ·have ho : onV M s.left i = 6 := by simp [onV, k, c]
    by_cases r1 : r = 1
    ·subst r1; cases s.left.has i <;> simp [k, ho, c]
    by_cases r2 : r = 2
    ·subst r2; cases s.left.has i <;> simp [k, ho, c]
    by_cases r3 : r = 3
    ·subst r3; cases s.left.has i <;> simp [k, ho, c]
    by_cases r4 : r = 4
    ·subst r4; cases s.left.has i <;> simp [k, ho, c]
    by_cases r5 : r = 5
    ·subst r5; cases s.left.has i <;> simp [k, ho, c]
    by_cases r6 : r = 6
    ·subst r6; cases s.left.has i <;> simp [k, ho, c]
    by_cases r7 : r = 7
    ·subst r7; cases s.left.has i <;> simp [k, ho, c]
    by_cases r8 : r = 8
    ·subst r8; cases s.left.has i <;> simp [k, ho, c]
    by_cases r9 : r = 9
    ·subst r9; cases s.left.has i <;> simp [k, ho, c]
    by_cases r10 : r = 10
    ·subst r10; cases s.left.has i <;> simp [k, ho, c]
    by_cases r11 : r = 11
    ·subst r11; cases s.left.has i <;> simp [k, ho, c]
    by_cases r12 : r = 12
    ·subst r12; cases s.left.has i <;> simp [k, ho, c]
    by_cases r13 : r = 13
    ·subst r13; cases s.left.has i <;> simp [k, ho, c]
    have ho2 : ¬ (6 : Int) = r := by omega
    cases s.left.has i <;> simp [k, ho, ho2, c, r1, r2, r3, r4, r5, r6, r7, r8, r9, r10, r11, r12, r13]
    try omega
   ·have ho : onV M s.left i = 7 := by simp [onV, k, c]
    by_cases r1 : r = 1
    ·subst r1; cases s.left.has i <;> simp [k, ho, c]
    by_cases r2 : r = 2
    ·subst r2; cases s.left.has i <;> simp [k, ho, c]
    by_cases r3 : r = 3
    ·subst r3; cases s.left.has i <;> simp [k, ho, c]
    by_cases r4 : r = 4
    ·subst r4; cases s.left.has i <;> simp [k, ho, c]
    by_cases r5 : r = 5
    ·subst r5; cases s.left.has i <;> simp [k, ho, c]
    by_cases r6 : r = 6
    ·subst r6; cases s.left.has i <;> simp [k, ho, c]
    by_cases r7 : r = 7
    ·subst r7; cases s.left.has i <;> simp [k, ho, c]
    by_cases r8 : r = 8
    ·subst r8; cases s.left.has i <;> simp [k, ho, c]
    by_cases r9 : r = 9
    ·subst r9; cases s.left.has i <;> simp [k, ho, c]
    by_cases r10 : r = 10
    ·subst r10; cases s.left.has i <;> simp [k, ho, c]
    by_cases r11 : r = 11
    ·subst r11; cases s.left.has i <;> simp [k, ho, c]
    by_cases r12 : r = 12
    ·subst r12; cases s.left.has i <;> simp [k, ho, c]
    by_cases r13 : r = 13
    ·subst r13; cases s.left.has i <;> simp [k, ho, c]
    have ho2 : ¬ (7 : Int) = r := by omega
    cases s.left.has i <;> simp [k, ho, ho2, c, r1, r2, r3, r4, r5, r6, r7, r8, r9, r10, r11, r12, r13]
    try omega
   ·have ho : onV M s.left i = 13 := by simp [onV, k, c]
    by_cases r1 : r = 1
    ·subst r1; cases s.left.has i <;> simp [k, ho, c]
    by_cases r2 : r = 2
    ·subst r2; cases s.left.has i <;> simp [k, ho, c]
    by_cases r3 : r = 3
    ·subst r3; cases s.left.has i <;> simp [k, ho, c]
    by_cases r4 : r = 4
    ·subst r4; cases s.left.has i <;> simp [k, ho, c]
    by_cases r5 : r = 5
    ·subst r5; cases s.left.has i <;> simp [k, ho, c]
    by_cases r6 : r = 6
    ·subst r6; cases s.left.has i <;> simp [k, ho, c]
    by_cases r7 : r = 7
    ·subst r7; cases s.left.has i <;> simp [k, ho, c]
    by_cases r8 : r = 8
    ·subst r8; cases s.left.has i <;> simp [k, ho, c]
    by_cases r9 : r = 9
    ·subst r9; cases s.left.has i <;> simp [k, ho, c]
    by_cases r10 : r = 10
    ·subst r10; cases s.left.has i <;> simp [k, ho, c]
    by_cases r11 : r = 11
    ·subst r11; cases s.left.has i <;> simp [k, ho, c]
    by_cases r12 : r = 12
    ·subst r12; cases s.left.has i <;> simp [k, ho, c]
    by_cases r13 : r = 13
    ·subst r13; cases s.left.has i <;> simp [k, ho, c]
    have ho2 : ¬ (13 : Int) = r := by omega
    cases s.left.has i <;> simp [k, ho, ho2, c, r1, r2, r3, r4, r5, r6, r7, r8, r9, r10, r11, r12, r13]
    try omega
theorem find_congr {α : Type} {p q : α → Bool} : ∀ {l : List α}, (∀ x ∈ l, p x = q x) → l.find? p = l.find? q
 | [], _ => rfl
 | x :: l, h => by
  rw [List.find?_cons, List.find?_cons, h x (by simp), find_congr fun y hy => h y (by simp [hy])]
theorem any_find {α : Type} {p : α → Bool} : ∀ (l : List α), l.any p = (l.find? p).isSome
 | [] => rfl
 | x :: l => by
  rw [List.any_cons, List.find?_cons, any_find l]
  cases p x <;> rfl
theorem find_idx {α : Type} (l : List α) (d : α) (p : α → Bool) : l.find? p = ((List.range' 0 l.length).find? fun k => p (l.getD k d)).map fun k => l.getD k d := by
 have h : l = (List.range' 0 l.length).map fun k => l.getD k d := by
  refine List.ext_getElem? fun i => ?_
  by_cases hi : i < l.length
  ·simp [hi]
  ·simp [hi]
 conv => lhs; rw [h]
 rw [List.find?_map]; rfl
def firstV (M : List Nd) (s : Sq) (c : Int → Bool) : Option Nat := (List.range M.length).find? fun (j : Nat) => s.left.has j && c (onV M s.left j)
theorem firstV_some {M : List Nd} {s : Sq} {c : Int → Bool} {j : Nat} (h : firstV M s c = some j) : j < M.length ∧ s.left.has j = true ∧ c (onV M s.left j) = true := by
 have h1 := List.find?_some h
 have h2 := List.mem_of_find?_eq_some h
 simp only [Bool.and_eq_true] at h1
 exact ⟨List.mem_range.1 h2, h1.1, h1.2⟩
def applyV (M : List Nd) (s : Sq) : Int × Int :=
 match firstV M s (fun r => decide (r = 1)) with
 | some j => (1, j)
 | none => if s.left.has s.goal then (2, s.goal) else
  match firstV M s (fun r => decide (3 ≤ r) && decide (r ≤ 7)) with
  | some j => (onV M s.left j, j)
  | none => if (nd M s.goal).kind = 5 then (8, s.goal) else if (nd M s.goal).kind = 3 then (9, s.goal) else
   match firstV M s (fun r => decide (r = 10)) with
   | some j => (10, j)
   | none => (14, 0)
structure Rt (M : List Nd) (s : Sq) : Prop where
 ok : s.left.okB = true
 left : ∀ j ∈ s.left.list, j < M.length
 goal : inb s.goal M.length = true
theorem least1 {M : List Nd} {s : Sq} (hM : M.length ≤ 1024) (h : Rt M s) : rule_least__rule_apply_1_1.f (some M) s = some (match firstV M s (fun r => decide (r = 1)) with | some j => ((⟨onV M s.left j, j⟩ : Fnd), true) | none => (Fnd.z, false)) := by
 unfold rule_least__rule_apply_1_1.f
 rw [h.ok, chk, if_pos rfl, forE_find (p := fun (j : Nat) => decide (onV M s.left j = 1)) (r := fun (j : Nat) => (true, (⟨onV M s.left j, j⟩ : Fnd))), list_find hM h.left]
 ·unfold firstV
  cases (List.range M.length).find? fun (j : Nat) => s.left.has j && decide (onV M s.left j = 1) <;> rfl
 ·intro x _
  simp [rule_least__rule_apply_1_1.b0, on_some h.ok, rule_apply_1_1.f]
  split <;> rfl
theorem least3 {M : List Nd} {s : Sq} (hM : M.length ≤ 1024) (h : Rt M s) : rule_least__rule_apply_3_1.f (some M) s = some (match firstV M s (fun r => decide (3 ≤ r) && decide (r ≤ 7)) with | some j => ((⟨onV M s.left j, j⟩ : Fnd), true) | none => (Fnd.z, false)) := by
 unfold rule_least__rule_apply_3_1.f
 rw [h.ok, chk, if_pos rfl, forE_find (p := fun (j : Nat) => decide (3 ≤ onV M s.left j) && decide (onV M s.left j ≤ 7)) (r := fun (j : Nat) => (true, (⟨onV M s.left j, j⟩ : Fnd))), list_find hM h.left]
 ·unfold firstV
  cases (List.range M.length).find? fun (j : Nat) => s.left.has j && (decide (3 ≤ onV M s.left j) && decide (onV M s.left j ≤ 7)) <;> rfl
 ·intro x _
  simp [rule_least__rule_apply_3_1.b0, on_some h.ok, rule_apply_3_1.f]
  split <;> rfl
theorem least6 {M : List Nd} {s : Sq} (hM : M.length ≤ 1024) (h : Rt M s) : rule_least__rule_apply_6_1.f (some M) s = some (match firstV M s (fun r => decide (r = 10)) with | some j => ((⟨onV M s.left j, j⟩ : Fnd), true) | none => (Fnd.z, false)) := by
 unfold rule_least__rule_apply_6_1.f
 rw [h.ok, chk, if_pos rfl, forE_find (p := fun (j : Nat) => decide (onV M s.left j = 10)) (r := fun (j : Nat) => (true, (⟨onV M s.left j, j⟩ : Fnd))), list_find hM h.left]
 ·unfold firstV
  cases (List.range M.length).find? fun (j : Nat) => s.left.has j && decide (onV M s.left j = 10) <;> rfl
 ·intro x _
  simp [rule_least__rule_apply_6_1.b0, on_some h.ok, rule_apply_6_1.f]
  split <;> rfl
theorem apply_some {M : List Nd} {s : Sq} (hM : M.length ≤ 1024) (h : Rt M s) : rule_apply.f (some M) s = some ⟨(applyV M s).1, (applyV M s).2⟩ := by
 unfold rule_apply.f rule_apply_1.f rule_apply_2.f rule_apply_3.f rule_apply_4.f rule_apply_5.f rule_apply_6.f applyV
 simp only [least1 hM h, least3 hM h, least6 hM h, node_some, bits_Has.f, h.ok, chk, if_true, Option.bind_some]
 cases h1 : firstV M s (fun r => decide (r = 1)) with
 | some j =>
  have := (firstV_some h1).2.2
  simp only [decide_eq_true_eq] at this
  simp [this]
 | none =>
  simp only [Bool.false_eq_true, if_false]
  by_cases hg : s.left.has s.goal = true
  ·simp [hg]
  simp only [hg, if_false]
  cases h3 : firstV M s (fun r => decide (3 ≤ r) && decide (r ≤ 7)) with
  | some j => simp
  | none =>
   simp only [Bool.false_eq_true, if_false]
   by_cases h5 : (nd M s.goal).kind = 5
   ·simp [h5]
   by_cases h6 : (nd M s.goal).kind = 3
   ·simp [h6]
   simp only [h5, h6, decide_false, Bool.false_eq_true, if_false]
   cases h10 : firstV M s (fun r => decide (r = 10)) with
   | some j =>
    have := (firstV_some h10).2.2
    simp only [decide_eq_true_eq] at this
    simp [this]
   | none => simp
theorem docFirst {M : List Nd} {s : Sq} (hw : Wf M) (hb : s.left.okB = true) (rs : List Int) :
  ref09_first.f (some M) s rs = some (match (List.range M.length).find? (fun (j : Nat) => rs.any fun r => fitsV M s r j) with | some j => ((rs.find? fun r => fitsV M s r j).getD 0, (j : Int), true) | none => (0, 0, false)) := by
 have hin : ∀ j : Nat, ref09_first.b0 (some M) s rs j = some (if (rs.any fun r => fitsV M s r j) then .ret ((rs.find? fun r => fitsV M s r j).getD 0, (j : Int), true) else .go ()) := by
  intro j
  unfold ref09_first.b0
  have h1 := forN_find (b := fun i s_1 => ref09_first.b1 (some M) s rs j i) (p := fun k => fitsV M s (rs.getD k 0) j) (r := fun k => (.ret (rs.getD k 0, (j : Int), true) : Stp Unit (Int × Int × Bool))) rs.length 0 () (by
   intro k _ hk
   unfold ref09_first.b1 at_
   rw [Int.toNat_natCast, docFits hw hb]
   simp only [Option.bind_some]
   split <;> rfl)
  have e0 : (((rs.length : Nat) : Int) - 0).toNat = rs.length := by omega
  rw [e0]
  rw [show (0 : Int) = ((0 : Nat) : Int) from rfl, h1, find_idx rs 0]
  have ha : (rs.any fun r => fitsV M s r j) = ((List.range' 0 rs.length).find? fun k => fitsV M s (rs.getD k 0) j).isSome := by
   rw [any_find, find_idx rs 0]; simp
  rw [ha]
  cases (List.range' 0 rs.length).find? fun k => fitsV M s (rs.getD k 0) j <;> rfl
 unfold ref09_first.f
 have h1 := forN_find (b := fun i s_1 => ref09_first.b0 (some M) s rs i) (p := fun j => rs.any fun r => fitsV M s r j) (r := fun j => ((rs.find? fun r => fitsV M s r j).getD 0, (j : Int), true)) M.length 0 () (fun j _ _ => hin j)
 have e0 : (((M.length : Nat) : Int) - 0).toNat = M.length := by omega
 simp only [Option.isSome_some, Option.getD_some, chk, if_true, e0]
 rw [show (0 : Int) = ((0 : Nat) : Int) from rfl, h1, ← List.range_eq_range']
 cases (List.range M.length).find? fun (j : Nat) => rs.any fun r => fitsV M s r j <;> rfl
theorem fits_on {M : List Nd} {s : Sq} {r : Int} (hr : r ≠ 0 ∧ r ≠ 2 ∧ r ≠ 8 ∧ r ≠ 9 ∧ r ≠ 11 ∧ r ≠ 12) {j : Nat} (hj : j < M.length) : fitsV M s r j = (s.left.has j && decide (onV M s.left j = r)) := by
 obtain ⟨h0, h2, h8, h9, h11, h12⟩ := hr
 have : inb (j : Int) M.length = true := by simp [inb]; omega
 simp [fitsV, this, h0, h2, h8, h9, h11, h12]
theorem find_goal {n : Nat} {g : Int} (h : inb g n = true) (c : Bool) : (List.range n).find? (fun (j : Nat) => decide ((j : Int) = g) && c) = if c then some g.toNat else none := by
 have hg := inb_ex h
 cases c with
 | false => simp
 | true =>
  simp only [Bool.and_true, if_true]
  rw [List.find?_range_eq_some]
  refine ⟨by simp; omega, by simp; omega, fun j hj => by simp; omega⟩
theorem docApply {M : List Nd} {s : Sq} (hw : Wf M) (h : Rt M s) : ref09_Apply.f (some M) s = some (applyV M s) := by
 have f1 : (List.range M.length).find? (fun (j : Nat) => [(1 : Int)].any fun r => fitsV M s r j) = firstV M s (fun r => decide (r = 1)) := find_congr fun j hj => by
  simp only [List.any_cons, List.any_nil, Bool.or_false]; exact fits_on (by decide) (List.mem_range.1 hj)
 have f2 : (List.range M.length).find? (fun (j : Nat) => [(2 : Int)].any fun r => fitsV M s r j) = if s.left.has s.goal then some s.goal.toNat else none := by
  rw [← find_goal h.goal]
  refine find_congr fun j hj => ?_
  have hi : inb (j : Int) M.length = true := by have := List.mem_range.1 hj; simp [inb]; omega
  simp only [List.any_cons, List.any_nil, Bool.or_false, fitsV, hi, if_true, Bool.true_eq_false, if_false]
  by_cases e : (j : Int) = s.goal
  ·rw [e]
  ·simp [e]
 have f3 : (List.range M.length).find? (fun (j : Nat) => [(3 : Int), 4, 5, 6, 7].any fun r => fitsV M s r j) = firstV M s (fun r => decide (3 ≤ r) && decide (r ≤ 7)) := find_congr fun j hj => by
  simp only [List.any_cons, List.any_nil, Bool.or_false]
  rw [fits_on (by decide) (List.mem_range.1 hj), fits_on (by decide) (List.mem_range.1 hj), fits_on (by decide) (List.mem_range.1 hj), fits_on (by decide) (List.mem_range.1 hj), fits_on (by decide) (List.mem_range.1 hj)]
  cases s.left.has j with
  | false => simp
  | true =>
   simp only [Bool.true_and]
   rw [Bool.eq_iff_iff]; simp only [Bool.or_eq_true, Bool.and_eq_true, decide_eq_true_eq]; omega
 have f8 : (List.range M.length).find? (fun (j : Nat) => [(8 : Int)].any fun r => fitsV M s r j) = if (nd M s.goal).kind = 5 then some s.goal.toNat else none := by
  have := find_goal h.goal (decide ((nd M s.goal).kind = 5))
  simp only [decide_eq_true_eq] at this
  rw [← this]
  refine find_congr fun j hj => ?_
  have hi : inb (j : Int) M.length = true := by have := List.mem_range.1 hj; simp [inb]; omega
  simp only [List.any_cons, List.any_nil, Bool.or_false, fitsV, hi, if_true, Bool.true_eq_false, if_false]
  by_cases e : (j : Int) = s.goal
  ·rw [e]; simp
  ·simp [e]
 have f9 : (List.range M.length).find? (fun (j : Nat) => [(9 : Int)].any fun r => fitsV M s r j) = if (nd M s.goal).kind = 3 then some s.goal.toNat else none := by
  have := find_goal h.goal (decide ((nd M s.goal).kind = 3))
  simp only [decide_eq_true_eq] at this
  rw [← this]
  refine find_congr fun j hj => ?_
  have hi : inb (j : Int) M.length = true := by have := List.mem_range.1 hj; simp [inb]; omega
  simp only [List.any_cons, List.any_nil, Bool.or_false, fitsV, hi, if_true, Bool.true_eq_false, if_false]
  by_cases e : (j : Int) = s.goal
  ·rw [e]; simp
  ·simp [e]
 have f10 : (List.range M.length).find? (fun (j : Nat) => [(10 : Int)].any fun r => fitsV M s r j) = firstV M s (fun r => decide (r = 10)) := find_congr fun j hj => by
  simp only [List.any_cons, List.any_nil, Bool.or_false]; exact fits_on (by decide) (List.mem_range.1 hj)
 have hg := inb_ex h.goal
 have hgt : ((s.goal.toNat : Nat) : Int) = s.goal := by omega
 unfold ref09_Apply.f applyV
 simp only [docFirst hw h.ok, f1, f2, f3, f8, f9, f10, Option.bind_some]
 cases h1 : firstV M s (fun r => decide (r = 1)) with
 | some j =>
  have h2 := firstV_some h1
  simp [fits_on (M := M) (s := s) (r := 1) (by decide) h2.1, h2.2.1, of_decide_eq_true h2.2.2]
 | none =>
  by_cases hh : s.left.has s.goal = true
  ·simp [hh, hgt, fitsV, h.goal]
  simp only [hh, if_false, Bool.false_eq_true]
  cases h3 : firstV M s (fun r => decide (3 ≤ r) && decide (r ≤ 7)) with
  | some j =>
   have h2 := firstV_some h3
   have h4 := h2.2.2
   simp only [Bool.and_eq_true, decide_eq_true_eq] at h4
   have hrs : ([(3 : Int), 4, 5, 6, 7].find? fun r => fitsV M s r j) = some (onV M s.left j) := by
    have hr : onV M s.left j = 3 ∨ onV M s.left j = 4 ∨ onV M s.left j = 5 ∨ onV M s.left j = 6 ∨ onV M s.left j = 7 := by omega
    simp only [List.find?_cons, fits_on (M := M) (s := s) (r := 3) (by decide) h2.1, fits_on (M := M) (s := s) (r := 4) (by decide) h2.1, fits_on (M := M) (s := s) (r := 5) (by decide) h2.1, fits_on (M := M) (s := s) (r := 6) (by decide) h2.1, fits_on (M := M) (s := s) (r := 7) (by decide) h2.1, h2.2.1]
    rcases hr with e | e | e | e | e <;> simp [e]
   simp [hrs]
  | none =>
   by_cases h5 : (nd M s.goal).kind = 5
   ·simp [h5, hgt, fitsV, h.goal]
   by_cases h6 : (nd M s.goal).kind = 3
   ·simp [h6, hgt, fitsV, h.goal]
   simp only [h5, h6, if_false, Bool.false_eq_true]
   cases h10 : firstV M s (fun r => decide (r = 10)) with
   | some j =>
    have h2 := firstV_some h10
    simp [fits_on (M := M) (s := s) (r := 10) (by decide) h2.1, h2.2.1, of_decide_eq_true h2.2.2]
   | none => simp
end Go.Proofs.YtjjkhjieegmphaaDoor
end
section
namespace Go.Proofs.YtjjkhjieegmphaaDoor
open Gw
theorem inb_nat (j n : Nat) : inb (j : Int) n = decide (j < n) := by
 unfold inb
 rw [decide_eq_true (show 0 ≤ (j : Int) by omega), Bool.true_and, decide_eq_decide]
 omega
theorem list_eq {b : Bits} {n : Nat} (hn : n ≤ 1024) (h : ∀ j ∈ b.list, j < n) : b.list = (List.range n).filter fun (j : Nat) => b.has j := by
 unfold Bits.list
 rw [show (1024 : Nat) = n + (1024 - n) by omega, List.range_add, List.filter_append, List.append_right_eq_self]
 refine List.filter_eq_nil_iff.2 fun x hx hb => ?_
 obtain ⟨k, hk, rfl⟩ := List.mem_map.1 hx
 have := h (n + k) (Bits.mem_list.2 ⟨by have := List.mem_range.1 hk; omega, hb⟩)
 omega
def lookV (M : List Nd) (s : Sq) : Bool := (s.left.list.all fun j => decide (j < M.length)) && inb s.goal M.length
theorem lookV_rt {M : List Nd} {s : Sq} (hb : s.left.okB = true) (h : lookV M s = true) : Rt M s := by
 simp only [lookV, Bool.and_eq_true, List.all_eq_true, decide_eq_true_eq] at h
 exact ⟨hb, h.1, h.2⟩
theorem look_some {M : List Nd} {s : Sq} (hb : s.left.okB = true) : rule_look.f (some M) s = some (if lookV M s then 0 else 31) := by
 unfold rule_look.f
 simp only [formula_Table_Not_neg.f, Option.bind_some, hb, chk, if_true, show (decide ((31 : Int) = 1)) = false from rfl, Bool.false_eq_true, if_false]
 rw [forE_find (p := fun (j : Nat) => decide ((M.length : Int) ≤ (j : Int))) (r := fun _ => (31 : Int))]
 ·have ha : (s.left.list.all fun j => decide (j < M.length)) = !(s.left.list.find? fun (j : Nat) => decide ((M.length : Int) ≤ (j : Int))).isSome := by
   rw [← any_find, List.all_eq_not_any_not]
   congr 2
   funext j
   by_cases hj : j < M.length
   ·have : ¬ (M.length : Int) ≤ j := by omega
    simp [hj, this]
   ·have : (M.length : Int) ≤ j := by omega
    simp [hj, this]
  unfold lookV
  rw [ha]
  cases s.left.list.find? fun (j : Nat) => decide ((M.length : Int) ≤ (j : Int)) with
  | some j => simp [fin]
  | none =>
   simp only [Option.bind_some, fin, Option.isSome_none, Bool.not_false, Bool.true_and, formula_Table_Len.f, Option.map_some]
   by_cases h0 : s.goal < 0
   ·have h1 : ¬ 0 ≤ s.goal := by omega
    simp [h0, inb, h1]
   ·have h1 : 0 ≤ s.goal := by omega
    by_cases h2 : (M.length : Int) ≤ s.goal
    ·have h3 : ¬ s.goal < M.length := by omega
     simp [h0, inb, h1, h2, h3]
    ·have h3 : s.goal < M.length := by omega
     simp [h0, inb, h1, h2, h3]
 ·intro x _
  simp only [rule_look.b0, formula_Table_Len.f, Option.map_some, Option.bind_some]
  split <;> rfl
theorem docRight {M : List Nd} {s : Sq} (hb : s.left.okB = true) : ref09_Right.f (some M) s = some (lookV M s) := by
 unfold ref09_Right.f
 simp only [ref05_List.f, hb, chk, if_true, Option.bind_some]
 generalize hl : s.left.list.map (fun (n : Nat) => (n : Int)) = l
 have h1 := forN_find (b := fun i s_1 => ref09_Right.b0 (some M) l i) (p := fun k => !inb (l.getD k 0) M.length) (r := fun _ => false) l.length 0 () (by
  intro k _ hk
  unfold ref09_Right.b0 at_
  rw [Int.toNat_natCast, docHas]
  simp only [Option.bind_some]
  split <;> rfl)
 have e0 : (((l.length : Nat) : Int) - 0).toNat = l.length := by omega
 rw [e0, show (0 : Int) = ((0 : Nat) : Int) from rfl, h1, docHas]
 have ha : (s.left.list.all fun j => decide (j < M.length)) = !((List.range' 0 l.length).find? fun k => !inb (l.getD k 0) M.length).isSome := by
  have h2 := find_idx l 0 (fun i => !inb i M.length)
  have h3 : (l.find? fun i => !inb i M.length).isSome = ((List.range' 0 l.length).find? fun k => !inb (l.getD k 0) M.length).isSome := by rw [h2]; simp
  rw [← h3, ← any_find, ← hl, List.any_map, List.all_eq_not_any_not]
  refine congrArg (fun q => !s.left.list.any q) (funext fun j => ?_)
  show (!decide (j < M.length)) = !inb (j : Int) M.length
  rw [inb_nat]
 unfold lookV
 rw [ha]
 cases (List.range' 0 l.length).find? fun k => !inb (l.getD k 0) M.length <;> simp [aft]
def choicesV (M : List Nd) (s : Sq) : List Int × List Int :=
 if (applyV M s).1 = 14 then
  ((if (nd M s.goal).kind = 4 then [11, 12] else []) ++ ((List.range M.length).filter fun (j : Nat) => s.left.has j && decide (onV M s.left j = 13)).map (fun _ => 13),
   (if (nd M s.goal).kind = 4 then [s.goal, s.goal] else []) ++ ((List.range M.length).filter fun (j : Nat) => s.left.has j && decide (onV M s.left j = 13)).map fun (j : Nat) => (j : Int))
 else ([], [])
theorem choices_some {M : List Nd} {s : Sq} (hM : M.length ≤ 1024) (hl : lookV M s = true) (hb : s.left.okB = true) : rule_Choices.f (some M) s = some ((choicesV M s).1, (choicesV M s).2, 0) := by
 have h := lookV_rt hb hl
 unfold rule_Choices.f choicesV
 simp only [look_some hb, hl, if_true, Option.bind_some, apply_some hM h, node_some, decide_eq_true_eq, ne_eq, not_true_eq_false, decide_false, Bool.false_eq_true, if_false]
 by_cases h14 : (applyV M s).1 = 14
 ·simp only [h14, not_true_eq_false, if_false, if_true]
  have hll : s.left.list.length ≤ 1024 := by
   unfold Bits.list
   exact Nat.le_trans (List.length_filter_le _ _) (by simp)
  have key : ∀ x y : List Int, x.length ≤ 2 → y.length ≤ 2 → forE (fun (x : Nat) (s_1 : List Int × List Int) => rule_Choices.b0 (some M) s (x : Int) s_1.1 s_1.2) s.left.list (x, y) =
    some (.inl (x ++ (s.left.list.filter fun (j : Nat) => decide (onV M s.left j = 13)).map (fun (j : Nat) => (j : Int)), y ++ (s.left.list.filter fun (j : Nat) => decide (onV M s.left j = 13)).map fun _ => 13)) := by
   intro x y hx hy
   refine forE_two _ 0 x y (fun j x y hj h1 h2 => ?_) (by omega) (by omega)
   unfold rule_Choices.b0
   simp only [on_some hb, Option.bind_some, chk, List.length_cons, List.length_nil, decide_eq_true_eq]
   by_cases h13 : onV M s.left j = 13
   ·have e1 : (x.length + (0 + 1)) * 8 ≤ 140737488355328 := by omega
    have e2 : (y.length + (0 + 1)) * 8 ≤ 140737488355328 := by omega
    simp only [h13, e1, e2, decide_true, if_true]
   ·simp only [h13, decide_false, if_false, Bool.false_eq_true]
  have hf : (s.left.list.filter fun (j : Nat) => decide (onV M s.left j = 13)) = (List.range M.length).filter fun (j : Nat) => s.left.has j && decide (onV M s.left j = 13) := by
   rw [list_eq hM h.left, List.filter_filter]
   exact congrArg (fun q => (List.range M.length).filter q) (funext fun j => Bool.and_comm _ _)
  by_cases h4 : (nd M s.goal).kind = 4
  ·simp only [h4, if_true, chk, List.length_nil, List.length_cons, Option.bind_some, hb, List.nil_append]
   simp only [show decide ((0 + (0 + 1 + 1)) * 8 ≤ 140737488355328) = true from rfl, if_true]
   simp only [Option.bind_some]
   rw [key _ _ (by simp) (by simp), hf]
   simp [fin]
  ·simp only [h4, if_false, Option.bind_some, hb, chk, if_true]
   rw [key _ _ (by simp) (by simp), hf]
   simp [fin]
 ·simp [h14]
theorem docChoices {M : List Nd} {s : Sq} (hw : Wf M) (h : Rt M s) : ref09_Choices.f (some M) s = some (choicesV M s) := by
 unfold ref09_Choices.f choicesV
 simp only [docApply hw h, Option.bind_some, docKind h.goal, decide_eq_true_eq, ne_eq]
 by_cases h14 : (applyV M s).1 = 14
 ·simp only [h14, not_true_eq_false, if_false, if_true, Option.isSome_some, Option.getD_some]
  have key : ∀ x y : List Int, x.length ≤ 2 → y.length ≤ 2 → forS (fun i (s_1 : List Int × List Int) => ref09_Choices.b0 (some M) s i s_1.1 s_1.2) M.length ((0 : Nat) : Int) (x, y) =
    some (x ++ ((List.range' 0 M.length).filter fun (j : Nat) => fitsV M s 13 j).map (fun _ => 13), y ++ ((List.range' 0 M.length).filter fun (j : Nat) => fitsV M s 13 j).map fun (j : Nat) => (j : Int)) := by
   intro x y hx hy
   refine forS_two (c := fun _ => 0) _ 0 x y (fun j x y h1 h2 h3 h4 => ?_) (by omega) (by omega)
   have := hw.len
   unfold ref09_Choices.b0
   simp only [docFits hw h.ok, Option.bind_some, chk, List.length_cons, List.length_nil, decide_eq_true_eq]
   cases fitsV M s 13 j with
   | true =>
    have e1 : (x.length + (0 + 1)) * 8 ≤ 140737488355328 := by omega
    have e2 : (y.length + (0 + 1)) * 8 ≤ 140737488355328 := by omega
    simp only [e1, e2, decide_true, if_true]
   | false => rfl
  have hf : ((List.range' 0 M.length).filter fun (j : Nat) => fitsV M s 13 j) = (List.range M.length).filter fun (j : Nat) => s.left.has j && decide (onV M s.left j = 13) := by
   rw [← List.range_eq_range']
   exact List.filter_congr fun j hj => fits_on (by decide) (List.mem_range.1 hj)
  have e0 : (((M.length : Nat) : Int) - 0).toNat = M.length := by omega
  by_cases h4 : (nd M s.goal).kind = 4
  ·simp only [h4, if_true, chk, List.length_nil, List.length_cons, Option.bind_some, List.nil_append]
   simp only [show decide ((0 + (0 + 1 + 1)) * 8 ≤ 140737488355328) = true from rfl, if_true]
   simp only [Option.bind_some]
   rw [e0, show (0 : Int) = ((0 : Nat) : Int) from rfl, key _ _ (by simp) (by simp), hf]
   simp
  ·simp only [h4, if_false, Option.bind_some, chk, if_true]
   rw [e0, show (0 : Int) = ((0 : Nat) : Int) from rfl, key _ _ (by simp) (by simp), hf]
   simp
 ·simp [h14]
end Go.Proofs.YtjjkhjieegmphaaDoor
end
section
namespace Go.Proofs.YtjjkhjieegmphaaDoor
open Gw
end Go.Proofs.YtjjkhjieegmphaaDoor
end
section
namespace Go.Proofs.YtjjkhjieegmphaaDoor
open Gw
theorem wrap_small {n : Int} (h : 0 ≤ n ∧ n < 9223372036854775808) : IntKind.i64.wrap n = n := by
 exact IntWalk.i64_in _ ⟨by omega, by omega⟩
theorem idx_find (n : Nd) : ∀ (N : List Nd) (s : Nat), (List.range' s N.length).find? (fun k => decide (N.getD (k - s) Nd.z = n)) = (N.idxOf? n).map (· + s)
 | [], s => rfl
 | a :: N, s => by
  rw [List.length_cons, List.range'_succ, List.find?_cons, List.idxOf?_cons]
  by_cases h : a = n
  ·simp [h]
  ·have h1 : (a == n) = false := by simpa using h
   have h2 : (List.range' (s + 1) N.length).find? (fun k => decide ((a :: N).getD (k - s) Nd.z = n)) = (List.range' (s + 1) N.length).find? (fun k => decide (N.getD (k - (s + 1)) Nd.z = n)) := find_congr fun k hk => by
    have hk := (List.mem_range'_1.1 hk).1
    rw [show k - s = (k - (s + 1)) + 1 by omega]; simp
   simp only [Nat.sub_self, List.getD_cons_zero, h, decide_false, h1, h2, idx_find n N (s + 1)]
   cases N.idxOf? n with
   | none => rfl
   | some k => simp; omega
theorem docFind (N : List Nd) (n : Nd) : ref03_T_Find.f (some N) n = some (match N.idxOf? n with | some k => ((k : Int), true) | none => (0, false)) := by
 unfold ref03_T_Find.f
 have h1 := forN_find (b := fun i s => ref03_T_Find.b0 (some N) n i) (p := fun k => decide (N.getD k Nd.z = n)) (r := fun k => ((k : Int), true)) N.length 0 () (by
  intro k _ hk
  unfold ref03_T_Find.b0 at_
  rw [Int.toNat_natCast, Option.getD_some]
  split <;> rfl)
 have e0 : (((N.length : Nat) : Int) - 0).toNat = N.length := by omega
 simp only [Option.isSome_some, Option.getD_some, chk, if_true, e0]
 rw [show (0 : Int) = ((0 : Nat) : Int) from rfl, h1]
 have h2 := idx_find n N 0
 simp only [Nat.sub_zero, Nat.add_zero] at h2
 rw [h2]
 cases N.idxOf? n <;> rfl
theorem bind_eq {α β : Type} {x : Option α} {y : α} {f : α → Option β} {r : Option β} (hx : x = some y) (h : f y = r) : x.bind f = r := by rw [hx]; exact h
theorem docPut {N : List Nd} {n : Nd} (hN : N.length ≤ 1024) (hn : n.name.size < 9223372036854775808) : ref03_T_Put.f (some N) n = some (some (putS N n).1, (putS N n).2.1, (putS N n).2.2) := by
 have hrow : ∀ i : Int, ref03_T_Has.f (some N) i = some (hasRow N i) := fun i => by simp [ref03_T_Has.f, chk, hasRow]
 have hend : ((ref03_T_Find.f (some N) n).bind fun r25 => if r25.2 then some (some N, r25.1, 0) else chk (some N).isSome (if decide (1024 ≤ ((((some N).getD []).length : Nat) : Int)) then some ((some ((some N).getD [])), 0, 30) else chk (decide ((((some N).getD []).length + 1) * 40 ≤ 140737488355328)) (some ((some (((some N).getD []) ++ [n])), IntKind.i64.wrap (((((some N).getD []) ++ [n]).length : Int) - 1), 0)))) =
   (match N.idxOf? n with | some k => some (some N, (k : Int), (0 : Int)) | none => if 1024 ≤ N.length then some (some N, 0, 30) else some (some (N ++ [n]), (N.length : Int), 0)) := by
  rw [docFind]
  cases N.idxOf? n with
  | some k => rfl
  | none =>
   simp only [Option.bind_some, Bool.false_eq_true, if_false, Option.isSome_some, Option.getD_some, chk, if_true, decide_eq_true_eq]
   by_cases h : 1024 ≤ N.length
   ·have h1 : (1024 : Int) ≤ (N.length : Int) := by omega
    simp only [h, h1, if_true]
   ·have h1 : ¬ (1024 : Int) ≤ (N.length : Int) := by omega
    have h2 : (N.length + 1) * 40 ≤ 140737488355328 := by omega
    have h3 : IntKind.i64.wrap (((N ++ [n]).length : Int) - 1) = (N.length : Int) := by
     rw [wrap_small (by simp; omega)]; simp
    simp only [h, h1, h2, h3, if_true, if_false]
 unfold ref03_T_Put.f
 refine bind_eq (y := if fitsS N n = 0 then .inl (some N) else .inr (some N, 0, fitsS N n)) ?_ ?_
 ·unfold fitsS
  simp only [hrow, ref03_Word.f, hn, chk, decide_true, if_true, Option.bind_some]
  by_cases k1 : n.kind = 1
  ·simp only [k1, decide_true, if_true]
   by_cases hl : n.l = 0
   ·by_cases hr : n.r = 0
    ·by_cases hw : isWord n.name <;> simp [hl, hr, hw]
    ·simp [hl, hr]
   ·simp [hl]
  by_cases k2 : n.kind = 2
  ·have e : (n = { Nd.z with kind := 2 }) ↔ (n.name = ⟨#[]⟩ ∧ n.l = 0 ∧ n.r = 0) := by
    constructor
    ·intro h; rw [h]; exact ⟨rfl, rfl, rfl⟩
    ·rintro ⟨h1, h2, h3⟩
     obtain ⟨a, b, c, d⟩ := n
     simp only at k2 h1 h2 h3
     subst k2 h1 h2 h3; rfl
   simp only [k2, decide_true, if_true, show ¬ ((2 : Int) = 1) by decide, decide_false, Bool.false_eq_true, if_false, e]
   by_cases hm : n.name = ⟨#[]⟩
   ·by_cases hl : n.l = 0
    ·by_cases hr : n.r = 0 <;> simp [hm, hl, hr]
    ·simp [hm, hl]
   ·simp [hm]
  by_cases k3 : n.kind = 3 ∨ n.kind = 4 ∨ n.kind = 5
  ·have ho : ((if decide (n.kind = 3) = true then some (decide (n.kind = 3)) else if decide (n.kind = 4) = true then some (decide (n.kind = 4)) else some (decide (n.kind = 5))) : Option Bool) = some true := by
    rcases k3 with k | k | k <;> simp [k]
   simp only [k1, k2, k3, decide_false, Bool.false_eq_true, if_false, if_true]
   simp only [decide_eq_true_eq] at ho ⊢
   rw [ho]
   simp only [Option.bind_some, if_true]
   by_cases hm : n.name = ⟨#[]⟩
   ·cases hl : hasRow N n.l with
    | false => simp [hm, hl]
    | true => cases hr : hasRow N n.r <;> simp [hm, hl, hr]
   ·simp [hm]
  ·have ho : ((if decide (n.kind = 3) = true then some (decide (n.kind = 3)) else if decide (n.kind = 4) = true then some (decide (n.kind = 4)) else some (decide (n.kind = 5))) : Option Bool) = some false := by
    simp only [not_or] at k3; simp [k3.1, k3.2.1, k3.2.2]
   simp only [k1, k2, k3, decide_false, Bool.false_eq_true, if_false, if_true]
   simp only [decide_eq_true_eq] at ho ⊢
   rw [ho]
   simp
 ·by_cases hf : fitsS N n = 0
  ·rw [if_pos hf]
   refine Eq.trans (show _ = _ from hend) ?_
   unfold putS
   rw [if_pos hf]
   cases N.idxOf? n with
   | some k => rfl
   | none =>
    by_cases h : 1024 ≤ N.length
    ·simp only [if_pos h]
    ·simp only [if_neg h]
  ·rw [if_neg hf, put_bad hf]; rfl
theorem progPut {N : List Nd} {n : Nd} (hn : n.name.size < 9223372036854775808) : formula_Table_Put.f (some N) n = some (some (putS N n).1, (putS N n).2.1, (putS N n).2.2) := by
 simp [formula_Table_Put.f, chk, hn]
theorem rows_take {M : List Nd} {i : Nat} (hi : i < M.length) : at_ Nd.z M i = M[i] := by
 unfold at_; rw [Int.toNat_natCast, List.getD_eq_getElem?_getD, List.getElem?_eq_getElem hi]; rfl
theorem wf_push {N : List Nd} {n : Nd} (h : Wf N) (hf : fitsS N n = 0) (hl : N.length < 1024) (hnew : n ∉ N) : Wf (N ++ [n]) := by
 have hnd : ∀ i : Int, inb i N.length = true → nd (N ++ [n]) i = nd N i := by
  intro i hi
  have h1 := inb_ex hi
  unfold nd nodeS hasRow
  have h2 : i.toNat < N.length := by omega
  rw [if_pos (by simp; omega), if_pos (by simp; omega)]
  simp only
  rw [List.getD_eq_getElem?_getD, List.getElem?_append_left h2, ← List.getD_eq_getElem?_getD]
 have hlast : nd (N ++ [n]) N.length = n := by
  unfold nd nodeS hasRow
  rw [if_pos (by simp; omega)]
  simp
 have hsplit : ∀ i : Int, inb i (N ++ [n]).length = true → inb i N.length = true ∨ i = N.length := by
  intro i hi
  have := inb_ex hi
  simp at this
  simp only [inb, Bool.and_eq_true, decide_eq_true_eq]; omega
 have hkind : n.kind = 1 ∨ n.kind = 2 ∨ n.kind = 3 ∨ n.kind = 4 ∨ n.kind = 5 := by
  unfold fitsS at hf
  by_cases k1 : n.kind = 1
  ·exact .inl k1
  by_cases k2 : n.kind = 2
  ·exact .inr (.inl k2)
  by_cases k3 : n.kind = 3 ∨ n.kind = 4 ∨ n.kind = 5
  ·exact .inr (.inr k3)
  ·simp [k1, k2, k3] at hf
 refine ⟨by simp; omega, by rw [List.nodup_append]; exact ⟨h.nodup, by simp, fun a ha b hb e => hnew (by rw [← List.mem_singleton.1 hb, ← e]; exact ha)⟩, fun i hi => ?_, fun i hi hk => ?_⟩
 ·rcases hsplit i hi with h1 | rfl
  ·rw [hnd i h1]; exact h.kind i h1
  ·rw [hlast]; exact hkind
 ·rcases hsplit i hi with h1 | rfl
  ·rw [hnd i h1] at hk ⊢; exact h.kids i h1 hk
  ·rw [hlast] at hk ⊢
   unfold fitsS at hf
   have k1 : ¬ n.kind = 1 := by omega
   have k2 : ¬ n.kind = 2 := by omega
   rw [if_neg k1, if_neg k2, if_pos hk] at hf
   split at hf
   ·simp at hf
   ·rename_i hh
    simp only [not_or, Bool.not_eq_false] at hh
    obtain ⟨⟨_, h1⟩, h2⟩ := hh
    simp only [hasRow, Bool.and_eq_true, decide_eq_true_eq] at h1 h2
    exact ⟨h1, h2⟩
theorem from_some {rows : List Nd} (hn : ∀ n ∈ rows, n.name.size < 9223372036854775808) : ∃ r : Tb × Int, ref03_From.f rows = some r ∧ formula_From.f rows = some r ∧ (r.2 = 0 → r.1 = some rows ∧ Wf rows) := by
 have hstep : ∀ (N : List Nd) (i : Nat), i < rows.length → N.length ≤ 1024 → ref03_From.b0 rows i (some N) = some (if (putS N (at_ Nd.z rows i)).2.2 ≠ 0 then .ret (none, (putS N (at_ Nd.z rows i)).2.2) else if (putS N (at_ Nd.z rows i)).2.1 ≠ i then .ret (none, 31) else .go (some (putS N (at_ Nd.z rows i)).1)) ∧
   formula_From.b0 rows i (some N) = ref03_From.b0 rows i (some N) := by
  intro N i hi hN
  have hm : (at_ Nd.z rows i).name.size < 9223372036854775808 := by rw [rows_take hi]; exact hn _ (List.getElem_mem hi)
  have h1 : ref03_From.b0 rows i (some N) = some (if (putS N (at_ Nd.z rows i)).2.2 ≠ 0 then .ret (none, (putS N (at_ Nd.z rows i)).2.2) else if (putS N (at_ Nd.z rows i)).2.1 ≠ i then .ret (none, 31) else .go (some (putS N (at_ Nd.z rows i)).1)) := by
   unfold ref03_From.b0
   rw [docPut hN hm]
   simp only [Option.bind_some, decide_eq_true_eq]
   split
   ·rfl
   ·split <;> rfl
  refine ⟨h1, ?_⟩
  rw [h1]
  unfold formula_From.b0
  rw [progPut hm]
  simp only [Option.bind_some]
  by_cases e : (putS N (at_ Nd.z rows i)).2.2 = 0
  ·by_cases e2 : (putS N (at_ Nd.z rows i)).2.1 = i
   ·simp [e, e2]
   ·simp [e, e2]
  ·simp [e]
 have main : ∀ (n i : Nat), i + n = rows.length → i ≤ 1024 → Wf (rows.take i) → ∃ o, forN (fun j s => ref03_From.b0 rows j s) n i (some (rows.take i)) = some o ∧ forN (fun j s => formula_From.b0 rows j s) n i (some (rows.take i)) = some o ∧
   ((∃ e, e ≠ 0 ∧ o = .inr (none, e)) ∨ (o = .inl (some rows) ∧ Wf rows)) := by
  intro n
  induction n with
  | zero =>
   intro i hi _ hw
   rw [List.take_of_length_le (by omega)] at hw ⊢
   exact ⟨_, rfl, rfl, .inr ⟨rfl, hw⟩⟩
  | succ n ih =>
   intro i hi hle hw
   have hil : i < rows.length := by omega
   have hlen : (rows.take i).length = i := by simp; omega
   obtain ⟨h1, h2⟩ := hstep (rows.take i) i hil (by omega)
   simp only [forN]
   rw [h2, h1]
   by_cases e : (putS (rows.take i) (at_ Nd.z rows i)).2.2 = 0
   ·by_cases e2 : (putS (rows.take i) (at_ Nd.z rows i)).2.1 = i
    ·simp only [e, e2, ne_eq, not_true_eq_false, if_false, Option.bind_some]
     have hput : fitsS (rows.take i) (at_ Nd.z rows i) = 0 ∧ i < 1024 ∧ at_ Nd.z rows i ∉ rows.take i ∧ (putS (rows.take i) (at_ Nd.z rows i)).1 = rows.take i ++ [at_ Nd.z rows i] := by
      by_cases hf : fitsS (rows.take i) (at_ Nd.z rows i) = 0
      ·cases hk : (rows.take i).idxOf? (at_ Nd.z rows i) with
       | some k =>
        rw [put_old hf hk] at e2
        have : k < (rows.take i).length := by
         have := List.idxOf?_eq_some_iff.1 hk
         exact this.1
        simp only at e2; omega
       | none =>
        by_cases hl : 1024 ≤ (rows.take i).length
        ·rw [put_full hf hk hl] at e; simp at e
        ·rw [put_new hf hk hl]
         exact ⟨hf, by omega, List.idxOf?_eq_none_iff.1 hk, rfl⟩
      ·rw [put_bad hf] at e; exact absurd e hf
     obtain ⟨hf, hlt, hnew, hp⟩ := hput
     have ht : rows.take i ++ [at_ Nd.z rows i] = rows.take (i + 1) := by
      rw [rows_take hil, List.take_succ_eq_append_getElem hil]
     rw [hp, ht]
     have := ih (i + 1) (by omega) (by omega) (by rw [← ht]; exact wf_push hw hf (by omega) hnew)
     simpa using this
    ·simp only [e, e2, ne_eq, not_true_eq_false, not_false_eq_true, if_false, if_true, Option.bind_some]
     exact ⟨_, rfl, rfl, .inl ⟨31, by decide, rfl⟩⟩
   ·simp only [e, ne_eq, not_false_eq_true, if_true, Option.bind_some]
    exact ⟨_, rfl, rfl, .inl ⟨_, e, rfl⟩⟩
 have e0 : (((rows.length : Nat) : Int) - 0).toNat = rows.length := by omega
 obtain ⟨o, h1, h2, h3⟩ := main rows.length 0 (by omega) (by omega) ⟨by simp, by simp, fun i hi => absurd (inb_ex hi) (by simp), fun i hi => absurd (inb_ex hi) (by simp)⟩
 unfold ref03_From.f formula_From.f formula_New.f
 rw [e0]
 simp only [Option.bind_some]
 rw [show (0 : Int) = ((0 : Nat) : Int) from rfl]
 rw [List.take_zero] at h1 h2
 rw [h1, h2]
 rcases h3 with ⟨e, he, rfl⟩ | ⟨rfl, hw⟩
 ·exact ⟨_, rfl, rfl, fun q => absurd q he⟩
 ·exact ⟨_, rfl, rfl, fun _ => ⟨rfl, hw⟩⟩
theorem ints_self (l : List Int) : ref03_Ints.f l l = some true := by
 unfold ref03_Ints.f
 have h1 := forN_find (b := fun i s => ref03_Ints.b0 l l i) (p := fun _ => false) (r := fun _ => false) l.length 0 () (by
  intro k _ hk
  unfold ref03_Ints.b0
  rw [inb_nat]
  simp [chk]
  omega)
 have e0 : (((l.length : Nat) : Int) - 0).toNat = l.length := by omega
 rw [e0, show (0 : Int) = ((0 : Nat) : Int) from rfl, h1, show (List.range' 0 l.length).find? (fun _ => false) = none from List.find?_eq_none.2 (by simp), if_neg (by simp)]
 rfl
theorem same_self (l : List Nd) : ref03_Same.f l l = some true := by
 unfold ref03_Same.f
 have h1 := forN_find (b := fun i s => ref03_Same.b0 l l i) (p := fun _ => false) (r := fun _ => false) l.length 0 () (by
  intro k _ hk
  unfold ref03_Same.b0
  rw [inb_nat]
  simp [chk]
  omega)
 have e0 : (((l.length : Nat) : Int) - 0).toNat = l.length := by omega
 rw [e0, show (0 : Int) = ((0 : Nat) : Int) from rfl, h1, show (List.range' 0 l.length).find? (fun _ => false) = none from List.find?_eq_none.2 (by simp), if_neg (by simp)]
 rfl
theorem like_self (M : List Nd) : law03_Like.f (some M) (some M) = some true := by
 simp [law03_Like.f, chk, formula_Table_Rows.f, same_self, formula_Table_Len.f]
theorem both_some {rows : List Nd} (hn : ∀ n ∈ rows, n.name.size < 9223372036854775808) (hl : rows.length * 40 ≤ 140737488355328) : law03_Both.f rows = some (none, none, false) ∨ (law03_Both.f rows = some (some rows, some rows, true) ∧ Wf rows) := by
 obtain ⟨r, h1, h2, h3⟩ := from_some hn
 have hc : (([] : List Nd).length + rows.length) * 40 ≤ 140737488355328 := by rw [List.length_nil, Nat.zero_add]; exact hl
 unfold law03_Both.f
 rw [chk, if_pos (decide_eq_true hc), h1]
 simp only [Option.bind_some, List.nil_append, h2]
 by_cases e : r.2 = 0
 ·obtain ⟨h4, hw⟩ := h3 e
  exact .inr ⟨by rw [h4]; simp [e], hw⟩
 ·exact .inl (by simp [e])
theorem Apply_some {M : List Nd} {s : Sq} (hM : M.length ≤ 1024) (hb : s.left.okB = true) : rule_Apply.f (some M) s = some (if lookV M s then ((applyV M s).1, (applyV M s).2, 0) else (0, 0, 31)) := by
 unfold rule_Apply.f
 rw [look_some hb]
 cases hl : lookV M s with
 | true => simp [apply_some hM (lookV_rt hb hl)]
 | false => simp
end Go.Proofs.YtjjkhjieegmphaaDoor
end
section
namespace Go.Proofs.YtjjkhjieegmphaaDoor
open Gw
end Go.Proofs.YtjjkhjieegmphaaDoor
end
section
namespace Go.Proofs.YtjjkhjieegmphaaDoor
open Gw
theorem okB_add {b : Bits} (n : Int) : (b.add n).okB = true := Bits.ok_okB (Bits.add_ok _ _)
theorem okB_del {b : Bits} (n : Int) : (b.del n).okB = true := Bits.ok_okB (Bits.del_ok _ _)
theorem union_one {b : Bits} {x : Int} (hx : 0 ≤ x ∧ x < 1024) : b.union (Bits.ofs [x]).1 = b.add x := by
 refine Bits.eq_of_has (Bits.union_ok _ _) (Bits.add_ok _ _) fun m hm => ?_
 rw [Bits.union_has, Bits.add_has _ _ _ hx]
 unfold Bits.ofs
 rw [if_pos (by simpa using hx), show Bits.ofl [x] = Bits.z.add x from rfl, Bits.add_has _ _ _ hx, Bits.z_has, Bool.or_false, Bool.or_comm]
theorem union_two {b : Bits} {x y : Int} (hx : 0 ≤ x ∧ x < 1024) (hy : 0 ≤ y ∧ y < 1024) : b.union (Bits.ofs [x, y]).1 = (b.add x).add y := by
 refine Bits.eq_of_has (Bits.union_ok _ _) (Bits.add_ok _ _) fun m hm => ?_
 rw [Bits.union_has, Bits.add_has _ _ _ hy, Bits.add_has _ _ _ hx]
 unfold Bits.ofs
 rw [if_pos (by intro n hn; rcases List.mem_cons.1 hn with rfl | hn; exact hx; rw [List.mem_singleton.1 hn]; exact hy), show Bits.ofl [x, y] = (Bits.z.add x).add y from rfl, Bits.add_has _ _ _ hy, Bits.add_has _ _ _ hx, Bits.z_has, Bool.or_false]
 cases b.has m <;> simp
theorem add_add {b : Bits} {x : Int} (hx : 0 ≤ x ∧ x < 1024) : (b.add x).add x = b.add x := by
 refine Bits.eq_of_has (Bits.add_ok _ _) (Bits.add_ok _ _) fun m hm => ?_
 rw [Bits.add_has _ _ _ hx, Bits.add_has _ _ _ hx]
 cases b.has m <;> simp
theorem withP1 {s : Sq} {x : Int} (hb : s.left.okB = true) (hx : 0 ≤ x ∧ x < 1024) : rule_with.f s [x] = some { s with left := s.left.add x } := by
 unfold rule_with.f bits_Of.f bits_Union.f
 simp only [Option.bind_some]
 rw [chk, if_pos (by rw [hb, Bits.ok_okB (Bits.ofs_ok _)]; rfl), union_one hx]; rfl
theorem withP2 {s : Sq} {x y : Int} (hb : s.left.okB = true) (hx : 0 ≤ x ∧ x < 1024) (hy : 0 ≤ y ∧ y < 1024) : rule_with.f s [x, y] = some { s with left := (s.left.add x).add y } := by
 unfold rule_with.f bits_Of.f bits_Union.f
 simp only [Option.bind_some]
 rw [chk, if_pos (by rw [hb, Bits.ok_okB (Bits.ofs_ok _)]; rfl), union_two hx hy]; rfl
theorem withD2 {s : Sq} {x y : Int} (hb : s.left.okB = true) (hx : 0 ≤ x ∧ x < 1024) (hy : 0 ≤ y ∧ y < 1024) : ref09_with.f s x y = some { s with left := (s.left.add x).add y } := by
 have h1 : ref05_With.f s.left x = some (s.left.add x) := by
  unfold ref05_With.f
  rw [chk, if_pos]
  rw [hb, decide_eq_true hx.1, decide_eq_true hx.2]; rfl
 have h2 : ref05_With.f (s.left.add x) y = some ((s.left.add x).add y) := by
  unfold ref05_With.f
  rw [chk, if_pos]
  rw [okB_add, decide_eq_true hy.1, decide_eq_true hy.2]; rfl
 unfold ref09_with.f
 rw [h1, Option.bind_some, h2, Option.bind_some]
theorem withD1 {s : Sq} {x : Int} (hb : s.left.okB = true) (hx : 0 ≤ x ∧ x < 1024) : ref09_with.f s x x = some { s with left := s.left.add x } := by
 rw [withD2 hb hx hx, add_add hx]
theorem withP1m {B : Bits} {g x : Int} (hb : B.okB = true) (hx : 0 ≤ x ∧ x < 1024) : rule_with.f ⟨B, g⟩ [x] = some ⟨B.add x, g⟩ := withP1 (s := ⟨B, g⟩) hb hx
theorem withP2m {B : Bits} {g x y : Int} (hb : B.okB = true) (hx : 0 ≤ x ∧ x < 1024) (hy : 0 ≤ y ∧ y < 1024) : rule_with.f ⟨B, g⟩ [x, y] = some ⟨(B.add x).add y, g⟩ := withP2 (s := ⟨B, g⟩) hb hx hy
theorem withD1m {B : Bits} {g x : Int} (hb : B.okB = true) (hx : 0 ≤ x ∧ x < 1024) : ref09_with.f ⟨B, g⟩ x x = some ⟨B.add x, g⟩ := withD1 (s := ⟨B, g⟩) hb hx
theorem withD2m {B : Bits} {g x y : Int} (hb : B.okB = true) (hx : 0 ≤ x ∧ x < 1024) (hy : 0 ≤ y ∧ y < 1024) : ref09_with.f ⟨B, g⟩ x y = some ⟨(B.add x).add y, g⟩ := withD2 (s := ⟨B, g⟩) hb hx hy
theorem both1 {B : Bits} {g x : Int} (hb : B.okB = true) (hx : 0 ≤ x ∧ x < 1024) : ∃ q, rule_with.f ⟨B, g⟩ [x] = some q ∧ ref09_with.f ⟨B, g⟩ x x = some q := ⟨_, withP1m hb hx, withD1m hb hx⟩
theorem both2 {B : Bits} {g x y : Int} (hb : B.okB = true) (hx : 0 ≤ x ∧ x < 1024) (hy : 0 ≤ y ∧ y < 1024) : ∃ q, rule_with.f ⟨B, g⟩ [x, y] = some q ∧ ref09_with.f ⟨B, g⟩ x y = some q := ⟨_, withP2m hb hx hy, withD2m hb hx hy⟩
theorem put_props {N : List Nd} {n : Nd} (hN : N.length ≤ 1024) (hd : N.Nodup) : ((putS N n).2.2 ≠ 0 → (putS N n).1 = N) ∧ ((putS N n).2.2 = 0 → 0 ≤ (putS N n).2.1 ∧ (putS N n).2.1 < 1024) ∧ (putS N n).1.take N.length = N ∧ (putS N n).1.Nodup ∧ (putS N n).1.length ≤ 1024 ∧ N.length ≤ (putS N n).1.length := by
 by_cases hf : fitsS N n = 0
 ·cases hk : N.idxOf? n with
  | some k =>
   rw [put_old hf hk]
   have := (List.idxOf?_eq_some_iff.1 hk).1
   exact ⟨fun h => absurd rfl h, fun _ => ⟨by simp, by simp; omega⟩, by simp, hd, hN, Nat.le_refl _⟩
  | none =>
   by_cases hl : 1024 ≤ N.length
   ·rw [put_full hf hk hl]
    exact ⟨fun _ => rfl, fun h => absurd h (by simp), by simp, hd, hN, Nat.le_refl _⟩
   ·rw [put_new hf hk hl]
    refine ⟨fun h => absurd rfl h, fun _ => ⟨by simp, by simp; omega⟩, by simp, ?_, by simp; omega, by simp⟩
    rw [List.nodup_append]
    refine ⟨hd, by simp, fun a ha b hb e => ?_⟩
    rw [List.mem_singleton.1 hb] at e
    subst e
    have := List.idxOf?_eq_none_iff.1 hk
    exact this ha
 ·rw [put_bad hf]
  exact ⟨fun _ => rfl, fun h => absurd h hf, by simp, hd, hN, Nat.le_refl _⟩
theorem impP (N : List Nd) (a b : Int) : formula_Table_Imp.f (some N) a b = some (some (putS N (impN a b)).1, (putS N (impN a b)).2.1, (putS N (impN a b)).2.2) := rfl
theorem impD {N : List Nd} (hN : N.length ≤ 1024) (a b : Int) : ref03_T_Imp.f (some N) a b = some (some (putS N (impN a b)).1, (putS N (impN a b)).2.1, (putS N (impN a b)).2.2) := by
 unfold ref03_T_Imp.f ref03_T_Two.f
 rw [docPut hN (by show (ByteArray.empty).size < _; decide)]
 rfl
theorem cutP {N M : List Nd} (h1 : N.take M.length = M) (h2 : N.Nodup) (h3 : M.length ≤ N.length) : formula_Table_Cut.f (some N) (M.length : Int) = some (some M, 0) := by
 unfold formula_Table_Cut.f
 have h4 : ¬ (M.length : Int) < 0 := by omega
 have h5 : ¬ (N.length : Int) < (M.length : Int) := by omega
 simp [h4, h5, chk, h2, h1]
theorem cutD {N M : List Nd} (h1 : N.take M.length = M) (h3 : M.length ≤ N.length) : ref03_T_Cut.f (some N) (M.length : Int) = some (some M, 0) := by
 unfold ref03_T_Cut.f
 have h4 : ¬ (M.length : Int) < 0 := by omega
 have h5 : ¬ (N.length : Int) < (M.length : Int) := by omega
 have h6 : 0 ≤ (M.length : Int) ∧ (M.length : Int) ≤ (N.length : Int) := by omega
 simp [h4, h5, chk, h6, h1]
def Agree (M : List Nd) (s : Sq) (r i : Int) : Prop := ∃ (M' : List Nd) (L : List Sq) (e : Int), rule_Premises.f (some M) s r i = some (some M', L, e) ∧ ref09_Premises.f (some M) s r i = some (some M', L, e)
theorem in1024 {M : List Nd} {i : Int} (hM : M.length ≤ 1024) (h : inb i M.length = true) : 0 ≤ i ∧ i < 1024 := by have := inb_ex h; omega
theorem on_cases {M : List Nd} {b : Bits} {i r : Int} (h : onV M b i = r) (h0 : r ≠ 0) : (r = 1 ∧ (nd M i).kind = 2) ∨ (r = 3 ∧ (nd M i).kind = 3) ∨ (r = 10 ∧ (nd M i).kind = 4) ∨ ((nd M i).kind = 5 ∧ ((r = 4 ∧ (nd M (nd M i).l).kind = 1) ∨ (r = 5 ∧ (nd M (nd M i).l).kind = 2) ∨ (r = 6 ∧ (nd M (nd M i).l).kind = 3) ∨ (r = 7 ∧ (nd M (nd M i).l).kind = 4) ∨ (r = 13 ∧ (nd M (nd M i).l).kind = 5))) := by
 by_cases k2 : (nd M i).kind = 2
 ·rw [onV, if_pos k2] at h; exact .inl ⟨h.symm, k2⟩
 by_cases k3 : (nd M i).kind = 3
 ·rw [onV, if_neg k2, if_pos k3] at h; exact .inr (.inl ⟨h.symm, k3⟩)
 by_cases k4 : (nd M i).kind = 4
 ·rw [onV, if_neg k2, if_neg k3, if_pos k4] at h; exact .inr (.inr (.inl ⟨h.symm, k4⟩))
 by_cases k5 : (nd M i).kind = 5
 ·rw [onV, if_neg k2, if_neg k3, if_neg k4, if_pos k5] at h
  refine .inr (.inr (.inr ⟨k5, ?_⟩))
  by_cases c1 : (nd M (nd M i).l).kind = 1
  ·rw [if_pos c1] at h
   split at h
   ·exact .inl ⟨h.symm, c1⟩
   ·exact absurd h.symm h0
  rw [if_neg c1] at h
  by_cases c2 : (nd M (nd M i).l).kind = 2
  ·rw [if_pos c2] at h; exact .inr (.inl ⟨h.symm, c2⟩)
  rw [if_neg c2] at h
  by_cases c3 : (nd M (nd M i).l).kind = 3
  ·rw [if_pos c3] at h; exact .inr (.inr (.inl ⟨h.symm, c3⟩))
  rw [if_neg c3] at h
  by_cases c4 : (nd M (nd M i).l).kind = 4
  ·rw [if_pos c4] at h; exact .inr (.inr (.inr (.inl ⟨h.symm, c4⟩)))
  rw [if_neg c4] at h
  by_cases c5 : (nd M (nd M i).l).kind = 5
  ·rw [if_pos c5] at h; exact .inr (.inr (.inr (.inr ⟨h.symm, c5⟩)))
  rw [if_neg c5] at h
  exact absurd h.symm h0
 ·rw [onV, if_neg k2, if_neg k3, if_neg k4, if_neg k5] at h; exact absurd h.symm h0
theorem fits_cases {M : List Nd} {s : Sq} {r i : Int} (h : fitsV M s r i = true) : inb i M.length = true ∧ (r = 2 ∨ (r = 8 ∧ (nd M i).kind = 5) ∨ (r = 9 ∧ (nd M i).kind = 3) ∨ ((r = 11 ∨ r = 12) ∧ (nd M i).kind = 4) ∨ (r = 1 ∧ (nd M i).kind = 2) ∨ (r = 3 ∧ (nd M i).kind = 3) ∨ (r = 10 ∧ (nd M i).kind = 4) ∨ ((nd M i).kind = 5 ∧ ((r = 4 ∧ (nd M (nd M i).l).kind = 1) ∨ (r = 5 ∧ (nd M (nd M i).l).kind = 2) ∨ (r = 6 ∧ (nd M (nd M i).l).kind = 3) ∨ (r = 7 ∧ (nd M (nd M i).l).kind = 4) ∨ (r = 13 ∧ (nd M (nd M i).l).kind = 5)))) := by
 unfold fitsV at h
 cases hi : inb i M.length with
 | false => simp [hi] at h
 | true =>
  refine ⟨rfl, ?_⟩
  simp only [hi, Bool.true_eq_false, if_false] at h
  split at h
  ·exact .inl ‹_›
  split at h
  ·simp only [Bool.and_eq_true, decide_eq_true_eq] at h; exact .inr (.inl ⟨‹_›, h.2⟩)
  split at h
  ·simp only [Bool.and_eq_true, decide_eq_true_eq] at h; exact .inr (.inr (.inl ⟨‹_›, h.2⟩))
  split at h
  ·simp only [Bool.and_eq_true, decide_eq_true_eq] at h; exact .inr (.inr (.inr (.inl ⟨‹_›, h.2⟩)))
  ·simp only [Bool.and_eq_true, decide_eq_true_eq, ne_eq] at h
   exact .inr (.inr (.inr (.inr (on_cases h.2 h.1.1))))
theorem prem_2 {M : List Nd} {s : Sq} {i : Int} (hw : Wf M) (hl : lookV M s = true) (hb : s.left.okB = true) (hf : fitsV M s 2 i = true) (hi : inb i M.length = true) : Agree M s 2 i := by
 have h := lookV_rt hb hl
 have hd := hw.nodup
 unfold Agree
 have hP : ∀ M' L, rule_premises.f (some M) s 2 i = some (some M', L, 0) → rule_Premises.f (some M) s 2 i = some (some M', L, 0) := by
  intro M' L e
  simp [rule_Premises.f, look_some hb, hl, fits_some hb, hf, formula_Table_Len.f, e]
 have hE : ∀ N L e, e ≠ 0 → rule_premises.f (some M) s 2 i = some (some N, L, e) → N.take M.length = M → N.Nodup → M.length ≤ N.length → rule_Premises.f (some M) s 2 i = some (some M, [], e) := by
  intro N L e he e1 h1 h2 h3
  simp [rule_Premises.f, look_some hb, hl, fits_some hb, hf, formula_Table_Len.f, e1, he, cutP h1 h2 h3]
 have hbd : ({ s with left := s.left.del i } : Sq).left.okB = true := okB_del i
 have k345 : (nd M i).kind = 3 ∨ (nd M i).kind = 4 ∨ (nd M i).kind = 5 → (0 ≤ (nd M i).l ∧ (nd M i).l < 1024) ∧ (0 ≤ (nd M i).r ∧ (nd M i).r < 1024) := fun k => ⟨in1024 hw.len (hw.left hi k), in1024 hw.len (hw.right hi k)⟩
 exact ⟨M, [], 0, hP _ _ (by simp -implicitDefEqProofs [rule_premises.f, node_some, bits_Drop.f, chk, hb]), by simp -implicitDefEqProofs [ref09_Premises.f, docFits hw hb, hf, chk, hi, nd_at hi, ref05_Drop.f, hb]⟩
theorem prem_8 {M : List Nd} {s : Sq} {i : Int} (hw : Wf M) (hl : lookV M s = true) (hb : s.left.okB = true) (hf : fitsV M s 8 i = true) (hi : inb i M.length = true) (k : (nd M i).kind = 5) : Agree M s 8 i := by
 have h := lookV_rt hb hl
 have hd := hw.nodup
 unfold Agree
 have hP : ∀ M' L, rule_premises.f (some M) s 8 i = some (some M', L, 0) → rule_Premises.f (some M) s 8 i = some (some M', L, 0) := by
  intro M' L e
  simp [rule_Premises.f, look_some hb, hl, fits_some hb, hf, formula_Table_Len.f, e]
 have hE : ∀ N L e, e ≠ 0 → rule_premises.f (some M) s 8 i = some (some N, L, e) → N.take M.length = M → N.Nodup → M.length ≤ N.length → rule_Premises.f (some M) s 8 i = some (some M, [], e) := by
  intro N L e he e1 h1 h2 h3
  simp [rule_Premises.f, look_some hb, hl, fits_some hb, hf, formula_Table_Len.f, e1, he, cutP h1 h2 h3]
 have hbd : ({ s with left := s.left.del i } : Sq).left.okB = true := okB_del i
 have k345 : (nd M i).kind = 3 ∨ (nd M i).kind = 4 ∨ (nd M i).kind = 5 → (0 ≤ (nd M i).l ∧ (nd M i).l < 1024) ∧ (0 ≤ (nd M i).r ∧ (nd M i).r < 1024) := fun k => ⟨in1024 hw.len (hw.left hi k), in1024 hw.len (hw.right hi k)⟩
 obtain ⟨hx, hy⟩ := k345 (.inr (.inr k))
 exact ⟨M, _, 0, hP _ _ (by simp -implicitDefEqProofs [rule_premises.f, node_some, bits_Drop.f, chk, hb, withP1 hb hx, rule_to.f]; rfl), by simp -implicitDefEqProofs [ref09_Premises.f, docFits hw hb, hf, chk, hi, nd_at hi, ref05_Drop.f, hb, withD1 hb hx, ref09_to.f]⟩
theorem prem_9 {M : List Nd} {s : Sq} {i : Int} (hw : Wf M) (hl : lookV M s = true) (hb : s.left.okB = true) (hf : fitsV M s 9 i = true) (hi : inb i M.length = true) (k : (nd M i).kind = 3) : Agree M s 9 i := by
 have h := lookV_rt hb hl
 have hd := hw.nodup
 unfold Agree
 have hP : ∀ M' L, rule_premises.f (some M) s 9 i = some (some M', L, 0) → rule_Premises.f (some M) s 9 i = some (some M', L, 0) := by
  intro M' L e
  simp [rule_Premises.f, look_some hb, hl, fits_some hb, hf, formula_Table_Len.f, e]
 have hE : ∀ N L e, e ≠ 0 → rule_premises.f (some M) s 9 i = some (some N, L, e) → N.take M.length = M → N.Nodup → M.length ≤ N.length → rule_Premises.f (some M) s 9 i = some (some M, [], e) := by
  intro N L e he e1 h1 h2 h3
  simp [rule_Premises.f, look_some hb, hl, fits_some hb, hf, formula_Table_Len.f, e1, he, cutP h1 h2 h3]
 have hbd : ({ s with left := s.left.del i } : Sq).left.okB = true := okB_del i
 have k345 : (nd M i).kind = 3 ∨ (nd M i).kind = 4 ∨ (nd M i).kind = 5 → (0 ≤ (nd M i).l ∧ (nd M i).l < 1024) ∧ (0 ≤ (nd M i).r ∧ (nd M i).r < 1024) := fun k => ⟨in1024 hw.len (hw.left hi k), in1024 hw.len (hw.right hi k)⟩
 exact ⟨M, _, 0, hP _ _ (by simp -implicitDefEqProofs [rule_premises.f, node_some, bits_Drop.f, chk, hb, rule_to.f]; rfl), by simp -implicitDefEqProofs [ref09_Premises.f, docFits hw hb, hf, chk, hi, nd_at hi, ref05_Drop.f, hb, ref09_to.f]⟩
theorem prem_11 {M : List Nd} {s : Sq} {i : Int} (hw : Wf M) (hl : lookV M s = true) (hb : s.left.okB = true) (hf : fitsV M s 11 i = true) (hi : inb i M.length = true) (k : (nd M i).kind = 4) : Agree M s 11 i := by
 have h := lookV_rt hb hl
 have hd := hw.nodup
 unfold Agree
 have hP : ∀ M' L, rule_premises.f (some M) s 11 i = some (some M', L, 0) → rule_Premises.f (some M) s 11 i = some (some M', L, 0) := by
  intro M' L e
  simp [rule_Premises.f, look_some hb, hl, fits_some hb, hf, formula_Table_Len.f, e]
 have hE : ∀ N L e, e ≠ 0 → rule_premises.f (some M) s 11 i = some (some N, L, e) → N.take M.length = M → N.Nodup → M.length ≤ N.length → rule_Premises.f (some M) s 11 i = some (some M, [], e) := by
  intro N L e he e1 h1 h2 h3
  simp [rule_Premises.f, look_some hb, hl, fits_some hb, hf, formula_Table_Len.f, e1, he, cutP h1 h2 h3]
 have hbd : ({ s with left := s.left.del i } : Sq).left.okB = true := okB_del i
 have k345 : (nd M i).kind = 3 ∨ (nd M i).kind = 4 ∨ (nd M i).kind = 5 → (0 ≤ (nd M i).l ∧ (nd M i).l < 1024) ∧ (0 ≤ (nd M i).r ∧ (nd M i).r < 1024) := fun k => ⟨in1024 hw.len (hw.left hi k), in1024 hw.len (hw.right hi k)⟩
 exact ⟨M, _, 0, hP _ _ (by simp -implicitDefEqProofs [rule_premises.f, node_some, bits_Drop.f, chk, hb, rule_to.f]; rfl), by simp -implicitDefEqProofs [ref09_Premises.f, docFits hw hb, hf, chk, hi, nd_at hi, ref05_Drop.f, hb, ref09_to.f]⟩
theorem prem_12 {M : List Nd} {s : Sq} {i : Int} (hw : Wf M) (hl : lookV M s = true) (hb : s.left.okB = true) (hf : fitsV M s 12 i = true) (hi : inb i M.length = true) (k : (nd M i).kind = 4) : Agree M s 12 i := by
 have h := lookV_rt hb hl
 have hd := hw.nodup
 unfold Agree
 have hP : ∀ M' L, rule_premises.f (some M) s 12 i = some (some M', L, 0) → rule_Premises.f (some M) s 12 i = some (some M', L, 0) := by
  intro M' L e
  simp [rule_Premises.f, look_some hb, hl, fits_some hb, hf, formula_Table_Len.f, e]
 have hE : ∀ N L e, e ≠ 0 → rule_premises.f (some M) s 12 i = some (some N, L, e) → N.take M.length = M → N.Nodup → M.length ≤ N.length → rule_Premises.f (some M) s 12 i = some (some M, [], e) := by
  intro N L e he e1 h1 h2 h3
  simp [rule_Premises.f, look_some hb, hl, fits_some hb, hf, formula_Table_Len.f, e1, he, cutP h1 h2 h3]
 have hbd : ({ s with left := s.left.del i } : Sq).left.okB = true := okB_del i
 have k345 : (nd M i).kind = 3 ∨ (nd M i).kind = 4 ∨ (nd M i).kind = 5 → (0 ≤ (nd M i).l ∧ (nd M i).l < 1024) ∧ (0 ≤ (nd M i).r ∧ (nd M i).r < 1024) := fun k => ⟨in1024 hw.len (hw.left hi k), in1024 hw.len (hw.right hi k)⟩
 exact ⟨M, _, 0, hP _ _ (by simp -implicitDefEqProofs [rule_premises.f, node_some, bits_Drop.f, chk, hb, rule_to.f]; rfl), by simp -implicitDefEqProofs [ref09_Premises.f, docFits hw hb, hf, chk, hi, nd_at hi, ref05_Drop.f, hb, ref09_to.f]⟩
theorem prem_1 {M : List Nd} {s : Sq} {i : Int} (hw : Wf M) (hl : lookV M s = true) (hb : s.left.okB = true) (hf : fitsV M s 1 i = true) (hi : inb i M.length = true) (k : (nd M i).kind = 2) : Agree M s 1 i := by
 have h := lookV_rt hb hl
 have hd := hw.nodup
 unfold Agree
 have hP : ∀ M' L, rule_premises.f (some M) s 1 i = some (some M', L, 0) → rule_Premises.f (some M) s 1 i = some (some M', L, 0) := by
  intro M' L e
  simp [rule_Premises.f, look_some hb, hl, fits_some hb, hf, formula_Table_Len.f, e]
 have hE : ∀ N L e, e ≠ 0 → rule_premises.f (some M) s 1 i = some (some N, L, e) → N.take M.length = M → N.Nodup → M.length ≤ N.length → rule_Premises.f (some M) s 1 i = some (some M, [], e) := by
  intro N L e he e1 h1 h2 h3
  simp [rule_Premises.f, look_some hb, hl, fits_some hb, hf, formula_Table_Len.f, e1, he, cutP h1 h2 h3]
 have hbd : ({ s with left := s.left.del i } : Sq).left.okB = true := okB_del i
 have k345 : (nd M i).kind = 3 ∨ (nd M i).kind = 4 ∨ (nd M i).kind = 5 → (0 ≤ (nd M i).l ∧ (nd M i).l < 1024) ∧ (0 ≤ (nd M i).r ∧ (nd M i).r < 1024) := fun k => ⟨in1024 hw.len (hw.left hi k), in1024 hw.len (hw.right hi k)⟩
 exact ⟨M, [], 0, hP _ _ (by simp -implicitDefEqProofs [rule_premises.f, node_some, bits_Drop.f, chk, hb]), by simp -implicitDefEqProofs [ref09_Premises.f, docFits hw hb, hf, chk, hi, nd_at hi, ref05_Drop.f, hb]⟩
theorem prem_3 {M : List Nd} {s : Sq} {i : Int} (hw : Wf M) (hl : lookV M s = true) (hb : s.left.okB = true) (hf : fitsV M s 3 i = true) (hi : inb i M.length = true) (k : (nd M i).kind = 3) : Agree M s 3 i := by
 have h := lookV_rt hb hl
 have hd := hw.nodup
 unfold Agree
 have hP : ∀ M' L, rule_premises.f (some M) s 3 i = some (some M', L, 0) → rule_Premises.f (some M) s 3 i = some (some M', L, 0) := by
  intro M' L e
  simp [rule_Premises.f, look_some hb, hl, fits_some hb, hf, formula_Table_Len.f, e]
 have hE : ∀ N L e, e ≠ 0 → rule_premises.f (some M) s 3 i = some (some N, L, e) → N.take M.length = M → N.Nodup → M.length ≤ N.length → rule_Premises.f (some M) s 3 i = some (some M, [], e) := by
  intro N L e he e1 h1 h2 h3
  simp [rule_Premises.f, look_some hb, hl, fits_some hb, hf, formula_Table_Len.f, e1, he, cutP h1 h2 h3]
 have hbd : ({ s with left := s.left.del i } : Sq).left.okB = true := okB_del i
 have k345 : (nd M i).kind = 3 ∨ (nd M i).kind = 4 ∨ (nd M i).kind = 5 → (0 ≤ (nd M i).l ∧ (nd M i).l < 1024) ∧ (0 ≤ (nd M i).r ∧ (nd M i).r < 1024) := fun k => ⟨in1024 hw.len (hw.left hi k), in1024 hw.len (hw.right hi k)⟩
 obtain ⟨hx, hy⟩ := k345 (.inl k)
 obtain ⟨q, p1, p2⟩ := both2 (g := s.goal) (okB_del (b := s.left) i) hx hy
 exact ⟨M, _, 0, hP _ _ (by simp -implicitDefEqProofs [rule_premises.f, node_some, bits_Drop.f, chk, hb, p1]; rfl), by simp -implicitDefEqProofs [ref09_Premises.f, docFits hw hb, hf, chk, hi, nd_at hi, ref05_Drop.f, hb, p2]⟩
theorem prem_10 {M : List Nd} {s : Sq} {i : Int} (hw : Wf M) (hl : lookV M s = true) (hb : s.left.okB = true) (hf : fitsV M s 10 i = true) (hi : inb i M.length = true) (k : (nd M i).kind = 4) : Agree M s 10 i := by
 have h := lookV_rt hb hl
 have hd := hw.nodup
 unfold Agree
 have hP : ∀ M' L, rule_premises.f (some M) s 10 i = some (some M', L, 0) → rule_Premises.f (some M) s 10 i = some (some M', L, 0) := by
  intro M' L e
  simp [rule_Premises.f, look_some hb, hl, fits_some hb, hf, formula_Table_Len.f, e]
 have hE : ∀ N L e, e ≠ 0 → rule_premises.f (some M) s 10 i = some (some N, L, e) → N.take M.length = M → N.Nodup → M.length ≤ N.length → rule_Premises.f (some M) s 10 i = some (some M, [], e) := by
  intro N L e he e1 h1 h2 h3
  simp [rule_Premises.f, look_some hb, hl, fits_some hb, hf, formula_Table_Len.f, e1, he, cutP h1 h2 h3]
 have hbd : ({ s with left := s.left.del i } : Sq).left.okB = true := okB_del i
 have k345 : (nd M i).kind = 3 ∨ (nd M i).kind = 4 ∨ (nd M i).kind = 5 → (0 ≤ (nd M i).l ∧ (nd M i).l < 1024) ∧ (0 ≤ (nd M i).r ∧ (nd M i).r < 1024) := fun k => ⟨in1024 hw.len (hw.left hi k), in1024 hw.len (hw.right hi k)⟩
 obtain ⟨hx, hy⟩ := k345 (.inr (.inl k))
 obtain ⟨q, p1, p2⟩ := both1 (g := s.goal) (okB_del (b := s.left) i) hx
 obtain ⟨q', p3, p4⟩ := both1 (g := s.goal) (okB_del (b := s.left) i) hy
 exact ⟨M, _, 0, hP _ _ (by simp -implicitDefEqProofs [rule_premises.f, node_some, bits_Drop.f, chk, hb, p1, p3]; rfl), by simp -implicitDefEqProofs [ref09_Premises.f, docFits hw hb, hf, chk, hi, nd_at hi, ref05_Drop.f, hb, p2, p4]⟩
theorem prem_4 {M : List Nd} {s : Sq} {i : Int} (hw : Wf M) (hl : lookV M s = true) (hb : s.left.okB = true) (hf : fitsV M s 4 i = true) (hi : inb i M.length = true) (k : (nd M i).kind = 5) (c : (nd M (nd M i).l).kind = 1) : Agree M s 4 i := by
 have h := lookV_rt hb hl
 have hd := hw.nodup
 unfold Agree
 have hP : ∀ M' L, rule_premises.f (some M) s 4 i = some (some M', L, 0) → rule_Premises.f (some M) s 4 i = some (some M', L, 0) := by
  intro M' L e
  simp [rule_Premises.f, look_some hb, hl, fits_some hb, hf, formula_Table_Len.f, e]
 have hE : ∀ N L e, e ≠ 0 → rule_premises.f (some M) s 4 i = some (some N, L, e) → N.take M.length = M → N.Nodup → M.length ≤ N.length → rule_Premises.f (some M) s 4 i = some (some M, [], e) := by
  intro N L e he e1 h1 h2 h3
  simp [rule_Premises.f, look_some hb, hl, fits_some hb, hf, formula_Table_Len.f, e1, he, cutP h1 h2 h3]
 have hbd : ({ s with left := s.left.del i } : Sq).left.okB = true := okB_del i
 have k345 : (nd M i).kind = 3 ∨ (nd M i).kind = 4 ∨ (nd M i).kind = 5 → (0 ≤ (nd M i).l ∧ (nd M i).l < 1024) ∧ (0 ≤ (nd M i).r ∧ (nd M i).r < 1024) := fun k => ⟨in1024 hw.len (hw.left hi k), in1024 hw.len (hw.right hi k)⟩
 obtain ⟨hx, hy⟩ := k345 (.inr (.inr k))
 have hli := hw.left hi (.inr (.inr k))
 obtain ⟨q, p1, p2⟩ := both1 (g := s.goal) (okB_del (b := s.left) i) hy
 exact ⟨M, _, 0, hP _ _ (by simp -implicitDefEqProofs [rule_premises.f, node_some, bits_Drop.f, chk, hb, p1]; rfl), by simp -implicitDefEqProofs [ref09_Premises.f, docFits hw hb, hf, chk, hi, nd_at hi, ref05_Drop.f, hb, p2]⟩
theorem prem_5 {M : List Nd} {s : Sq} {i : Int} (hw : Wf M) (hl : lookV M s = true) (hb : s.left.okB = true) (hf : fitsV M s 5 i = true) (hi : inb i M.length = true) (k : (nd M i).kind = 5) (c : (nd M (nd M i).l).kind = 2) : Agree M s 5 i := by
 have h := lookV_rt hb hl
 have hd := hw.nodup
 unfold Agree
 have hP : ∀ M' L, rule_premises.f (some M) s 5 i = some (some M', L, 0) → rule_Premises.f (some M) s 5 i = some (some M', L, 0) := by
  intro M' L e
  simp [rule_Premises.f, look_some hb, hl, fits_some hb, hf, formula_Table_Len.f, e]
 have hE : ∀ N L e, e ≠ 0 → rule_premises.f (some M) s 5 i = some (some N, L, e) → N.take M.length = M → N.Nodup → M.length ≤ N.length → rule_Premises.f (some M) s 5 i = some (some M, [], e) := by
  intro N L e he e1 h1 h2 h3
  simp [rule_Premises.f, look_some hb, hl, fits_some hb, hf, formula_Table_Len.f, e1, he, cutP h1 h2 h3]
 have hbd : ({ s with left := s.left.del i } : Sq).left.okB = true := okB_del i
 have k345 : (nd M i).kind = 3 ∨ (nd M i).kind = 4 ∨ (nd M i).kind = 5 → (0 ≤ (nd M i).l ∧ (nd M i).l < 1024) ∧ (0 ≤ (nd M i).r ∧ (nd M i).r < 1024) := fun k => ⟨in1024 hw.len (hw.left hi k), in1024 hw.len (hw.right hi k)⟩
 obtain ⟨hx, hy⟩ := k345 (.inr (.inr k))
 have hli := hw.left hi (.inr (.inr k))
 exact ⟨M, _, 0, hP _ _ (by simp -implicitDefEqProofs [rule_premises.f, node_some, bits_Drop.f, chk, hb]; rfl), by simp -implicitDefEqProofs [ref09_Premises.f, docFits hw hb, hf, chk, hi, nd_at hi, ref05_Drop.f, hb]⟩
theorem prem_6 {M : List Nd} {s : Sq} {i : Int} (hw : Wf M) (hl : lookV M s = true) (hb : s.left.okB = true) (hf : fitsV M s 6 i = true) (hi : inb i M.length = true) (k : (nd M i).kind = 5) (c : (nd M (nd M i).l).kind = 3) : Agree M s 6 i := by
 have h := lookV_rt hb hl
 have hd := hw.nodup
 unfold Agree
 have hP : ∀ M' L, rule_premises.f (some M) s 6 i = some (some M', L, 0) → rule_Premises.f (some M) s 6 i = some (some M', L, 0) := by
  intro M' L e
  simp [rule_Premises.f, look_some hb, hl, fits_some hb, hf, formula_Table_Len.f, e]
 have hE : ∀ N L e, e ≠ 0 → rule_premises.f (some M) s 6 i = some (some N, L, e) → N.take M.length = M → N.Nodup → M.length ≤ N.length → rule_Premises.f (some M) s 6 i = some (some M, [], e) := by
  intro N L e he e1 h1 h2 h3
  simp [rule_Premises.f, look_some hb, hl, fits_some hb, hf, formula_Table_Len.f, e1, he, cutP h1 h2 h3]
 have hbd : ({ s with left := s.left.del i } : Sq).left.okB = true := okB_del i
 have k345 : (nd M i).kind = 3 ∨ (nd M i).kind = 4 ∨ (nd M i).kind = 5 → (0 ≤ (nd M i).l ∧ (nd M i).l < 1024) ∧ (0 ≤ (nd M i).r ∧ (nd M i).r < 1024) := fun k => ⟨in1024 hw.len (hw.left hi k), in1024 hw.len (hw.right hi k)⟩
 obtain ⟨hx, hy⟩ := k345 (.inr (.inr k))
 have hli := hw.left hi (.inr (.inr k))
 have hkk := hw.kids _ hli (.inl c)
 have hc0 : ¬ (nd M (nd M i).l).l < 0 := by omega
 have hc1 : ¬ (nd M (nd M i).l).r < 0 := by omega
 have hr0 : ¬ (nd M i).r < 0 := by omega
 obtain ⟨a1, b1, t1, d1, l1, g1⟩ := put_props (n := impN (nd M (nd M i).l).r (nd M i).r) hw.len hd
 generalize hp1 : putS M (impN (nd M (nd M i).l).r (nd M i).r) = P1 at a1 b1 t1 d1 l1 g1
 by_cases e1 : P1.2.2 = 0
 ·obtain ⟨a2, b2, t2, d2, l2, g2⟩ := put_props (n := impN (nd M (nd M i).l).l P1.2.1) l1 d1
  generalize hp2 : putS P1.1 (impN (nd M (nd M i).l).l P1.2.1) = P2 at a2 b2 t2 d2 l2 g2
  have tt : P2.1.take M.length = M := by
   have := congrArg (List.take M.length) t2
   rw [List.take_take, Nat.min_eq_left g1, t1] at this
   exact this
  by_cases e2 : P2.2.2 = 0
  ·obtain ⟨q, p1, p2⟩ := both1 (g := s.goal) (okB_del (b := s.left) i) (b2 e2)
   exact ⟨P2.1, [q], 0, hP _ _ (by simp -implicitDefEqProofs [rule_premises.f, node_some, bits_Drop.f, chk, hb, rule_pair.f, rule_imps__rule_pair_1__rule_premises_1.f, rule_pair_1.f, rule_premises_1.f, impP, hp1, hp2, e1, e2, at_, inb, p1]), by simp -implicitDefEqProofs [ref09_Premises.f, docFits hw hb, hf, chk, hi, hli, nd_at hi, nd_at hli, ref05_Drop.f, hb, ref09_imps.f, impD hw.len, impD l1, hp1, hp2, e1, e2, hc0, hc1, hr0, p2]⟩
  ·exact ⟨M, [], P2.2.2, hE P2.1 [] _ e2 (by simp -implicitDefEqProofs [rule_premises.f, node_some, bits_Drop.f, chk, hb, rule_pair.f, rule_imps__rule_pair_1__rule_premises_1.f, rule_pair_1.f, rule_premises_1.f, impP, hp1, hp2, e1, e2, at_, inb]) tt d2 (by omega), by simp -implicitDefEqProofs [ref09_Premises.f, docFits hw hb, hf, chk, hi, hli, nd_at hi, nd_at hli, ref05_Drop.f, hb, ref09_imps.f, impD hw.len, impD l1, hp1, hp2, e1, e2, hc0, hc1, hr0, cutD tt (by omega)]⟩
 ·exact ⟨M, [], P1.2.2, hE P1.1 [] _ e1 (by simp -implicitDefEqProofs [rule_premises.f, node_some, bits_Drop.f, chk, hb, rule_pair.f, rule_imps__rule_pair_1__rule_premises_1.f, rule_pair_1.f, rule_premises_1.f, impP, hp1, e1, at_, inb]) t1 d1 g1, by simp -implicitDefEqProofs [ref09_Premises.f, docFits hw hb, hf, chk, hi, hli, nd_at hi, nd_at hli, ref05_Drop.f, hb, ref09_imps.f, impD hw.len, hp1, e1, a1 e1]⟩
theorem prem_7 {M : List Nd} {s : Sq} {i : Int} (hw : Wf M) (hl : lookV M s = true) (hb : s.left.okB = true) (hf : fitsV M s 7 i = true) (hi : inb i M.length = true) (k : (nd M i).kind = 5) (c : (nd M (nd M i).l).kind = 4) : Agree M s 7 i := by
 have h := lookV_rt hb hl
 have hd := hw.nodup
 unfold Agree
 have hP : ∀ M' L, rule_premises.f (some M) s 7 i = some (some M', L, 0) → rule_Premises.f (some M) s 7 i = some (some M', L, 0) := by
  intro M' L e
  simp [rule_Premises.f, look_some hb, hl, fits_some hb, hf, formula_Table_Len.f, e]
 have hE : ∀ N L e, e ≠ 0 → rule_premises.f (some M) s 7 i = some (some N, L, e) → N.take M.length = M → N.Nodup → M.length ≤ N.length → rule_Premises.f (some M) s 7 i = some (some M, [], e) := by
  intro N L e he e1 h1 h2 h3
  simp [rule_Premises.f, look_some hb, hl, fits_some hb, hf, formula_Table_Len.f, e1, he, cutP h1 h2 h3]
 have hbd : ({ s with left := s.left.del i } : Sq).left.okB = true := okB_del i
 have k345 : (nd M i).kind = 3 ∨ (nd M i).kind = 4 ∨ (nd M i).kind = 5 → (0 ≤ (nd M i).l ∧ (nd M i).l < 1024) ∧ (0 ≤ (nd M i).r ∧ (nd M i).r < 1024) := fun k => ⟨in1024 hw.len (hw.left hi k), in1024 hw.len (hw.right hi k)⟩
 obtain ⟨hx, hy⟩ := k345 (.inr (.inr k))
 have hli := hw.left hi (.inr (.inr k))
 have hkk := hw.kids _ hli (.inr (.inl c))
 have hc0 : ¬ (nd M (nd M i).l).l < 0 := by omega
 have hc1 : ¬ (nd M (nd M i).l).r < 0 := by omega
 have hr0 : ¬ (nd M i).r < 0 := by omega
 obtain ⟨a1, b1, t1, d1, l1, g1⟩ := put_props (n := impN (nd M (nd M i).l).l (nd M i).r) hw.len hd
 generalize hp1 : putS M (impN (nd M (nd M i).l).l (nd M i).r) = P1 at a1 b1 t1 d1 l1 g1
 by_cases e1 : P1.2.2 = 0
 ·obtain ⟨a2, b2, t2, d2, l2, g2⟩ := put_props (n := impN (nd M (nd M i).l).r (nd M i).r) l1 d1
  generalize hp2 : putS P1.1 (impN (nd M (nd M i).l).r (nd M i).r) = P2 at a2 b2 t2 d2 l2 g2
  have tt : P2.1.take M.length = M := by
   have := congrArg (List.take M.length) t2
   rw [List.take_take, Nat.min_eq_left g1, t1] at this
   exact this
  by_cases e2 : P2.2.2 = 0
  ·obtain ⟨q, p1, p2⟩ := both2 (g := s.goal) (okB_del (b := s.left) i) (b1 e1) (b2 e2)
   exact ⟨P2.1, [q], 0, hP _ _ (by simp -implicitDefEqProofs [rule_premises.f, node_some, bits_Drop.f, chk, hb, rule_pair.f, rule_imps__rule_pair_1__rule_pair_1.f, rule_pair_1.f, rule_premises_1.f, impP, hp1, hp2, e1, e2, at_, inb, p1]), by simp -implicitDefEqProofs [ref09_Premises.f, docFits hw hb, hf, chk, hi, hli, nd_at hi, nd_at hli, ref05_Drop.f, hb, ref09_imps.f, impD hw.len, impD l1, hp1, hp2, e1, e2, hc0, hc1, hr0, p2]⟩
  ·exact ⟨M, [], P2.2.2, hE P2.1 [] _ e2 (by simp -implicitDefEqProofs [rule_premises.f, node_some, bits_Drop.f, chk, hb, rule_pair.f, rule_imps__rule_pair_1__rule_pair_1.f, rule_pair_1.f, rule_premises_1.f, impP, hp1, hp2, e1, e2, at_, inb]) tt d2 (by omega), by simp -implicitDefEqProofs [ref09_Premises.f, docFits hw hb, hf, chk, hi, hli, nd_at hi, nd_at hli, ref05_Drop.f, hb, ref09_imps.f, impD hw.len, impD l1, hp1, hp2, e1, e2, hc0, hc1, hr0, cutD tt (by omega)]⟩
 ·exact ⟨M, [], P1.2.2, hE P1.1 [] _ e1 (by simp -implicitDefEqProofs [rule_premises.f, node_some, bits_Drop.f, chk, hb, rule_pair.f, rule_imps__rule_pair_1__rule_pair_1.f, rule_pair_1.f, rule_premises_1.f, impP, hp1, e1, at_, inb]) t1 d1 g1, by simp -implicitDefEqProofs [ref09_Premises.f, docFits hw hb, hf, chk, hi, hli, nd_at hi, nd_at hli, ref05_Drop.f, hb, ref09_imps.f, impD hw.len, hp1, e1, a1 e1]⟩
theorem prem_13 {M : List Nd} {s : Sq} {i : Int} (hw : Wf M) (hl : lookV M s = true) (hb : s.left.okB = true) (hf : fitsV M s 13 i = true) (hi : inb i M.length = true) (k : (nd M i).kind = 5) (c : (nd M (nd M i).l).kind = 5) : Agree M s 13 i := by
 have h := lookV_rt hb hl
 have hd := hw.nodup
 unfold Agree
 have hP : ∀ M' L, rule_premises.f (some M) s 13 i = some (some M', L, 0) → rule_Premises.f (some M) s 13 i = some (some M', L, 0) := by
  intro M' L e
  simp [rule_Premises.f, look_some hb, hl, fits_some hb, hf, formula_Table_Len.f, e]
 have hE : ∀ N L e, e ≠ 0 → rule_premises.f (some M) s 13 i = some (some N, L, e) → N.take M.length = M → N.Nodup → M.length ≤ N.length → rule_Premises.f (some M) s 13 i = some (some M, [], e) := by
  intro N L e he e1 h1 h2 h3
  simp [rule_Premises.f, look_some hb, hl, fits_some hb, hf, formula_Table_Len.f, e1, he, cutP h1 h2 h3]
 have hbd : ({ s with left := s.left.del i } : Sq).left.okB = true := okB_del i
 have k345 : (nd M i).kind = 3 ∨ (nd M i).kind = 4 ∨ (nd M i).kind = 5 → (0 ≤ (nd M i).l ∧ (nd M i).l < 1024) ∧ (0 ≤ (nd M i).r ∧ (nd M i).r < 1024) := fun k => ⟨in1024 hw.len (hw.left hi k), in1024 hw.len (hw.right hi k)⟩
 obtain ⟨hx, hy⟩ := k345 (.inr (.inr k))
 have hli := hw.left hi (.inr (.inr k))
 obtain ⟨a1, b1, t1, d1, l1, g1⟩ := put_props (n := impN (nd M (nd M i).l).r (nd M i).r) hw.len hd
 generalize hp1 : putS M (impN (nd M (nd M i).l).r (nd M i).r) = P1 at a1 b1 t1 d1 l1 g1
 by_cases e1 : P1.2.2 = 0
 ·obtain ⟨q, p1, p2⟩ := both1 (g := s.goal) (okB_del (b := s.left) i) (b1 e1)
  obtain ⟨q', p3, p4⟩ := both1 (g := s.goal) (okB_del (b := s.left) i) hy
  exact ⟨P1.1, _, 0, hP _ _ (by simp -implicitDefEqProofs [rule_premises.f, node_some, bits_Drop.f, chk, hb, rule_pair.f, rule_imps__rule_pair_1.f, rule_pair_1.f, impP, hp1, e1, at_, inb, p1, p3, rule_to.f]; rfl), by simp -implicitDefEqProofs [ref09_Premises.f, docFits hw hb, hf, chk, hi, hli, nd_at hi, nd_at hli, ref05_Drop.f, hb, impD hw.len, hp1, e1, p2, p4, ref09_to.f]⟩
 ·exact ⟨M, [], P1.2.2, hE P1.1 [] _ e1 (by simp -implicitDefEqProofs [rule_premises.f, node_some, bits_Drop.f, chk, hb, rule_pair.f, rule_imps__rule_pair_1.f, rule_pair_1.f, impP, hp1, e1, at_, inb]) t1 d1 g1, by simp -implicitDefEqProofs [ref09_Premises.f, docFits hw hb, hf, chk, hi, hli, nd_at hi, nd_at hli, ref05_Drop.f, hb, impD hw.len, hp1, e1, a1 e1]⟩
theorem prem_eq {M : List Nd} {s : Sq} {r i : Int} (hw : Wf M) (hl : lookV M s = true) (hb : s.left.okB = true) : Agree M s r i := by
 cases hf : fitsV M s r i with
 | false => exact ⟨M, [], 90, by simp [rule_Premises.f, look_some hb, hl, fits_some hb, hf], by simp [ref09_Premises.f, docFits hw hb, hf]⟩
 | true =>
  obtain ⟨hi, hc⟩ := fits_cases hf
  rcases hc with rfl | ⟨rfl, k⟩ | ⟨rfl, k⟩ | ⟨hr, k⟩ | ⟨rfl, k⟩ | ⟨rfl, k⟩ | ⟨rfl, k⟩ | ⟨k, hc⟩
  ·exact prem_2 hw hl hb hf hi
  ·exact prem_8 hw hl hb hf hi k
  ·exact prem_9 hw hl hb hf hi k
  ·rcases hr with rfl | rfl
   ·exact prem_11 hw hl hb hf hi k
   ·exact prem_12 hw hl hb hf hi k
  ·exact prem_1 hw hl hb hf hi k
  ·exact prem_3 hw hl hb hf hi k
  ·exact prem_10 hw hl hb hf hi k
  ·rcases hc with ⟨rfl, c⟩ | ⟨rfl, c⟩ | ⟨rfl, c⟩ | ⟨rfl, c⟩ | ⟨rfl, c⟩
   ·exact prem_4 hw hl hb hf hi k c
   ·exact prem_5 hw hl hb hf hi k c
   ·exact prem_6 hw hl hb hf hi k c
   ·exact prem_7 hw hl hb hf hi k c
   ·exact prem_13 hw hl hb hf hi k c
end Go.Proofs.YtjjkhjieegmphaaDoor
end
section
namespace Go.Proofs.YtjjkhjieegmphaaDoor
open Gw
end Go.Proofs.YtjjkhjieegmphaaDoor
end
section
namespace Go.Proofs.YtjjkhjieegmphaaDoor
open Gw
abbrev vl (V : List Bool) (i : Int) : Bool := at_ false V i
def Sem (N : List Nd) (V : List Bool) (n : Int) : Prop := ∀ i : Int, 0 ≤ i → i < n → ((nd N i).kind = 2 → vl V i = false) ∧ ((nd N i).kind = 3 → vl V i = (vl V (nd N i).l && vl V (nd N i).r)) ∧ ((nd N i).kind = 4 → vl V i = (vl V (nd N i).l || vl V (nd N i).r)) ∧ ((nd N i).kind = 5 → vl V i = (!vl V (nd N i).l || vl V (nd N i).r))
theorem all_add {b : Bits} {x : Int} (hx : 0 ≤ x ∧ x < 1024) {p : Int → Prop} : (∀ j : Int, (b.add x).has j = true → p j) ↔ p x ∧ ∀ j : Int, b.has j = true → p j := by
 constructor
 ·intro h
  exact ⟨h x (by rw [Bits.add_has _ _ _ hx]; simp), fun j hj => h j (by rw [Bits.add_has _ _ _ hx, hj]; simp)⟩
 ·rintro ⟨h1, h2⟩ j hj
  rw [Bits.add_has _ _ _ hx] at hj
  simp only [Bool.or_eq_true, decide_eq_true_eq] at hj
  rcases hj with rfl | hj
  ·exact h1
  ·exact h2 j hj
theorem all_del {b : Bits} {x : Int} (hx : b.has x = true) {p : Int → Prop} : (∀ j : Int, b.has j = true → p j) ↔ p x ∧ ∀ j : Int, (b.del x).has j = true → p j := by
 constructor
 ·intro h
  refine ⟨h x hx, fun j hj => h j ?_⟩
  rw [Bits.del_has] at hj
  simp only [Bool.and_eq_true] at hj
  exact hj.2
 ·rintro ⟨h1, h2⟩ j hj
  by_cases e : j = x
  ·rw [e]; exact h1
  ·exact h2 j (by rw [Bits.del_has, hj]; simp [e])
theorem nd_app {N K : List Nd} {i : Int} (hi : inb i N.length = true) : nd (N ++ K) i = nd N i := by
 have h1 := inb_ex hi
 have h2 : i.toNat < N.length := by omega
 unfold nd nodeS hasRow
 rw [if_pos (by simp; omega), if_pos (by simp; omega)]
 simp only
 rw [List.getD_eq_getElem?_getD, List.getElem?_append_left h2, ← List.getD_eq_getElem?_getD]
theorem put_nd {N : List Nd} {n : Nd} (hw : Wf N) (he : (putS N n).2.2 = 0) : nd (putS N n).1 (putS N n).2.1 = n ∧ Wf (putS N n).1 ∧ inb (putS N n).2.1 (putS N n).1.length = true ∧ (∀ i : Int, inb i N.length = true → nd (putS N n).1 i = nd N i) ∧ N.length ≤ (putS N n).1.length := by
 by_cases hf : fitsS N n = 0
 ·cases hk : N.idxOf? n with
  | some k =>
   rw [put_old hf hk]
   obtain ⟨h1, h2, _⟩ := List.idxOf?_eq_some_iff.1 hk
   have hin : inb (k : Int) N.length = true := by rw [inb_nat]; simpa using h1
   refine ⟨?_, hw, hin, fun _ _ => rfl, Nat.le_refl _⟩
   rw [← nd_at hin, rows_take h1]
   simpa using h2
  | none =>
   by_cases hl : 1024 ≤ N.length
   ·rw [put_full hf hk hl] at he; simp at he
   ·rw [put_new hf hk hl]
    refine ⟨?_, wf_push hw hf (by omega) (List.idxOf?_eq_none_iff.1 hk), by rw [inb_nat]; simp, fun i hi => nd_app hi, by simp⟩
    unfold nd nodeS hasRow
    rw [if_pos (by simp; omega)]
    simp
 ·rw [put_bad hf] at he; exact absurd he hf
end Go.Proofs.YtjjkhjieegmphaaDoor
end
section
namespace Go.Proofs.YtjjkhjieegmphaaDoor
open Gw
inductive PremR (M : List Nd) (s : Sq) (i : Int) : Int → List Nd → List Sq → Prop
 | bot (h : s.left.has i = true) (k : (nd M i).kind = 2) : PremR M s i 1 M []
 | ax (h : s.left.has i = true) (g : i = s.goal) : PremR M s i 2 M []
 | andL (h : s.left.has i = true) (k : (nd M i).kind = 3) : PremR M s i 3 M [⟨((s.left.del i).add (nd M i).l).add (nd M i).r, s.goal⟩]
 | atom (h : s.left.has i = true) (k : (nd M i).kind = 5) (c : (nd M (nd M i).l).kind = 1) (a : s.left.has (nd M i).l = true) : PremR M s i 4 M [⟨(s.left.del i).add (nd M i).r, s.goal⟩]
 | botL (h : s.left.has i = true) (k : (nd M i).kind = 5) (c : (nd M (nd M i).l).kind = 2) : PremR M s i 5 M [⟨s.left.del i, s.goal⟩]
 | conj (h : s.left.has i = true) (k : (nd M i).kind = 5) (c : (nd M (nd M i).l).kind = 3) (e1 : (putS M (impN (nd M (nd M i).l).r (nd M i).r)).2.2 = 0)
   (e2 : (putS (putS M (impN (nd M (nd M i).l).r (nd M i).r)).1 (impN (nd M (nd M i).l).l (putS M (impN (nd M (nd M i).l).r (nd M i).r)).2.1)).2.2 = 0) :
   PremR M s i 6 (putS (putS M (impN (nd M (nd M i).l).r (nd M i).r)).1 (impN (nd M (nd M i).l).l (putS M (impN (nd M (nd M i).l).r (nd M i).r)).2.1)).1
    [⟨(s.left.del i).add (putS (putS M (impN (nd M (nd M i).l).r (nd M i).r)).1 (impN (nd M (nd M i).l).l (putS M (impN (nd M (nd M i).l).r (nd M i).r)).2.1)).2.1, s.goal⟩]
 | disj (h : s.left.has i = true) (k : (nd M i).kind = 5) (c : (nd M (nd M i).l).kind = 4) (e1 : (putS M (impN (nd M (nd M i).l).l (nd M i).r)).2.2 = 0)
   (e2 : (putS (putS M (impN (nd M (nd M i).l).l (nd M i).r)).1 (impN (nd M (nd M i).l).r (nd M i).r)).2.2 = 0) :
   PremR M s i 7 (putS (putS M (impN (nd M (nd M i).l).l (nd M i).r)).1 (impN (nd M (nd M i).l).r (nd M i).r)).1
    [⟨((s.left.del i).add (putS M (impN (nd M (nd M i).l).l (nd M i).r)).2.1).add (putS (putS M (impN (nd M (nd M i).l).l (nd M i).r)).1 (impN (nd M (nd M i).l).r (nd M i).r)).2.1, s.goal⟩]
 | impR (g : i = s.goal) (k : (nd M i).kind = 5) : PremR M s i 8 M [⟨s.left.add (nd M i).l, (nd M i).r⟩]
 | andR (g : i = s.goal) (k : (nd M i).kind = 3) : PremR M s i 9 M [⟨s.left, (nd M i).l⟩, ⟨s.left, (nd M i).r⟩]
 | orL (h : s.left.has i = true) (k : (nd M i).kind = 4) : PremR M s i 10 M [⟨(s.left.del i).add (nd M i).l, s.goal⟩, ⟨(s.left.del i).add (nd M i).r, s.goal⟩]
 | orR1 (g : i = s.goal) (k : (nd M i).kind = 4) : PremR M s i 11 M [⟨s.left, (nd M i).l⟩]
 | orR2 (g : i = s.goal) (k : (nd M i).kind = 4) : PremR M s i 12 M [⟨s.left, (nd M i).r⟩]
 | impL (h : s.left.has i = true) (k : (nd M i).kind = 5) (c : (nd M (nd M i).l).kind = 5) (e1 : (putS M (impN (nd M (nd M i).l).r (nd M i).r)).2.2 = 0) :
   PremR M s i 13 (putS M (impN (nd M (nd M i).l).r (nd M i).r)).1 [⟨(s.left.del i).add (putS M (impN (nd M (nd M i).l).r (nd M i).r)).2.1, (nd M i).l⟩, ⟨(s.left.del i).add (nd M i).r, s.goal⟩]
end Go.Proofs.YtjjkhjieegmphaaDoor
end
section
namespace Go.Proofs.YtjjkhjieegmphaaDoor
open Gw
theorem fits_has {M : List Nd} {s : Sq} {r i : Int} (h : fitsV M s r i = true) : ((r = 8 ∨ r = 9 ∨ r = 11 ∨ r = 12) → i = s.goal) ∧ (r ≠ 8 → r ≠ 9 → r ≠ 11 → r ≠ 12 → s.left.has i = true) ∧ (r = 2 → i = s.goal) ∧ (r = 4 → s.left.has (nd M i).l = true) := by
 unfold fitsV at h
 cases hi : inb i M.length with
 | false => simp [hi] at h
 | true =>
  simp only [hi, Bool.true_eq_false, if_false] at h
  by_cases r2 : r = 2
  ·rw [if_pos r2] at h
   simp only [Bool.and_eq_true, decide_eq_true_eq] at h
   exact ⟨fun q => by omega, fun _ _ _ _ => h.2, fun _ => h.1, fun q => by omega⟩
  rw [if_neg r2] at h
  by_cases r8 : r = 8
  ·rw [if_pos r8] at h
   simp only [Bool.and_eq_true, decide_eq_true_eq] at h
   exact ⟨fun _ => h.1, fun q => absurd r8 q, fun q => by omega, fun q => by omega⟩
  rw [if_neg r8] at h
  by_cases r9 : r = 9
  ·rw [if_pos r9] at h
   simp only [Bool.and_eq_true, decide_eq_true_eq] at h
   exact ⟨fun _ => h.1, fun _ q => absurd r9 q, fun q => by omega, fun q => by omega⟩
  rw [if_neg r9] at h
  by_cases r11 : r = 11 ∨ r = 12
  ·rw [if_pos r11] at h
   simp only [Bool.and_eq_true, decide_eq_true_eq] at h
   exact ⟨fun _ => h.1, fun _ _ q q' => by omega, fun q => by omega, fun q => by omega⟩
  rw [if_neg r11] at h
  simp only [Bool.and_eq_true, decide_eq_true_eq, ne_eq] at h
  refine ⟨fun q => by omega, fun _ _ _ _ => h.1.2, fun q => by omega, fun q => ?_⟩
  subst q
  have h4 := h.2
  unfold onV at h4
  by_cases k5 : (nd M i).kind = 5
  ·by_cases c1 : (nd M (nd M i).l).kind = 1
   ·rw [if_neg (by omega), if_neg (by omega), if_neg (by omega), if_pos k5, if_pos c1] at h4
    split at h4
    ·assumption
    ·omega
   ·exfalso
    rcases on_cases (M := M) (b := s.left) (i := i) (r := 4) h.2 (by decide) with q | q | q | ⟨_, q⟩ <;> omega
  ·exfalso
   rcases on_cases (M := M) (b := s.left) (i := i) (r := 4) h.2 (by decide) with q | q | q | ⟨q, _⟩ <;> omega
theorem prem_rel {M : List Nd} {s : Sq} {r i : Int} {T : Tb} {L : List Sq} (hw : Wf M) (hb : s.left.okB = true) (hf : fitsV M s r i = true) (h : rule_premises.f (some M) s r i = some (T, L, 0)) : ∃ N, T = some N ∧ PremR M s i r N L := by
 obtain ⟨hi, hc⟩ := fits_cases hf
 obtain ⟨g1, g2, g3, g4⟩ := fits_has hf
 have k345 : (nd M i).kind = 3 ∨ (nd M i).kind = 4 ∨ (nd M i).kind = 5 → (0 ≤ (nd M i).l ∧ (nd M i).l < 1024) ∧ (0 ≤ (nd M i).r ∧ (nd M i).r < 1024) := fun k => ⟨in1024 hw.len (hw.left hi k), in1024 hw.len (hw.right hi k)⟩
 rcases hc with rfl | ⟨rfl, k⟩ | ⟨rfl, k⟩ | ⟨hr, k⟩ | ⟨rfl, k⟩ | ⟨rfl, k⟩ | ⟨rfl, k⟩ | ⟨k, hc⟩
 ·simp -implicitDefEqProofs [rule_premises.f, node_some, bits_Drop.f, chk, hb] at h
  obtain ⟨rfl, rfl⟩ := h
  exact ⟨M, rfl, PremR.ax (g2 (by decide) (by decide) (by decide) (by decide)) (g3 rfl)⟩
 ·obtain ⟨hx, hy⟩ := k345 (.inr (.inr k))
  simp -implicitDefEqProofs [rule_premises.f, node_some, bits_Drop.f, chk, hb, withP1 hb hx, rule_to.f] at h
  obtain ⟨rfl, rfl⟩ := h
  exact ⟨M, rfl, PremR.impR (g1 (by decide)) k⟩
 ·simp -implicitDefEqProofs [rule_premises.f, node_some, bits_Drop.f, chk, hb, rule_to.f] at h
  obtain ⟨rfl, rfl⟩ := h
  exact ⟨M, rfl, PremR.andR (g1 (by decide)) k⟩
 ·rcases hr with rfl | rfl
  ·simp -implicitDefEqProofs [rule_premises.f, node_some, bits_Drop.f, chk, hb, rule_to.f] at h
   obtain ⟨rfl, rfl⟩ := h
   exact ⟨M, rfl, PremR.orR1 (g1 (by decide)) k⟩
  ·simp -implicitDefEqProofs [rule_premises.f, node_some, bits_Drop.f, chk, hb, rule_to.f] at h
   obtain ⟨rfl, rfl⟩ := h
   exact ⟨M, rfl, PremR.orR2 (g1 (by decide)) k⟩
 ·simp -implicitDefEqProofs [rule_premises.f, node_some, bits_Drop.f, chk, hb] at h
  obtain ⟨rfl, rfl⟩ := h
  exact ⟨M, rfl, PremR.bot (g2 (by decide) (by decide) (by decide) (by decide)) k⟩
 ·obtain ⟨hx, hy⟩ := k345 (.inl k)
  simp -implicitDefEqProofs [rule_premises.f, node_some, bits_Drop.f, chk, hb, withP2m (okB_del i) hx hy] at h
  obtain ⟨rfl, rfl⟩ := h
  exact ⟨M, rfl, PremR.andL (g2 (by decide) (by decide) (by decide) (by decide)) k⟩
 ·obtain ⟨hx, hy⟩ := k345 (.inr (.inl k))
  simp -implicitDefEqProofs [rule_premises.f, node_some, bits_Drop.f, chk, hb, withP1m (okB_del i) hx, withP1m (okB_del i) hy] at h
  obtain ⟨rfl, rfl⟩ := h
  exact ⟨M, rfl, PremR.orL (g2 (by decide) (by decide) (by decide) (by decide)) k⟩
 ·obtain ⟨hx, hy⟩ := k345 (.inr (.inr k))
  rcases hc with ⟨rfl, c⟩ | ⟨rfl, c⟩ | ⟨rfl, c⟩ | ⟨rfl, c⟩ | ⟨rfl, c⟩
  ·simp -implicitDefEqProofs [rule_premises.f, node_some, bits_Drop.f, chk, hb, withP1m (okB_del i) hy] at h
   obtain ⟨rfl, rfl⟩ := h
   exact ⟨M, rfl, PremR.atom (g2 (by decide) (by decide) (by decide) (by decide)) k c (g4 rfl)⟩
  ·simp -implicitDefEqProofs [rule_premises.f, node_some, bits_Drop.f, chk, hb] at h
   obtain ⟨rfl, rfl⟩ := h
   exact ⟨M, rfl, PremR.botL (g2 (by decide) (by decide) (by decide) (by decide)) k c⟩
  ·have q1 := put_props (n := impN (nd M (nd M i).l).r (nd M i).r) hw.len hw.nodup
   have con := @PremR.conj M s i (g2 (by decide) (by decide) (by decide) (by decide)) k c
   generalize hA : putS M (impN (nd M (nd M i).l).r (nd M i).r) = A1 at q1 con
   have q2 := (put_props (n := impN (nd M (nd M i).l).l A1.2.1) q1.2.2.2.2.1 q1.2.2.2.1).2.1
   generalize hB : putS A1.1 (impN (nd M (nd M i).l).l A1.2.1) = A2 at q2 con
   by_cases e1 : A1.2.2 = 0
   ·by_cases e2 : A2.2.2 = 0
    ·simp -implicitDefEqProofs [rule_premises.f, node_some, bits_Drop.f, chk, hb, rule_pair.f, rule_imps__rule_pair_1__rule_premises_1.f, rule_pair_1.f, rule_premises_1.f, impP, at_, inb, hA, hB, e1, e2, withP1m (okB_del i) (q2 e2)] at h
     obtain ⟨rfl, rfl⟩ := h
     exact ⟨_, rfl, con e1 e2⟩
    ·simp -implicitDefEqProofs [rule_premises.f, node_some, bits_Drop.f, chk, hb, rule_pair.f, rule_imps__rule_pair_1__rule_premises_1.f, rule_pair_1.f, rule_premises_1.f, impP, at_, inb, hA, hB, e1, e2] at h
   ·simp -implicitDefEqProofs [rule_premises.f, node_some, bits_Drop.f, chk, hb, rule_pair.f, rule_imps__rule_pair_1__rule_premises_1.f, rule_pair_1.f, rule_premises_1.f, impP, at_, inb, hA, e1] at h
  ·have q1 := put_props (n := impN (nd M (nd M i).l).l (nd M i).r) hw.len hw.nodup
   have con := @PremR.disj M s i (g2 (by decide) (by decide) (by decide) (by decide)) k c
   generalize hA : putS M (impN (nd M (nd M i).l).l (nd M i).r) = A1 at q1 con
   have q2 := (put_props (n := impN (nd M (nd M i).l).r (nd M i).r) q1.2.2.2.2.1 q1.2.2.2.1).2.1
   generalize hB : putS A1.1 (impN (nd M (nd M i).l).r (nd M i).r) = A2 at q2 con
   by_cases e1 : A1.2.2 = 0
   ·by_cases e2 : A2.2.2 = 0
    ·simp -implicitDefEqProofs [rule_premises.f, node_some, bits_Drop.f, chk, hb, rule_pair.f, rule_imps__rule_pair_1__rule_pair_1.f, rule_pair_1.f, rule_premises_1.f, impP, at_, inb, hA, hB, e1, e2, withP2m (okB_del i) (q1.2.1 e1) (q2 e2)] at h
     obtain ⟨rfl, rfl⟩ := h
     exact ⟨_, rfl, con e1 e2⟩
    ·simp -implicitDefEqProofs [rule_premises.f, node_some, bits_Drop.f, chk, hb, rule_pair.f, rule_imps__rule_pair_1__rule_pair_1.f, rule_pair_1.f, rule_premises_1.f, impP, at_, inb, hA, hB, e1, e2] at h
   ·simp -implicitDefEqProofs [rule_premises.f, node_some, bits_Drop.f, chk, hb, rule_pair.f, rule_imps__rule_pair_1__rule_pair_1.f, rule_pair_1.f, rule_premises_1.f, impP, at_, inb, hA, e1] at h
  ·have p1 := (put_props (n := impN (nd M (nd M i).l).r (nd M i).r) hw.len hw.nodup).2.1
   have con := @PremR.impL M s i (g2 (by decide) (by decide) (by decide) (by decide)) k c
   generalize hA : putS M (impN (nd M (nd M i).l).r (nd M i).r) = A1 at p1 con
   by_cases e1 : A1.2.2 = 0
   ·simp -implicitDefEqProofs [rule_premises.f, node_some, bits_Drop.f, chk, hb, rule_pair.f, rule_imps__rule_pair_1.f, rule_pair_1.f, impP, hA, e1, withP1m (okB_del i) (p1 e1), withP1m (okB_del i) hy, rule_to.f] at h
    obtain ⟨rfl, rfl⟩ := h
    exact ⟨_, rfl, con e1⟩
   ·simp -implicitDefEqProofs [rule_premises.f, node_some, bits_Drop.f, chk, hb, rule_pair.f, rule_imps__rule_pair_1.f, rule_pair_1.f, impP, hA, e1] at h
end Go.Proofs.YtjjkhjieegmphaaDoor
end
section
namespace Go.Proofs.YtjjkhjieegmphaaDoor
open Gw
end Go.Proofs.YtjjkhjieegmphaaDoor
end
section
namespace Go.Proofs.YtjjkhjieegmphaaDoor
open Gw
theorem Premises_rel {M : List Nd} {s : Sq} (r i : Int) (hw : Wf M) (hl : lookV M s = true) (hb : s.left.okB = true) :
  ∃ N L e, rule_Premises.f (some M) s r i = some (some N, L, e) ∧ (e = 0 → fitsV M s r i = true ∧ PremR M s i r N L) := by
 obtain ⟨N, L, e, h, _⟩ := prem_eq (r := r) (i := i) hw hl hb
 refine ⟨N, L, e, h, fun he => ?_⟩
 subst he
 unfold rule_Premises.f at h
 rw [look_some hb, hl, fits_some hb] at h
 simp only [if_true, ne_eq, not_true_eq_false, decide_false, Bool.false_eq_true, if_false, Option.bind_some] at h
 cases hf : fitsV M s r i with
 | false => simp [hf] at h
 | true =>
  refine ⟨rfl, ?_⟩
  simp only [hf, Bool.not_true, Bool.false_eq_true, if_false] at h
  obtain ⟨n, h1, h⟩ := bind_ex h
  obtain ⟨⟨T, L', e'⟩, h2, h⟩ := bind_ex h
  by_cases he : e' = 0
  ·subst he
   simp only [not_true_eq_false, decide_false, Bool.false_eq_true, if_false, Option.some.injEq, Prod.mk.injEq] at h
   obtain ⟨rfl, rfl, _⟩ := h
   obtain ⟨N', e1, h3⟩ := prem_rel hw hb hf h2
   cases e1
   exact h3
  ·simp only [he, not_false_eq_true, decide_true, if_true] at h
   obtain ⟨_, _, h⟩ := bind_ex h
   simp only [Option.some.injEq, Prod.mk.injEq] at h
   exact absurd h.2.2 he
theorem inb_mono {i : Int} {m n : Nat} (h : inb i m = true) (hmn : m ≤ n) : inb i n = true := by
 have := inb_ex h
 simp only [inb, Bool.and_eq_true, decide_eq_true_eq]; omega
theorem lookV_iff {M : List Nd} {s : Sq} : lookV M s = true ↔ (∀ j : Int, s.left.has j = true → inb j M.length = true) ∧ inb s.goal M.length = true := by
 unfold lookV
 rw [Bool.and_eq_true, List.all_eq_true]
 refine and_congr ⟨fun h j hj => ?_, fun h j hj => ?_⟩ Iff.rfl
 ·have hr : 0 ≤ j ∧ j < 1024 := by
   refine Decidable.byContradiction fun q => ?_
   rw [Bits.has_out _ _ (by omega)] at hj; cases hj
  have hjn : ((j.toNat : Nat) : Int) = j := by omega
  have := h j.toNat (Bits.mem_list.2 ⟨by omega, by rw [hjn]; exact hj⟩)
  rw [← hjn, inb_nat]; exact this
 ·have := h j (Bits.mem_list.1 hj).2
  rw [inb_nat] at this; exact this
theorem prem_wf {M N : List Nd} {s : Sq} {i r : Int} {L : List Sq} (hw : Wf M) (hb : s.left.okB = true) (hl : lookV M s = true) (hi : inb i M.length = true) (h : PremR M s i r N L) :
  Wf N ∧ M.length ≤ N.length ∧ (∀ j : Int, inb j M.length = true → nd N j = nd M j) ∧ ∀ p ∈ L, p.left.okB = true ∧ lookV N p = true := by
 obtain ⟨hl1, hl2⟩ := lookV_iff.1 hl
 have k345 : (nd M i).kind = 3 ∨ (nd M i).kind = 4 ∨ (nd M i).kind = 5 → inb (nd M i).l M.length = true ∧ inb (nd M i).r M.length = true := fun k => ⟨hw.left hi k, hw.right hi k⟩
 have hdel : ∀ j : Int, (s.left.del i).has j = true → inb j M.length = true := fun j hj => by
  rw [Bits.del_has] at hj; simp only [Bool.and_eq_true] at hj; exact hl1 j hj.2
 cases h with
 | bot h k => exact ⟨hw, Nat.le_refl _, fun _ _ => rfl, fun p hp => by cases hp⟩
 | ax h g => exact ⟨hw, Nat.le_refl _, fun _ _ => rfl, fun p hp => by cases hp⟩
 | andL h k =>
  obtain ⟨hx, hy⟩ := k345 (.inl k)
  refine ⟨hw, Nat.le_refl _, fun _ _ => rfl, fun p hp => ?_⟩
  rw [List.mem_singleton] at hp; subst hp
  exact ⟨okB_add _, lookV_iff.2 ⟨(all_add (in1024 hw.len hy)).2 ⟨hy, (all_add (in1024 hw.len hx)).2 ⟨hx, hdel⟩⟩, hl2⟩⟩
 | atom h k c a =>
  obtain ⟨hx, hy⟩ := k345 (.inr (.inr k))
  refine ⟨hw, Nat.le_refl _, fun _ _ => rfl, fun p hp => ?_⟩
  rw [List.mem_singleton] at hp; subst hp
  exact ⟨okB_add _, lookV_iff.2 ⟨(all_add (in1024 hw.len hy)).2 ⟨hy, hdel⟩, hl2⟩⟩
 | botL h k c =>
  refine ⟨hw, Nat.le_refl _, fun _ _ => rfl, fun p hp => ?_⟩
  rw [List.mem_singleton] at hp; subst hp
  exact ⟨okB_del _, lookV_iff.2 ⟨hdel, hl2⟩⟩
 | impR g k =>
  obtain ⟨hx, hy⟩ := k345 (.inr (.inr k))
  refine ⟨hw, Nat.le_refl _, fun _ _ => rfl, fun p hp => ?_⟩
  rw [List.mem_singleton] at hp; subst hp
  exact ⟨okB_add _, lookV_iff.2 ⟨(all_add (in1024 hw.len hx)).2 ⟨hx, hl1⟩, hy⟩⟩
 | andR g k =>
  obtain ⟨hx, hy⟩ := k345 (.inl k)
  refine ⟨hw, Nat.le_refl _, fun _ _ => rfl, fun p hp => ?_⟩
  simp only [List.mem_cons, List.not_mem_nil, or_false] at hp
  rcases hp with rfl | rfl
  ·exact ⟨hb, lookV_iff.2 ⟨hl1, hx⟩⟩
  ·exact ⟨hb, lookV_iff.2 ⟨hl1, hy⟩⟩
 | orL h k =>
  obtain ⟨hx, hy⟩ := k345 (.inr (.inl k))
  refine ⟨hw, Nat.le_refl _, fun _ _ => rfl, fun p hp => ?_⟩
  simp only [List.mem_cons, List.not_mem_nil, or_false] at hp
  rcases hp with rfl | rfl
  ·exact ⟨okB_add _, lookV_iff.2 ⟨(all_add (in1024 hw.len hx)).2 ⟨hx, hdel⟩, hl2⟩⟩
  ·exact ⟨okB_add _, lookV_iff.2 ⟨(all_add (in1024 hw.len hy)).2 ⟨hy, hdel⟩, hl2⟩⟩
 | orR1 g k =>
  obtain ⟨hx, hy⟩ := k345 (.inr (.inl k))
  refine ⟨hw, Nat.le_refl _, fun _ _ => rfl, fun p hp => ?_⟩
  rw [List.mem_singleton] at hp; subst hp
  exact ⟨hb, lookV_iff.2 ⟨hl1, hx⟩⟩
 | orR2 g k =>
  obtain ⟨hx, hy⟩ := k345 (.inr (.inl k))
  refine ⟨hw, Nat.le_refl _, fun _ _ => rfl, fun p hp => ?_⟩
  rw [List.mem_singleton] at hp; subst hp
  exact ⟨hb, lookV_iff.2 ⟨hl1, hy⟩⟩
 | conj h k c e1 e2 =>
  obtain ⟨n1, w1, i1, q1, l1⟩ := put_nd hw e1
  obtain ⟨n2, w2, i2, q2, l2⟩ := put_nd w1 e2
  generalize hA1 : putS M (impN (nd M (nd M i).l).r (nd M i).r) = A1 at n1 w1 i1 q1 l1 n2 w2 i2 q2 l2 e1 e2 ⊢
  generalize hA2 : putS A1.1 (impN (nd M (nd M i).l).l A1.2.1) = A2 at n2 w2 i2 q2 l2 e2 ⊢
  refine ⟨w2, by omega, fun j hj => by rw [q2 j (inb_mono hj l1), q1 j hj], fun p hp => ?_⟩
  rw [List.mem_singleton] at hp; subst hp
  exact ⟨okB_add _, lookV_iff.2 ⟨(all_add (in1024 w2.len i2)).2 ⟨i2, fun j hj => inb_mono (hdel j hj) (by omega)⟩, inb_mono hl2 (by omega)⟩⟩
 | disj h k c e1 e2 =>
  obtain ⟨n1, w1, i1, q1, l1⟩ := put_nd hw e1
  obtain ⟨n2, w2, i2, q2, l2⟩ := put_nd w1 e2
  generalize hA1 : putS M (impN (nd M (nd M i).l).l (nd M i).r) = A1 at n1 w1 i1 q1 l1 n2 w2 i2 q2 l2 e1 e2 ⊢
  generalize hA2 : putS A1.1 (impN (nd M (nd M i).l).r (nd M i).r) = A2 at n2 w2 i2 q2 l2 e2 ⊢
  refine ⟨w2, by omega, fun j hj => by rw [q2 j (inb_mono hj l1), q1 j hj], fun p hp => ?_⟩
  rw [List.mem_singleton] at hp; subst hp
  exact ⟨okB_add _, lookV_iff.2 ⟨(all_add (in1024 w2.len i2)).2 ⟨i2, (all_add (in1024 w1.len i1)).2 ⟨inb_mono i1 l2, fun j hj => inb_mono (hdel j hj) (by omega)⟩⟩, inb_mono hl2 (by omega)⟩⟩
 | impL h k c e1 =>
  obtain ⟨n1, w1, i1, q1, l1⟩ := put_nd hw e1
  generalize hA1 : putS M (impN (nd M (nd M i).l).r (nd M i).r) = A1 at n1 w1 i1 q1 l1 e1 ⊢
  obtain ⟨hx, hy⟩ := k345 (.inr (.inr k))
  refine ⟨w1, l1, q1, fun p hp => ?_⟩
  simp only [List.mem_cons, List.not_mem_nil, or_false] at hp
  rcases hp with rfl | rfl
  ·exact ⟨okB_add _, lookV_iff.2 ⟨(all_add (in1024 w1.len i1)).2 ⟨i1, fun j hj => inb_mono (hdel j hj) l1⟩, inb_mono hx l1⟩⟩
  ·exact ⟨okB_add _, lookV_iff.2 ⟨(all_add (in1024 hw.len hy)).2 ⟨inb_mono hy l1, fun j hj => inb_mono (hdel j hj) l1⟩, inb_mono hl2 l1⟩⟩
theorem fits_inb {M : List Nd} {s : Sq} {r i : Int} (h : fitsV M s r i = true) : inb i M.length = true := (fits_cases h).1
theorem choices_len {M : List Nd} {s : Sq} (hM : M.length ≤ 1024) : (choicesV M s).1.length = (choicesV M s).2.length ∧ (choicesV M s).1.length ≤ 4096 := by
 unfold choicesV
 have h1 : ((List.range M.length).filter fun (j : Nat) => s.left.has j && decide (onV M s.left j = 13)).length ≤ M.length := by simpa using List.length_filter_le (fun (j : Nat) => s.left.has j && decide (onV M s.left j = 13)) (List.range M.length)
 split
 ·split <;> simp <;> omega
 ·simp
end Go.Proofs.YtjjkhjieegmphaaDoor
end
section
namespace Go.Proofs.YtjjkhjieegmphaaDoor
open Gw
inductive Fm where
 | atom (a : Int)
 | bot
 | and (x y : Fm)
 | or (x y : Fm)
 | imp (x y : Fm)
structure Kr where
 W : Type
 le : W → W → Prop
 refl : ∀ w, le w w
 trans : ∀ {a b c : W}, le a b → le b c → le a c
 val : W → Int → Prop
 mono : ∀ {a b : W} {p : Int}, le a b → val a p → val b p
def Kr.fc (K : Kr) : Fm → K.W → Prop
 | .atom a, w => K.val w a
 | .bot, _ => False
 | .and x y, w => K.fc x w ∧ K.fc y w
 | .or x y, w => K.fc x w ∨ K.fc y w
 | .imp x y, w => ∀ v, K.le w v → K.fc x v → K.fc y v
theorem Kr.up (K : Kr) : ∀ (x : Fm) {w v : K.W}, K.le w v → K.fc x w → K.fc x v
 | .atom _, _, _, h, hx => K.mono h hx
 | .bot, _, _, _, hx => hx
 | .and x y, _, _, h, hx => ⟨K.up x h hx.1, K.up y h hx.2⟩
 | .or x y, _, _, h, hx => hx.imp (K.up x h) (K.up y h)
 | .imp x y, _, _, h, hx => fun u hu => hx u (K.trans h hu)
def fmF (M : List Nd) : Nat → Int → Fm
 | 0, _ => .bot
 | n + 1, i => if (nd M i).kind = 1 then .atom i else if (nd M i).kind = 3 then .and (fmF M n (nd M i).l) (fmF M n (nd M i).r) else if (nd M i).kind = 4 then .or (fmF M n (nd M i).l) (fmF M n (nd M i).r)
  else if (nd M i).kind = 5 then .imp (fmF M n (nd M i).l) (fmF M n (nd M i).r) else .bot
def fm (M : List Nd) (i : Int) : Fm := fmF M (i.toNat + 1) i
theorem fmF_two {M N : List Nd} (hw : Wf M) (hN : ∀ j : Int, inb j M.length = true → nd N j = nd M j) : ∀ (n m : Nat) (i : Int), inb i M.length = true → i.toNat < n → i.toNat < m → fmF N n i = fmF M m i := by
 intro n
 induction n with
 | zero => intro m i _ h; omega
 | succ n ih =>
  intro m i hi h1 h2
  obtain ⟨m, rfl⟩ : ∃ q, m = q + 1 := ⟨m - 1, by omega⟩
  rw [fmF, fmF, hN i hi]
  have hk := hw.kind i hi
  have h0 := inb_ex hi
  by_cases k : (nd M i).kind = 3 ∨ (nd M i).kind = 4 ∨ (nd M i).kind = 5
  ·have hks := hw.kids i hi k
   rw [ih m _ (hw.left hi k) (by omega) (by omega), ih m _ (hw.right hi k) (by omega) (by omega)]
  ·have k12 : (nd M i).kind = 1 ∨ (nd M i).kind = 2 := by omega
   rcases k12 with k | k <;> simp [k]
theorem fm_ext {M N : List Nd} (hw : Wf M) (hN : ∀ j : Int, inb j M.length = true → nd N j = nd M j) {i : Int} (hi : inb i M.length = true) : fm N i = fm M i := fmF_two hw hN _ _ i hi (by omega) (by omega)
theorem fm_at {M : List Nd} (hw : Wf M) {i : Int} (hi : inb i M.length = true) {n : Nat} (h : i.toNat < n) : fmF M n i = fm M i := fmF_two hw (fun _ _ => rfl) _ _ i hi h (by omega)
theorem fm1 {M : List Nd} {i : Int} (k : (nd M i).kind = 1) : fm M i = .atom i := by simp [fm, fmF, k]
theorem fm2 {M : List Nd} {i : Int} (k : (nd M i).kind = 2) : fm M i = .bot := by simp [fm, fmF, k]
theorem fm3 {M : List Nd} (hw : Wf M) {i : Int} (hi : inb i M.length = true) (k : (nd M i).kind = 3) : fm M i = .and (fm M (nd M i).l) (fm M (nd M i).r) := by
 have h0 := inb_ex hi
 have hks := hw.kids i hi (.inl k)
 rw [fm, fmF, if_neg (by omega), if_pos k, fm_at hw (hw.left hi (.inl k)) (by omega), fm_at hw (hw.right hi (.inl k)) (by omega)]
theorem fm4 {M : List Nd} (hw : Wf M) {i : Int} (hi : inb i M.length = true) (k : (nd M i).kind = 4) : fm M i = .or (fm M (nd M i).l) (fm M (nd M i).r) := by
 have h0 := inb_ex hi
 have hks := hw.kids i hi (.inr (.inl k))
 rw [fm, fmF, if_neg (by omega), if_neg (by omega), if_pos k, fm_at hw (hw.left hi (.inr (.inl k))) (by omega), fm_at hw (hw.right hi (.inr (.inl k))) (by omega)]
theorem fm5 {M : List Nd} (hw : Wf M) {i : Int} (hi : inb i M.length = true) (k : (nd M i).kind = 5) : fm M i = .imp (fm M (nd M i).l) (fm M (nd M i).r) := by
 have h0 := inb_ex hi
 have hks := hw.kids i hi (.inr (.inr k))
 rw [fm, fmF, if_neg (by omega), if_neg (by omega), if_neg (by omega), if_pos k, fm_at hw (hw.left hi (.inr (.inr k))) (by omega), fm_at hw (hw.right hi (.inr (.inr k))) (by omega)]
theorem fmI {N : List Nd} (hw : Wf N) {y a b : Int} (hi : inb y N.length = true) (hn : nd N y = impN a b) : fm N y = .imp (fm N a) (fm N b) := by
 rw [fm5 hw hi (by rw [hn]; rfl), hn]; rfl
def Hd (K : Kr) (w : K.W) (M : List Nd) (b : Bits) : Prop := ∀ j : Int, b.has j = true → K.fc (fm M j) w
theorem Hd.up {K : Kr} {w v : K.W} {M : List Nd} {b : Bits} (h : Hd K w M b) (hv : K.le w v) : Hd K v M b := fun j hj => K.up _ hv (h j hj)
def Valid (M : List Nd) (s : Sq) : Prop := ∀ (K : Kr) (w : K.W), Hd K w M s.left → K.fc (fm M s.goal) w
def Refd (M : List Nd) (s : Sq) : Prop := ∃ (K : Kr) (w : K.W), Hd K w M s.left ∧ ¬ K.fc (fm M s.goal) w
structure TExt (M N : List Nd) : Prop where
 len : M.length ≤ N.length
 eq : ∀ j : Int, inb j M.length = true → nd N j = nd M j
theorem TExt.refl (M : List Nd) : TExt M M := ⟨Nat.le_refl _, fun _ _ => rfl⟩
theorem TExt.trans {A B C : List Nd} (h : TExt A B) (k : TExt B C) : TExt A C := ⟨Nat.le_trans h.len k.len, fun j hj => by rw [k.eq j (inb_mono hj h.len), h.eq j hj]⟩
theorem TExt.fm {M N : List Nd} (h : TExt M N) (hw : Wf M) {i : Int} (hi : inb i M.length = true) : fm N i = fm M i := fm_ext hw h.eq hi
theorem TExt.look {M N : List Nd} (h : TExt M N) {s : Sq} (hl : lookV M s = true) : lookV N s = true := by
 obtain ⟨k1, k2⟩ := lookV_iff.1 hl
 exact lookV_iff.2 ⟨fun j hj => inb_mono (k1 j hj) h.len, inb_mono k2 h.len⟩
theorem TExt.hd {M N : List Nd} (h : TExt M N) (hw : Wf M) {b : Bits} (hb : ∀ j : Int, b.has j = true → inb j M.length = true) (K : Kr) (w : K.W) : Hd K w N b ↔ Hd K w M b := by
 refine ⟨fun q j hj => ?_, fun q j hj => ?_⟩
 ·have := q j hj; rwa [h.fm hw (hb j hj)] at this
 ·rw [h.fm hw (hb j hj)]; exact q j hj
theorem TExt.valid {M N : List Nd} (h : TExt M N) (hw : Wf M) {s : Sq} (hl : lookV M s = true) : Valid N s ↔ Valid M s := by
 obtain ⟨k1, k2⟩ := lookV_iff.1 hl
 unfold Valid
 refine forall_congr' fun K => forall_congr' fun w => ?_
 rw [h.hd hw k1, h.fm hw k2]
theorem TExt.refd {M N : List Nd} (h : TExt M N) (hw : Wf M) {s : Sq} (hl : lookV M s = true) : Refd N s ↔ Refd M s := by
 obtain ⟨k1, k2⟩ := lookV_iff.1 hl
 unfold Refd
 refine exists_congr fun K => exists_congr fun w => ?_
 rw [h.hd hw k1, h.fm hw k2]
theorem hd_add {K : Kr} {w : K.W} {M : List Nd} {b : Bits} {x : Int} (hx : 0 ≤ x ∧ x < 1024) : Hd K w M (b.add x) ↔ K.fc (fm M x) w ∧ Hd K w M b := all_add hx
theorem hd_del {K : Kr} {w : K.W} {M : List Nd} {b : Bits} {x : Int} (hx : b.has x = true) : Hd K w M b ↔ K.fc (fm M x) w ∧ Hd K w M (b.del x) := all_del hx
theorem prem_valid {M N : List Nd} {s : Sq} {i r : Int} {L : List Sq} (hw : Wf M) (hb : s.left.okB = true) (hl : lookV M s = true) (hi : inb i M.length = true) (h : PremR M s i r N L) (hv : ∀ p ∈ L, Valid N p) : Valid N s := by
 obtain ⟨wN, lN, qN, _⟩ := prem_wf hw hb hl hi h
 have hE : TExt M N := ⟨lN, qN⟩
 have k345 : (nd M i).kind = 3 ∨ (nd M i).kind = 4 ∨ (nd M i).kind = 5 → (0 ≤ (nd M i).l ∧ (nd M i).l < 1024) ∧ (0 ≤ (nd M i).r ∧ (nd M i).r < 1024) := fun k => ⟨in1024 hw.len (hw.left hi k), in1024 hw.len (hw.right hi k)⟩
 have f3 : (nd M i).kind = 3 → fm N i = .and (fm N (nd M i).l) (fm N (nd M i).r) := fun k => by rw [hE.fm hw hi, hE.fm hw (hw.left hi (.inl k)), hE.fm hw (hw.right hi (.inl k))]; exact fm3 hw hi k
 have f4 : (nd M i).kind = 4 → fm N i = .or (fm N (nd M i).l) (fm N (nd M i).r) := fun k => by rw [hE.fm hw hi, hE.fm hw (hw.left hi (.inr (.inl k))), hE.fm hw (hw.right hi (.inr (.inl k)))]; exact fm4 hw hi k
 have f5 : (nd M i).kind = 5 → fm N i = .imp (fm N (nd M i).l) (fm N (nd M i).r) := fun k => by rw [hE.fm hw hi, hE.fm hw (hw.left hi (.inr (.inr k))), hE.fm hw (hw.right hi (.inr (.inr k)))]; exact fm5 hw hi k
 intro K w H
 cases h with
 | bot h k => have := H i h; rw [fm2 k] at this; exact this.elim
 | ax h g => rw [← g]; exact H i h
 | andL h k =>
  obtain ⟨hx, hy⟩ := k345 (.inl k)
  have h1 := (hd_del h).1 H
  rw [f3 k] at h1
  exact hv _ (List.mem_singleton.2 rfl) K w ((hd_add hy).2 ⟨h1.1.2, (hd_add hx).2 ⟨h1.1.1, h1.2⟩⟩)
 | atom h k c a =>
  obtain ⟨hx, hy⟩ := k345 (.inr (.inr k))
  have h1 := (hd_del h).1 H
  rw [f5 k] at h1
  exact hv _ (List.mem_singleton.2 rfl) K w ((hd_add hy).2 ⟨h1.1 w (K.refl w) (H _ a), h1.2⟩)
 | botL h k c => exact hv _ (List.mem_singleton.2 rfl) K w ((hd_del h).1 H).2
 | impR g k =>
  obtain ⟨hx, hy⟩ := k345 (.inr (.inr k))
  rw [← g, f5 k]
  intro v hwv hv1
  exact hv _ (List.mem_singleton.2 rfl) K v ((hd_add hx).2 ⟨hv1, H.up hwv⟩)
 | andR g k =>
  rw [← g, f3 k]
  exact ⟨hv _ (List.mem_cons_self ..) K w H, hv _ (List.mem_cons_of_mem _ (List.mem_cons_self ..)) K w H⟩
 | orL h k =>
  obtain ⟨hx, hy⟩ := k345 (.inr (.inl k))
  have h1 := (hd_del h).1 H
  rw [f4 k] at h1
  rcases h1.1 with q | q
  ·exact hv _ (List.mem_cons_self ..) K w ((hd_add hx).2 ⟨q, h1.2⟩)
  ·exact hv _ (List.mem_cons_of_mem _ (List.mem_cons_self ..)) K w ((hd_add hy).2 ⟨q, h1.2⟩)
 | orR1 g k =>
  rw [← g, f4 k]
  exact .inl (hv _ (List.mem_singleton.2 rfl) K w H)
 | orR2 g k =>
  rw [← g, f4 k]
  exact .inr (hv _ (List.mem_singleton.2 rfl) K w H)
 | conj h k c e1 e2 =>
  obtain ⟨n1, w1, i1, q1, l1⟩ := put_nd hw e1
  obtain ⟨n2, w2, i2, q2, l2⟩ := put_nd w1 e2
  generalize hA1 : putS M (impN (nd M (nd M i).l).r (nd M i).r) = A1 at *
  generalize hA2 : putS A1.1 (impN (nd M (nd M i).l).l A1.2.1) = A2 at *
  have hli := hw.left hi (.inr (.inr k))
  have fc : fm A2.1 (nd M i).l = .and (fm A2.1 (nd M (nd M i).l).l) (fm A2.1 (nd M (nd M i).l).r) := by rw [hE.fm hw hli, hE.fm hw (hw.left hli (.inl c)), hE.fm hw (hw.right hli (.inl c))]; exact fm3 hw hli c
  have fx : fm A2.1 A1.2.1 = .imp (fm A2.1 (nd M (nd M i).l).r) (fm A2.1 (nd M i).r) := fmI wN (inb_mono i1 l2) (by rw [q2 _ i1]; exact n1)
  have fy : fm A2.1 A2.2.1 = .imp (fm A2.1 (nd M (nd M i).l).l) (fm A2.1 A1.2.1) := fmI wN i2 n2
  have h1 := (hd_del h).1 H
  rw [f5 k, fc] at h1
  refine hv _ (List.mem_singleton.2 rfl) K w ((hd_add (in1024 wN.len i2)).2 ⟨?_, h1.2⟩)
  rw [fy, fx]
  intro v hv1 hC u hu hD
  exact h1.1 u (K.trans hv1 hu) ⟨K.up _ hu hC, hD⟩
 | disj h k c e1 e2 =>
  obtain ⟨n1, w1, i1, q1, l1⟩ := put_nd hw e1
  obtain ⟨n2, w2, i2, q2, l2⟩ := put_nd w1 e2
  generalize hA1 : putS M (impN (nd M (nd M i).l).l (nd M i).r) = A1 at *
  generalize hA2 : putS A1.1 (impN (nd M (nd M i).l).r (nd M i).r) = A2 at *
  have hli := hw.left hi (.inr (.inr k))
  have fc : fm A2.1 (nd M i).l = .or (fm A2.1 (nd M (nd M i).l).l) (fm A2.1 (nd M (nd M i).l).r) := by rw [hE.fm hw hli, hE.fm hw (hw.left hli (.inr (.inl c))), hE.fm hw (hw.right hli (.inr (.inl c)))]; exact fm4 hw hli c
  have fx : fm A2.1 A1.2.1 = .imp (fm A2.1 (nd M (nd M i).l).l) (fm A2.1 (nd M i).r) := fmI wN (inb_mono i1 l2) (by rw [q2 _ i1]; exact n1)
  have fy : fm A2.1 A2.2.1 = .imp (fm A2.1 (nd M (nd M i).l).r) (fm A2.1 (nd M i).r) := fmI wN i2 n2
  have h1 := (hd_del h).1 H
  rw [f5 k, fc] at h1
  refine hv _ (List.mem_singleton.2 rfl) K w ((hd_add (in1024 wN.len i2)).2 ⟨?_, (hd_add (in1024 w1.len i1)).2 ⟨?_, h1.2⟩⟩)
  ·rw [fy]; exact fun v hv1 hC => h1.1 v hv1 (.inr hC)
  ·rw [fx]; exact fun v hv1 hC => h1.1 v hv1 (.inl hC)
 | impL h k c e1 =>
  obtain ⟨n1, w1, i1, q1, l1⟩ := put_nd hw e1
  generalize hA1 : putS M (impN (nd M (nd M i).l).r (nd M i).r) = A1 at *
  have hli := hw.left hi (.inr (.inr k))
  obtain ⟨_, hy⟩ := k345 (.inr (.inr k))
  have fc : fm A1.1 (nd M i).l = .imp (fm A1.1 (nd M (nd M i).l).l) (fm A1.1 (nd M (nd M i).l).r) := by rw [hE.fm hw hli, hE.fm hw (hw.left hli (.inr (.inr c))), hE.fm hw (hw.right hli (.inr (.inr c)))]; exact fm5 hw hli c
  have fx : fm A1.1 A1.2.1 = .imp (fm A1.1 (nd M (nd M i).l).r) (fm A1.1 (nd M i).r) := fmI wN i1 n1
  have h1 := (hd_del h).1 H
  rw [f5 k] at h1
  have hCD : K.fc (fm A1.1 (nd M i).l) w := by
   refine hv _ (List.mem_cons_self ..) K w ((hd_add (in1024 wN.len i1)).2 ⟨?_, h1.2⟩)
   rw [fx]
   refine fun v hv1 hD => h1.1 v hv1 ?_
   rw [fc]
   exact fun u hu _ => K.up _ hu hD
  exact hv _ (List.mem_cons_of_mem _ (List.mem_cons_self ..)) K w ((hd_add hy).2 ⟨h1.1 w (K.refl w) hCD, h1.2⟩)
theorem prem_refd {M N : List Nd} {s p : Sq} {i r : Int} {L : List Sq} (hw : Wf M) (hb : s.left.okB = true) (hl : lookV M s = true) (hi : inb i M.length = true) (h : PremR M s i r N L) (hp : p ∈ L) (hr : r ≠ 11 ∧ r ≠ 12) (h13 : r = 13 → L[1]? = some p) (hv : Refd N p) : Refd N s := by
 obtain ⟨wN, lN, qN, _⟩ := prem_wf hw hb hl hi h
 have hE : TExt M N := ⟨lN, qN⟩
 have k345 : (nd M i).kind = 3 ∨ (nd M i).kind = 4 ∨ (nd M i).kind = 5 → (0 ≤ (nd M i).l ∧ (nd M i).l < 1024) ∧ (0 ≤ (nd M i).r ∧ (nd M i).r < 1024) := fun k => ⟨in1024 hw.len (hw.left hi k), in1024 hw.len (hw.right hi k)⟩
 have f3 : (nd M i).kind = 3 → fm N i = .and (fm N (nd M i).l) (fm N (nd M i).r) := fun k => by rw [hE.fm hw hi, hE.fm hw (hw.left hi (.inl k)), hE.fm hw (hw.right hi (.inl k))]; exact fm3 hw hi k
 have f4 : (nd M i).kind = 4 → fm N i = .or (fm N (nd M i).l) (fm N (nd M i).r) := fun k => by rw [hE.fm hw hi, hE.fm hw (hw.left hi (.inr (.inl k))), hE.fm hw (hw.right hi (.inr (.inl k)))]; exact fm4 hw hi k
 have f5 : (nd M i).kind = 5 → fm N i = .imp (fm N (nd M i).l) (fm N (nd M i).r) := fun k => by rw [hE.fm hw hi, hE.fm hw (hw.left hi (.inr (.inr k))), hE.fm hw (hw.right hi (.inr (.inr k)))]; exact fm5 hw hi k
 obtain ⟨K, w, H, hg⟩ := hv
 refine ⟨K, w, ?_⟩
 cases h with
 | bot h k => cases hp
 | ax h g => cases hp
 | andL h k =>
  obtain ⟨hx, hy⟩ := k345 (.inl k)
  rw [List.mem_singleton] at hp; subst hp
  obtain ⟨h1, h2⟩ := (hd_add hy).1 H
  obtain ⟨h3, h4⟩ := (hd_add hx).1 h2
  exact ⟨(hd_del h).2 ⟨by rw [f3 k]; exact ⟨h3, h1⟩, h4⟩, hg⟩
 | atom h k c a =>
  obtain ⟨hx, hy⟩ := k345 (.inr (.inr k))
  rw [List.mem_singleton] at hp; subst hp
  obtain ⟨h1, h2⟩ := (hd_add hy).1 H
  exact ⟨(hd_del h).2 ⟨by rw [f5 k]; exact fun v hv _ => K.up _ hv h1, h2⟩, hg⟩
 | botL h k c =>
  rw [List.mem_singleton] at hp; subst hp
  refine ⟨(hd_del h).2 ⟨?_, H⟩, hg⟩
  rw [f5 k, fm2 c]
  exact fun v _ q => q.elim
 | impR g k =>
  obtain ⟨hx, hy⟩ := k345 (.inr (.inr k))
  rw [List.mem_singleton] at hp; subst hp
  obtain ⟨h1, h2⟩ := (hd_add hx).1 H
  refine ⟨h2, ?_⟩
  rw [← g, f5 k]
  exact fun q => hg (q w (K.refl w) h1)
 | andR g k =>
  simp only [List.mem_cons, List.not_mem_nil, or_false] at hp
  rw [← g, f3 k]
  rcases hp with rfl | rfl
  ·exact ⟨H, fun q => hg q.1⟩
  ·exact ⟨H, fun q => hg q.2⟩
 | orL h k =>
  obtain ⟨hx, hy⟩ := k345 (.inr (.inl k))
  simp only [List.mem_cons, List.not_mem_nil, or_false] at hp
  rcases hp with rfl | rfl
  ·obtain ⟨h1, h2⟩ := (hd_add hx).1 H
   exact ⟨(hd_del h).2 ⟨by rw [f4 k]; exact .inl h1, h2⟩, hg⟩
  ·obtain ⟨h1, h2⟩ := (hd_add hy).1 H
   exact ⟨(hd_del h).2 ⟨by rw [f4 k]; exact .inr h1, h2⟩, hg⟩
 | orR1 g k => exact absurd rfl hr.1
 | orR2 g k => exact absurd rfl hr.2
 | conj h k c e1 e2 =>
  obtain ⟨n1, w1, i1, q1, l1⟩ := put_nd hw e1
  obtain ⟨n2, w2, i2, q2, l2⟩ := put_nd w1 e2
  generalize hA1 : putS M (impN (nd M (nd M i).l).r (nd M i).r) = A1 at *
  generalize hA2 : putS A1.1 (impN (nd M (nd M i).l).l A1.2.1) = A2 at *
  have hli := hw.left hi (.inr (.inr k))
  have fc : fm A2.1 (nd M i).l = .and (fm A2.1 (nd M (nd M i).l).l) (fm A2.1 (nd M (nd M i).l).r) := by rw [hE.fm hw hli, hE.fm hw (hw.left hli (.inl c)), hE.fm hw (hw.right hli (.inl c))]; exact fm3 hw hli c
  have fx : fm A2.1 A1.2.1 = .imp (fm A2.1 (nd M (nd M i).l).r) (fm A2.1 (nd M i).r) := fmI wN (inb_mono i1 l2) (by rw [q2 _ i1]; exact n1)
  have fy : fm A2.1 A2.2.1 = .imp (fm A2.1 (nd M (nd M i).l).l) (fm A2.1 A1.2.1) := fmI wN i2 n2
  rw [List.mem_singleton] at hp; subst hp
  obtain ⟨h1, h2⟩ := (hd_add (in1024 wN.len i2)).1 H
  refine ⟨(hd_del h).2 ⟨?_, h2⟩, hg⟩
  rw [f5 k, fc]
  rw [fy, fx] at h1
  exact fun v hv q => h1 v hv q.1 v (K.refl v) q.2
 | disj h k c e1 e2 =>
  obtain ⟨n1, w1, i1, q1, l1⟩ := put_nd hw e1
  obtain ⟨n2, w2, i2, q2, l2⟩ := put_nd w1 e2
  generalize hA1 : putS M (impN (nd M (nd M i).l).l (nd M i).r) = A1 at *
  generalize hA2 : putS A1.1 (impN (nd M (nd M i).l).r (nd M i).r) = A2 at *
  have hli := hw.left hi (.inr (.inr k))
  have fc : fm A2.1 (nd M i).l = .or (fm A2.1 (nd M (nd M i).l).l) (fm A2.1 (nd M (nd M i).l).r) := by rw [hE.fm hw hli, hE.fm hw (hw.left hli (.inr (.inl c))), hE.fm hw (hw.right hli (.inr (.inl c)))]; exact fm4 hw hli c
  have fx : fm A2.1 A1.2.1 = .imp (fm A2.1 (nd M (nd M i).l).l) (fm A2.1 (nd M i).r) := fmI wN (inb_mono i1 l2) (by rw [q2 _ i1]; exact n1)
  have fy : fm A2.1 A2.2.1 = .imp (fm A2.1 (nd M (nd M i).l).r) (fm A2.1 (nd M i).r) := fmI wN i2 n2
  rw [List.mem_singleton] at hp; subst hp
  obtain ⟨h1, h2⟩ := (hd_add (in1024 wN.len i2)).1 H
  obtain ⟨h3, h4⟩ := (hd_add (in1024 w1.len i1)).1 h2
  refine ⟨(hd_del h).2 ⟨?_, h4⟩, hg⟩
  rw [f5 k, fc]
  rw [fy] at h1
  rw [fx] at h3
  exact fun v hv q => q.elim (h3 v hv) (h1 v hv)
 | impL h k c e1 =>
  obtain ⟨_, hy⟩ := k345 (.inr (.inr k))
  have hp := h13 rfl
  simp only [List.getElem?_cons_succ, List.getElem?_cons_zero, Option.some.injEq] at hp
  subst hp
  obtain ⟨h1, h2⟩ := (hd_add hy).1 H
  refine ⟨(hd_del h).2 ⟨?_, h2⟩, hg⟩
  rw [f5 k]
  exact fun v hv _ => K.up _ hv h1
end Go.Proofs.YtjjkhjieegmphaaDoor
end
section
namespace Go.Proofs.YtjjkhjieegmphaaDoor
open Gw
section
variable {ι : Type} (K : ι → Kr) (w0 : ∀ i, (K i).W)
inductive GLe : Option (Σ i, (K i).W) → Option (Σ i, (K i).W) → Prop
 | root : GLe none none
 | down {i : ι} {v : (K i).W} (h : (K i).le (w0 i) v) : GLe none (some ⟨i, v⟩)
 | inn {i : ι} {u v : (K i).W} (h : (K i).le u v) : GLe (some ⟨i, u⟩) (some ⟨i, v⟩)
theorem GLe.trans {a b c : Option (Σ i, (K i).W)} (h : GLe K w0 a b) (k : GLe K w0 b c) : GLe K w0 a c := by
 cases h with
 | root => exact k
 | down h =>
  cases k with
  | inn k => exact .down ((K _).trans h k)
 | inn h =>
  cases k with
  | inn k => exact .inn ((K _).trans h k)
def gval (at0 : Int → Prop) : Option (Σ i, (K i).W) → Int → Prop
 | none, a => at0 a
 | some ⟨i, v⟩, a => (K i).val v a
def glue (at0 : Int → Prop) (h0 : ∀ a i, at0 a → (K i).val (w0 i) a) : Kr where
 W := Option (Σ i, (K i).W)
 le := GLe K w0
 refl := fun w => match w with
  | none => .root
  | some ⟨i, v⟩ => .inn ((K i).refl v)
 trans := GLe.trans K w0
 val := gval K at0
 mono := fun {a b p} h hp => by
  cases h with
  | root => exact hp
  | down h => exact (K _).mono h (h0 _ _ hp)
  | inn h => exact (K _).mono h hp
theorem glue_in {at0 : Int → Prop} {h0 : ∀ a i, at0 a → (K i).val (w0 i) a} : ∀ (x : Fm) (i : ι) (v : (K i).W), (glue K w0 at0 h0).fc x (some ⟨i, v⟩) ↔ (K i).fc x v
 | .atom a, i, v => Iff.rfl
 | .bot, i, v => Iff.rfl
 | .and x y, i, v => and_congr (glue_in x i v) (glue_in y i v)
 | .or x y, i, v => or_congr (glue_in x i v) (glue_in y i v)
 | .imp x y, i, v => by
  constructor
  ·intro h u hu hx
   exact (glue_in y i u).1 (h (some ⟨i, u⟩) (.inn hu) ((glue_in x i u).2 hx))
  ·intro h u hu hx
   cases hu with
   | inn hu => exact (glue_in y i _).2 (h _ hu ((glue_in x i _).1 hx))
end
theorem stuck_refd {N : List Nd} {s : Sq} (hw : Wf N) (hl : lookV N s = true)
  (hk : ∀ j : Int, s.left.has j = true → (nd N j).kind = 1 ∨ ((nd N j).kind = 5 ∧ (nd N (nd N j).l).kind = 1 ∧ s.left.has (nd N j).l = false) ∨ ((nd N j).kind = 5 ∧ (nd N (nd N j).l).kind = 5))
  (hg : ((nd N s.goal).kind = 1 ∧ s.left.has s.goal = false) ∨ (nd N s.goal).kind = 2 ∨ (nd N s.goal).kind = 4)
  (hor : (nd N s.goal).kind = 4 → Refd N ⟨s.left, (nd N s.goal).l⟩ ∧ Refd N ⟨s.left, (nd N s.goal).r⟩)
  (himp : ∀ j : Int, s.left.has j = true → (nd N j).kind = 5 → (nd N (nd N j).l).kind = 5 → ∃ d : Int, (0 ≤ d ∧ d < 1024) ∧ fm N d = .imp (fm N (nd N (nd N j).l).r) (fm N (nd N j).r) ∧ Refd N ⟨(s.left.del j).add d, (nd N j).l⟩) : Refd N s := by
 obtain ⟨hin, hgin⟩ := lookV_iff.1 hl
 let Rel : Int → Prop := fun x => (x = -1 ∧ (nd N s.goal).kind = 4) ∨ (x = -2 ∧ (nd N s.goal).kind = 4) ∨ (0 ≤ x ∧ s.left.has x = true ∧ (nd N x).kind = 5 ∧ (nd N (nd N x).l).kind = 5)
 let tgt : Int → Int := fun x => if x = -1 then (nd N s.goal).l else if x = -2 then (nd N s.goal).r else (nd N x).l
 have hex : ∀ x : { x : Int // Rel x }, ∃ (K : Kr) (w : K.W), Hd K w N s.left ∧ ¬ K.fc (fm N (tgt x.1)) w := by
  rintro ⟨x, hx⟩
  rcases hx with ⟨rfl, h4⟩ | ⟨rfl, h4⟩ | ⟨h0, hh, k5, l5⟩
  ·obtain ⟨K, w, h1, h2⟩ := (hor h4).1
   exact ⟨K, w, h1, h2⟩
  ·obtain ⟨K, w, h1, h2⟩ := (hor h4).2
   exact ⟨K, w, h1, h2⟩
  ·obtain ⟨d, hd, fd, K, w, h1, h2⟩ := himp x hh k5 l5
   have ht : tgt x = (nd N x).l := by
    show (if x = -1 then _ else if x = -2 then _ else _) = _
    rw [if_neg (by omega), if_neg (by omega)]
   have hi := hin x hh
   have hli := hw.left hi (.inr (.inr k5))
   obtain ⟨h3, h4⟩ := (hd_add hd).1 h1
   rw [fd] at h3
   have hfl := fm5 hw hli l5
   simp only at h2
   rw [hfl] at h2
   have hv : ∃ v, K.le w v ∧ K.fc (fm N (nd N (nd N x).l).l) v ∧ ¬ K.fc (fm N (nd N (nd N x).l).r) v := by
    refine Classical.byContradiction fun q => h2 fun v hv hC => Classical.byContradiction fun hD => q ⟨v, hv, hC, hD⟩
   obtain ⟨v, hv, hC, hD⟩ := hv
   refine ⟨K, v, (hd_del hh).2 ⟨?_, h4.up hv⟩, ?_⟩
   ·rw [fm5 hw hi k5, hfl]
    intro u hu q
    exact h3 u (K.trans hv hu) (q u (K.refl u) (K.up _ hu hC))
   ·show ¬ K.fc (fm N (tgt x)) v
    rw [ht, hfl]
    exact fun q => hD (q v (K.refl v) hC)
 obtain ⟨K, hK⟩ := Classical.axiomOfChoice hex
 obtain ⟨w0, hw0⟩ := Classical.axiomOfChoice hK
 let at0 : Int → Prop := fun a => s.left.has a = true ∧ (nd N a).kind = 1
 have h0 : ∀ a i, at0 a → (K i).val (w0 i) a := by
  rintro a i ⟨h1, h2⟩
  have := (hw0 i).1 a h1
  rw [fm1 h2] at this; exact this
 have hinn : ∀ (x : Fm) (i : { x : Int // Rel x }) (v : (K i).W), (glue K w0 at0 h0).fc x (some ⟨i, v⟩) ↔ (K i).fc x v := glue_in K w0
 have hdown : ∀ (x : Fm) (i : { x : Int // Rel x }), (glue K w0 at0 h0).fc x none → (K i).fc x (w0 i) := fun x i h => (hinn x i _).1 ((glue K w0 at0 h0).up x (GLe.down ((K i).refl _)) h)
 refine ⟨glue K w0 at0 h0, none, fun j hj => ?_, ?_⟩
 ·have hi := hin j hj
  rcases hk j hj with k1 | ⟨k5, l1, hn⟩ | ⟨k5, l5⟩
  ·rw [fm1 k1]; exact ⟨hj, k1⟩
  ·have hf := fm5 hw hi k5
   rw [hf]
   intro v hv q
   cases hv with
   | root =>
    rw [fm1 l1] at q
    exact absurd q.1 (by rw [hn]; simp)
   | @down i' v' hv =>
    have := (hw0 i').1 j hj
    rw [hf] at this
    exact (hinn _ _ _).2 (this _ hv ((hinn _ _ _).1 q))
  ·have hf := fm5 hw hi k5
   rw [hf]
   intro v hv q
   cases hv with
   | root =>
    have hr : Rel j := .inr (.inr ⟨(inb_ex hi).1, hj, k5, l5⟩)
    have ht : tgt j = (nd N j).l := by
     show (if j = -1 then _ else if j = -2 then _ else _) = _
     have := (inb_ex hi).1
     rw [if_neg (by omega), if_neg (by omega)]
    have h2 := (hw0 ⟨j, hr⟩).2
    simp only [ht] at h2
    exact absurd (hdown _ ⟨j, hr⟩ q) h2
   | @down i' v' hv =>
    have := (hw0 i').1 j hj
    rw [hf] at this
    exact (hinn _ _ _).2 (this _ hv ((hinn _ _ _).1 q))
 ·rcases hg with ⟨k1, hn⟩ | k2 | k4
  ·rw [fm1 k1]
   exact fun q => absurd q.1 (by rw [hn]; simp)
  ·rw [fm2 k2]; exact fun q => q
  ·rw [fm4 hw hgin k4]
   rintro (q | q)
   ·have hr : Rel (-1) := .inl ⟨rfl, k4⟩
    exact (hw0 ⟨-1, hr⟩).2 (hdown _ ⟨-1, hr⟩ q)
   ·have hr : Rel (-2) := .inr (.inl ⟨rfl, k4⟩)
    exact (hw0 ⟨-2, hr⟩).2 (hdown _ ⟨-2, hr⟩ q)
end Go.Proofs.YtjjkhjieegmphaaDoor
end
section
namespace Go.Proofs.YtjjkhjieegmphaaDoor
open Gw
set_option maxRecDepth 100000
abbrev wt (W : List Int) (i : Int) : Int := at_ (0 : Int) W i
theorem chk_t {α : Type} {b : Bool} {x : Option α} (h : b = true) : chk b x = x := by rw [chk, if_pos h]
def Falls (l : List Int) : Prop := l.Pairwise fun a b => b ≤ a
def fms (s : Sq) : List Int := s.left.list.map (fun (n : Nat) => (n : Int)) ++ [s.goal]
def lessV : List Int → List Int → Bool
 | [], b => !b.isEmpty
 | _ :: _, [] => false
 | x :: a, y :: b => if x = y then lessV a b else decide (x < y)
theorem less_of_count {m : Int} : ∀ {a b : List Int}, Falls a → Falls b → (∀ u, m ≤ u → a.count u ≤ b.count u) → a.count m < b.count m → lessV a b = true
 | _, [], _, _, _, h => by simp at h
 | [], _ :: _, _, _, _, _ => rfl
 | x :: a, y :: b, ha, hb, hu, hm => by
  have ha' := List.pairwise_cons.1 ha
  have hb' := List.pairwise_cons.1 hb
  rw [lessV]
  by_cases e : x = y
  ·subst e
   rw [if_pos rfl]
   refine less_of_count (m := m) ha'.2 hb'.2 (fun u h => ?_) ?_
   ·have := hu u h
    rw [List.count_cons, List.count_cons] at this
    omega
   ·rw [List.count_cons, List.count_cons] at hm
    omega
  ·rw [if_neg e, decide_eq_true_eq]
   refine Int.lt_iff_le_and_ne.2 ⟨Int.not_lt.1 fun hlt => ?_, e⟩
   have hz : ∀ u, y < u → (y :: b).count u = 0 := fun u h => List.count_eq_zero.2 fun q => by
    rcases List.mem_cons.1 q with rfl | q
    ·omega
    ·have := hb'.1 u q; omega
   by_cases hxm : m ≤ x
   ·have h1 := hu x hxm
    rw [hz x hlt, List.count_cons_self] at h1
    omega
   ·rw [hz m (by omega)] at hm; omega
end Go.Proofs.YtjjkhjieegmphaaDoor
end
section
namespace Go.Proofs.YtjjkhjieegmphaaDoor
open Gw
end Go.Proofs.YtjjkhjieegmphaaDoor
end
section
namespace Go.Proofs.YtjjkhjieegmphaaDoor
open Gw
set_option maxRecDepth 100000
theorem countP_lt {α : Type} {p q : α → Bool} : ∀ {l : List α}, (∀ x ∈ l, p x = true → q x = true) → (∃ x ∈ l, q x = true ∧ p x = false) → l.countP p < l.countP q
 | [], _, h => by obtain ⟨x, hx, _⟩ := h; cases hx
 | y :: l, h, hs => by
  have hm : l.countP p ≤ l.countP q := List.countP_mono_left fun x hx => h x (List.mem_cons_of_mem _ hx)
  rw [List.countP_cons, List.countP_cons]
  have hy := h y (List.mem_cons_self ..)
  obtain ⟨x, hx, h1, h2⟩ := hs
  rcases List.mem_cons.1 hx with rfl | hx
  ·simp only [h1, h2, if_true, Bool.false_eq_true, if_false]; omega
  ·have := countP_lt (l := l) (fun x hx => h x (List.mem_cons_of_mem _ hx)) ⟨x, hx, h1, h2⟩
   by_cases hp : p y = true
   ·simp only [hp, hy hp, if_true]; omega
   ·simp only [hp, Bool.false_eq_true, if_false]; omega
def cl (W : List Int) (b : Bits) (u : Int) : Nat := b.list.countP fun (j : Nat) => decide (wt W j = u)
theorem cl_eq (W : List Int) (b : Bits) (u : Int) : cl W b u = (List.range 1024).countP fun (j : Nat) => decide (wt W j = u) && b.has j := by
 unfold cl Bits.list; rw [List.countP_filter]
theorem cl_le {W : List Int} {b c : Bits} {u : Int} (h : ∀ j : Int, c.has j = true → wt W j = u → b.has j = true) : cl W c u ≤ cl W b u := by
 rw [cl_eq, cl_eq]
 refine List.countP_mono_left fun j _ hj => ?_
 simp only [Bool.and_eq_true, decide_eq_true_eq] at hj ⊢
 exact ⟨hj.1, h _ hj.2 hj.1⟩
theorem cl_lt {W : List Int} {b c : Bits} {u i : Int} (h : ∀ j : Int, c.has j = true → wt W j = u → b.has j = true) (hi : b.has i = true) (hu : wt W i = u) (hn : c.has i = false) : cl W c u < cl W b u := by
 rw [cl_eq, cl_eq]
 have hr : 0 ≤ i ∧ i < 1024 := by
  refine Decidable.byContradiction fun q => ?_
  rw [Bits.has_out _ _ (by omega)] at hi; cases hi
 have hin : ((i.toNat : Nat) : Int) = i := by omega
 refine countP_lt (fun j _ hj => ?_) ⟨i.toNat, List.mem_range.2 (by omega), ?_, ?_⟩
 ·simp only [Bool.and_eq_true, decide_eq_true_eq] at hj ⊢
  exact ⟨hj.1, h _ hj.2 hj.1⟩
 ·rw [hin, hi, hu]; simp
 ·rw [hin, hn]; simp
theorem cnt_fms (W : List Int) (s : Sq) (u : Int) : ((fms s).map (wt W)).count u = cl W s.left u + if wt W s.goal = u then 1 else 0 := by
 unfold fms cl
 rw [List.map_append, List.count_append, List.map_map, List.map_singleton, List.count_singleton, List.count_eq_countP, List.countP_map]
 congr 1
 by_cases h : wt W s.goal = u <;> simp [h]
def Lighter (W : List Int) (m : Int) (p s : Sq) : Prop := (∀ u, m ≤ u → ((fms p).map (wt W)).count u ≤ ((fms s).map (wt W)).count u) ∧ ((fms p).map (wt W)).count m < ((fms s).map (wt W)).count m
theorem lighter_left {W : List Int} {m i : Int} {p s : Sq} (hm : wt W i = m) (his : s.left.has i = true) (hl : ∀ j : Int, p.left.has j = true → (s.left.has j = true ∧ j ≠ i) ∨ wt W j < m) (hg : p.goal = s.goal ∨ wt W p.goal < m) : Lighter W m p s := by
 have h1 : ∀ u, m ≤ u → ∀ j : Int, p.left.has j = true → wt W j = u → s.left.has j = true := fun u hu j hj e => (hl j hj).elim (·.1) (fun q => by omega)
 have h2 : p.left.has i = false := by
  cases h : p.left.has i with
  | false => rfl
  | true => exact ((hl i h).elim (fun q => absurd rfl q.2) (fun q => by omega))
 refine ⟨fun u hu => ?_, ?_⟩
 ·rw [cnt_fms, cnt_fms]
  have := cl_le (h1 u hu)
  rcases hg with e | e
  ·rw [e]; omega
  ·rw [if_neg (by omega)]; omega
 ·rw [cnt_fms, cnt_fms]
  have := cl_lt (h1 m (Int.le_refl _)) his hm h2
  rcases hg with e | e
  ·rw [e]; omega
  ·rw [if_neg (by omega)]; omega
theorem lighter_right {W : List Int} {m : Int} {p s : Sq} (hm : wt W s.goal = m) (hl : ∀ j : Int, p.left.has j = true → s.left.has j = true ∨ wt W j < m) (hg : wt W p.goal < m) : Lighter W m p s := by
 have h1 : ∀ u, m ≤ u → ∀ j : Int, p.left.has j = true → wt W j = u → s.left.has j = true := fun u hu j hj e => (hl j hj).elim id (fun q => by omega)
 refine ⟨fun u hu => ?_, ?_⟩
 ·rw [cnt_fms, cnt_fms]
  have := cl_le (h1 u hu)
  rw [if_neg (by omega)]; omega
 ·rw [cnt_fms, cnt_fms]
  have := cl_le (h1 m (Int.le_refl _))
  rw [if_neg (by omega), if_pos hm]; omega
theorem add_has' {b : Bits} {x j : Int} (hx : 0 ≤ x ∧ x < 1024) (h : (b.add x).has j = true) : j = x ∨ b.has j = true := by
 rw [Bits.add_has _ _ _ hx] at h
 simpa using h
theorem del_has' {b : Bits} {x j : Int} (h : (b.del x).has j = true) : b.has j = true ∧ j ≠ x := by
 rw [Bits.del_has] at h
 simp only [Bool.and_eq_true, Bool.not_eq_true', decide_eq_false_iff_not] at h
 exact ⟨h.2, h.1⟩
theorem fms_inb {N : List Nd} {s : Sq} (hl : lookV N s = true) : ∀ x ∈ fms s, inb x N.length = true := by
 obtain ⟨l1, l2⟩ := lookV_iff.1 hl
 intro x hx
 rcases List.mem_append.1 hx with hx | hx
 ·obtain ⟨j, hj, rfl⟩ := List.mem_map.1 hx
  exact l1 j (Bits.mem_list.1 hj).2
 ·rw [List.mem_singleton.1 hx]; exact l2
theorem forN_go {ρ σ : Type} {b : Int → σ → Option (Stp σ ρ)} {x : σ} : ∀ (n i : Nat), (∀ j : Nat, i ≤ j → j < i + n → b j x = some (.go x)) → forN b n i x = some (.inl x)
 | 0, i, _ => by simp [forN]
 | n + 1, i, h => by
  rw [forN, h i (Nat.le_refl _) (by omega)]
  have := forN_go (b := b) (x := x) n (i + 1) fun j h1 h2 => h j (by omega) (by omega)
  simpa using this
theorem prem_len {M N : List Nd} {s : Sq} {i r : Int} {L : List Sq} (h : PremR M s i r N L) : L.length ≤ 2 := by cases h <;> simp
end Go.Proofs.YtjjkhjieegmphaaDoor
end
section
namespace Go.Proofs.YtjjkhjieegmphaaDoor
open Gw
def uwF (M : List Nd) : Nat → Int → Int
 | 0, _ => 1
 | n + 1, i => if (nd M i).kind = 1 ∨ (nd M i).kind = 2 then 1 else uwF M n (nd M i).l + uwF M n (nd M i).r + (if (nd M i).kind = 3 then 2 else 1)
def uw (M : List Nd) : List Int := (List.range M.length).map fun (j : Nat) => uwF M (j + 1) j
theorem uwF_two {M N : List Nd} (hw : Wf M) (hN : ∀ j : Int, inb j M.length = true → nd N j = nd M j) : ∀ (n m : Nat) (i : Int), inb i M.length = true → i.toNat < n → i.toNat < m → uwF N n i = uwF M m i := by
 intro n
 induction n with
 | zero => intro m i _ h; omega
 | succ n ih =>
  intro m i hi h1 h2
  obtain ⟨m, rfl⟩ : ∃ q, m = q + 1 := ⟨m - 1, by omega⟩
  rw [uwF, uwF, hN i hi]
  have hk := hw.kind i hi
  have h0 := inb_ex hi
  by_cases k12 : (nd M i).kind = 1 ∨ (nd M i).kind = 2
  ·rw [if_pos k12, if_pos k12]
  ·have k : (nd M i).kind = 3 ∨ (nd M i).kind = 4 ∨ (nd M i).kind = 5 := by omega
   have hks := hw.kids i hi k
   rw [if_neg k12, if_neg k12, ih m _ (hw.left hi k) (by omega) (by omega), ih m _ (hw.right hi k) (by omega) (by omega)]
theorem uw_at {M : List Nd} {i : Int} (hi : inb i M.length = true) : wt (uw M) i = uwF M (i.toNat + 1) i := by
 have h0 := inb_ex hi
 have h1 : i.toNat < M.length := by omega
 unfold wt at_ uw
 rw [List.getD_eq_getElem?_getD, List.getElem?_map, List.getElem?_range h1]
 have : ((i.toNat : Nat) : Int) = i := by omega
 simp [this]
theorem uwF_pos (M : List Nd) : ∀ (n : Nat) (i : Int), 1 ≤ uwF M n i
 | 0, _ => by simp [uwF]
 | n + 1, i => by
  have h1 := uwF_pos M n (nd M i).l
  have h2 := uwF_pos M n (nd M i).r
  rw [uwF]
  split
  ·omega
  ·split <;> omega
theorem uw_ext {M N : List Nd} (hw : Wf M) (h : TExt M N) {i : Int} (hi : inb i M.length = true) : wt (uw N) i = wt (uw M) i := by
 rw [uw_at hi, uw_at (inb_mono hi h.len)]
 exact uwF_two hw h.eq _ _ i hi (by omega) (by omega)
theorem w_unc {N : List Nd} {i : Int} (hw : Wf N) (hi : inb i N.length = true) (hk : (nd N i).kind = 3 ∨ (nd N i).kind = 4 ∨ (nd N i).kind = 5) :
  wt (uw N) i = wt (uw N) (nd N i).l + wt (uw N) (nd N i).r + (if (nd N i).kind = 3 then 2 else 1) ∧ 1 ≤ wt (uw N) (nd N i).l ∧ 1 ≤ wt (uw N) (nd N i).r := by
 have hl := hw.left hi hk
 have hr := hw.right hi hk
 have hks := hw.kids i hi hk
 rw [uw_at hi, uw_at hl, uw_at hr]
 refine ⟨?_, uwF_pos _ _ _, uwF_pos _ _ _⟩
 rw [uwF, if_neg (by omega), uwF_two hw (fun _ _ => rfl) i.toNat ((nd N i).l.toNat + 1) _ hl (by omega) (by omega), uwF_two hw (fun _ _ => rfl) i.toNat ((nd N i).r.toNat + 1) _ hr (by omega) (by omega)]
theorem w_new' {N : List Nd} {y a b : Int} (hw : Wf N) (hi : inb y N.length = true) (hn : nd N y = impN a b) : wt (uw N) y ≤ wt (uw N) a + wt (uw N) b + 1 := by
 have hk : (nd N y).kind = 5 := by rw [hn]; rfl
 have h := (w_unc hw hi (.inr (.inr hk))).1
 have e2 : (impN a b).l = a := rfl
 have e3 : (impN a b).r = b := rfl
 rw [if_neg (by omega), hn, e2, e3] at h
 omega
theorem prem_lighter {M N : List Nd} {s : Sq} {i r : Int} {L : List Sq} (hw : Wf M) (hb : s.left.okB = true) (hl : lookV M s = true) (hi : inb i M.length = true) (h : PremR M s i r N L) : ∀ p ∈ L, Lighter (uw N) (wt (uw N) i) p s := by
 obtain ⟨wN, lN, qN, _⟩ := prem_wf hw hb hl hi h
 have hiN := inb_mono hi lN
 have mn : (s.left.has i = true ∨ i = s.goal) → (nd M i).kind = 3 ∨ (nd M i).kind = 4 ∨ (nd M i).kind = 5 → wt (uw N) i = wt (uw N) (nd M i).l + wt (uw N) (nd M i).r + (if (nd M i).kind = 3 then 2 else 1) ∧ 1 ≤ wt (uw N) (nd M i).l ∧ 1 ≤ wt (uw N) (nd M i).r := fun _ k => by
  have := w_unc wN hiN (by rw [qN i hi]; exact k)
  rw [qN i hi] at this; exact this
 have mn2 : s.left.has i = true → (nd M i).kind = 5 → (nd M (nd M i).l).kind = 3 ∨ (nd M (nd M i).l).kind = 4 ∨ (nd M (nd M i).l).kind = 5 → wt (uw N) (nd M i).l = wt (uw N) (nd M (nd M i).l).l + wt (uw N) (nd M (nd M i).l).r + (if (nd M (nd M i).l).kind = 3 then 2 else 1) ∧ 1 ≤ wt (uw N) (nd M (nd M i).l).l ∧ 1 ≤ wt (uw N) (nd M (nd M i).l).r := fun _ k k2 => by
  have hli := hw.left hi (.inr (.inr k))
  have := w_unc wN (inb_mono hli lN) (by rw [qN _ hli]; exact k2)
  rw [qN _ hli] at this; exact this
 have k345 : (nd M i).kind = 3 ∨ (nd M i).kind = 4 ∨ (nd M i).kind = 5 → (0 ≤ (nd M i).l ∧ (nd M i).l < 1024) ∧ (0 ≤ (nd M i).r ∧ (nd M i).r < 1024) := fun k => ⟨in1024 hw.len (hw.left hi k), in1024 hw.len (hw.right hi k)⟩
 cases h with
 | bot h k => intro p hp; cases hp
 | ax h g => intro p hp; cases hp
 | andL h k =>
  obtain ⟨hx, hy⟩ := k345 (.inl k)
  have := mn (.inl h) (.inl k)
  rw [if_pos k] at this
  intro p hp
  rw [List.mem_singleton] at hp; subst hp
  refine lighter_left rfl h (fun j hj => ?_) (.inl rfl)
  rcases add_has' hy hj with rfl | hj
  ·exact .inr (by omega)
  rcases add_has' hx hj with rfl | hj
  ·exact .inr (by omega)
  ·exact .inl (del_has' hj)
 | atom h k c a =>
  obtain ⟨hx, hy⟩ := k345 (.inr (.inr k))
  have := mn (.inl h) (.inr (.inr k))
  rw [if_neg (by omega)] at this
  intro p hp
  rw [List.mem_singleton] at hp; subst hp
  refine lighter_left rfl h (fun j hj => ?_) (.inl rfl)
  rcases add_has' hy hj with rfl | hj
  ·exact .inr (by omega)
  ·exact .inl (del_has' hj)
 | botL h k c =>
  intro p hp
  rw [List.mem_singleton] at hp; subst hp
  exact lighter_left rfl h (fun j hj => .inl (del_has' hj)) (.inl rfl)
 | impR g k =>
  obtain ⟨hx, hy⟩ := k345 (.inr (.inr k))
  have := mn (.inr g) (.inr (.inr k))
  rw [if_neg (by omega)] at this
  intro p hp
  rw [List.mem_singleton] at hp; subst hp
  refine lighter_right (by rw [g]) (fun j hj => ?_) (by show wt (uw _) (nd M i).r < _; omega)
  rcases add_has' hx hj with rfl | hj
  ·exact .inr (by omega)
  ·exact .inl hj
 | andR g k =>
  have := mn (.inr g) (.inl k)
  rw [if_pos k] at this
  intro p hp
  simp only [List.mem_cons, List.not_mem_nil, or_false] at hp
  rcases hp with rfl | rfl
  ·exact lighter_right (by rw [g]) (fun j hj => .inl hj) (by show wt (uw _) (nd M i).l < _; omega)
  ·exact lighter_right (by rw [g]) (fun j hj => .inl hj) (by show wt (uw _) (nd M i).r < _; omega)
 | orL h k =>
  obtain ⟨hx, hy⟩ := k345 (.inr (.inl k))
  have := mn (.inl h) (.inr (.inl k))
  rw [if_neg (by omega)] at this
  intro p hp
  simp only [List.mem_cons, List.not_mem_nil, or_false] at hp
  rcases hp with rfl | rfl
  ·refine lighter_left rfl h (fun j hj => ?_) (.inl rfl)
   rcases add_has' hx hj with rfl | hj
   ·exact .inr (by omega)
   ·exact .inl (del_has' hj)
  ·refine lighter_left rfl h (fun j hj => ?_) (.inl rfl)
   rcases add_has' hy hj with rfl | hj
   ·exact .inr (by omega)
   ·exact .inl (del_has' hj)
 | orR1 g k =>
  have := mn (.inr g) (.inr (.inl k))
  rw [if_neg (by omega)] at this
  intro p hp
  rw [List.mem_singleton] at hp; subst hp
  exact lighter_right (by rw [g]) (fun j hj => .inl hj) (by show wt (uw _) (nd M i).l < _; omega)
 | orR2 g k =>
  have := mn (.inr g) (.inr (.inl k))
  rw [if_neg (by omega)] at this
  intro p hp
  rw [List.mem_singleton] at hp; subst hp
  exact lighter_right (by rw [g]) (fun j hj => .inl hj) (by show wt (uw _) (nd M i).r < _; omega)
 | conj h k c e1 e2 =>
  have m1 := mn (.inl h) (.inr (.inr k))
  have m2 := mn2 h k (.inl c)
  rw [if_neg (by omega)] at m1
  rw [if_pos c] at m2
  obtain ⟨n1, w1, i1, q1, l1⟩ := put_nd hw e1
  obtain ⟨n2, w2, i2, q2, l2⟩ := put_nd w1 e2
  generalize hA1 : putS M (impN (nd M (nd M i).l).r (nd M i).r) = A1 at n1 w1 i1 q1 l1 n2 w2 i2 q2 l2 wN mn mn2 m1 m2 e1 e2 ⊢
  generalize hA2 : putS A1.1 (impN (nd M (nd M i).l).l A1.2.1) = A2 at n2 w2 i2 q2 l2 wN mn mn2 m1 m2 e2 ⊢
  have v1 := w_new' wN (inb_mono i1 l2) (by rw [q2 _ i1]; exact n1)
  have v2 := w_new' wN i2 n2
  intro p hp
  rw [List.mem_singleton] at hp; subst hp
  refine lighter_left rfl h (fun j hj => ?_) (.inl rfl)
  rcases add_has' (in1024 w2.len i2) hj with rfl | hj
  ·exact .inr (by omega)
  ·exact .inl (del_has' hj)
 | disj h k c e1 e2 =>
  have m1 := mn (.inl h) (.inr (.inr k))
  have m2 := mn2 h k (.inr (.inl c))
  rw [if_neg (by omega)] at m1 m2
  obtain ⟨n1, w1, i1, q1, l1⟩ := put_nd hw e1
  obtain ⟨n2, w2, i2, q2, l2⟩ := put_nd w1 e2
  generalize hA1 : putS M (impN (nd M (nd M i).l).l (nd M i).r) = A1 at n1 w1 i1 q1 l1 n2 w2 i2 q2 l2 wN mn mn2 m1 m2 e1 e2 ⊢
  generalize hA2 : putS A1.1 (impN (nd M (nd M i).l).r (nd M i).r) = A2 at n2 w2 i2 q2 l2 wN mn mn2 m1 m2 e2 ⊢
  have v1 := w_new' wN (inb_mono i1 l2) (by rw [q2 _ i1]; exact n1)
  have v2 := w_new' wN i2 n2
  intro p hp
  rw [List.mem_singleton] at hp; subst hp
  refine lighter_left rfl h (fun j hj => ?_) (.inl rfl)
  rcases add_has' (in1024 w2.len i2) hj with rfl | hj
  ·exact .inr (by omega)
  rcases add_has' (in1024 w1.len i1) hj with rfl | hj
  ·exact .inr (by omega)
  ·exact .inl (del_has' hj)
 | impL h k c e1 =>
  have m1 := mn (.inl h) (.inr (.inr k))
  have m2 := mn2 h k (.inr (.inr c))
  rw [if_neg (by omega)] at m1 m2
  obtain ⟨hx, hy⟩ := k345 (.inr (.inr k))
  obtain ⟨n1, w1, i1, q1, l1⟩ := put_nd hw e1
  generalize hA1 : putS M (impN (nd M (nd M i).l).r (nd M i).r) = A1 at n1 w1 i1 q1 l1 wN mn mn2 m1 m2 e1 ⊢
  have v1 := w_new' wN i1 n1
  intro p hp
  simp only [List.mem_cons, List.not_mem_nil, or_false] at hp
  rcases hp with rfl | rfl
  ·refine lighter_left rfl h (fun j hj => ?_) (.inr (by show wt (uw _) (nd M i).l < _; omega))
   rcases add_has' (in1024 w1.len i1) hj with rfl | hj
   ·exact .inr (by omega)
   ·exact .inl (del_has' hj)
  ·refine lighter_left rfl h (fun j hj => ?_) (.inl rfl)
   rcases add_has' hy hj with rfl | hj
   ·exact .inr (by omega)
   ·exact .inl (del_has' hj)
def srt (l : List Int) : List Int := l.mergeSort fun a b => decide (b ≤ a)
theorem srt_falls (l : List Int) : Falls (srt l) := by
 have := List.pairwise_mergeSort (le := fun (a b : Int) => decide (b ≤ a)) (fun a b c h1 h2 => by simp at *; omega) (fun a b => by simp; omega) l
 exact this.imp fun h => by simpa using h
theorem srt_perm (l : List Int) : (srt l).Perm l := List.mergeSort_perm _ _
def rank (M : List Nd) (q : Sq) : List Int := srt ((fms q).map (wt (uw M)))
def Below (M : List Nd) (p s : Sq) : Prop := lessV (rank M p) (rank M s) = true
theorem lessV_irr : ∀ a : List Int, lessV a a = false
 | [] => rfl
 | x :: a => by rw [lessV, if_pos rfl]; exact lessV_irr a
theorem lessV_trans : ∀ {a b c : List Int}, lessV a b = true → lessV b c = true → lessV a c = true
 | [], b, [], _, h => by cases b <;> simp [lessV] at h
 | [], _, _ :: _, _, _ => rfl
 | _ :: _, [], _, h, _ => by simp [lessV] at h
 | _ :: _, _ :: _, [], _, h => by simp [lessV] at h
 | x :: a, y :: b, z :: c, h, k => by
  rw [lessV] at h k ⊢
  by_cases e1 : x = y
  ·rw [if_pos e1] at h
   by_cases e2 : y = z
   ·rw [if_pos e2] at k; rw [if_pos (e1.trans e2)]; exact lessV_trans h k
   ·rw [if_neg e2] at k; rw [if_neg (by omega), e1]; exact k
  ·rw [if_neg e1, decide_eq_true_eq] at h
   by_cases e2 : y = z
   ·rw [if_neg (by omega), decide_eq_true_eq]; omega
   ·rw [if_neg e2, decide_eq_true_eq] at k
    rw [if_neg (by omega), decide_eq_true_eq]; omega
theorem Below.irr {M : List Nd} {s : Sq} (h : Below M s s) : False := by unfold Below at h; rw [lessV_irr] at h; cases h
theorem Below.trans {M : List Nd} {a b c : Sq} (h : Below M a b) (k : Below M b c) : Below M a c := lessV_trans h k
theorem rank_ext {M N : List Nd} (hw : Wf M) (h : TExt M N) {q : Sq} (hl : lookV M q = true) : rank N q = rank M q := by
 unfold rank
 rw [List.map_congr_left fun x hx => uw_ext hw h (fms_inb hl x hx)]
theorem Below.ext {M N : List Nd} (hw : Wf M) (h : TExt M N) {p s : Sq} (hp : lookV M p = true) (hs : lookV M s = true) (hb : Below M p s) : Below N p s := by
 unfold Below; rw [rank_ext hw h hp, rank_ext hw h hs]; exact hb
theorem below_of {M : List Nd} {p s : Sq} {m : Int} (h : Lighter (uw M) m p s) : Below M p s := by
 unfold Below rank
 refine less_of_count (m := m) (srt_falls _) (srt_falls _) (fun u hu => ?_) ?_
 ·rw [(srt_perm _).count_eq, (srt_perm _).count_eq]; exact h.1 u hu
 ·rw [(srt_perm _).count_eq, (srt_perm _).count_eq]; exact h.2
theorem prem_below {M N : List Nd} {s : Sq} {i r : Int} {L : List Sq} (hw : Wf M) (hb : s.left.okB = true) (hl : lookV M s = true) (hi : inb i M.length = true) (h : PremR M s i r N L) : ∀ p ∈ L, Below N p s := fun p hp => below_of (prem_lighter hw hb hl hi h p hp)
end Go.Proofs.YtjjkhjieegmphaaDoor
end
section
namespace Go.Proofs.YtjjkhjieegmphaaDoor
open Gw
theorem look_ins {α β : Type} [DecidableEq α] (x y : α) (v : β) : ∀ l : List (α × β), Gw.look y (Gw.ins x v l) = if y = x then some v else Gw.look y l
 | [] => by simp [Gw.ins, Gw.look]
 | (k, u) :: l => by
  by_cases e : x = k
  ·subst e
   by_cases e2 : y = x <;> simp [Gw.ins, Gw.look, e2]
  ·by_cases e2 : y = k
   ·have : ¬ y = x := fun q => e (q.symm.trans e2)
    have : ¬ k = x := fun q => e q.symm
    simp [Gw.ins, Gw.look, e, e2, this]
   ·simp [Gw.ins, Gw.look, e, e2, look_ins x y v l]
structure SI (B : Int) (x : PFinder) (M : List Nd) : Prop where
 t : x.t = some M
 wf : Wf M
 bud : 0 ≤ x.left ∧ x.left + x.visits = B ∧ B ≤ 4096 ∧ (x.steps.length : Int) ≤ x.visits
 c1 : ∀ (i : Nat) (p : PStep), x.steps[i]? = some p → Gw.look p.seq x.at_ = some (i : Int)
 c2 : ∀ (q : Sq) (v : Int), Gw.look q x.at_ = some v → ∃ (i : Nat) (p : PStep), v = i ∧ x.steps[i]? = some p ∧ p.seq = q
 seq : ∀ p ∈ x.steps, p.seq.left.okB = true ∧ lookV M p.seq = true
 sem : ∀ p ∈ x.steps, (p.proved = true → Valid M p.seq) ∧ (p.proved = false → Refd M p.seq)
 kids : ∀ (i : Nat) (p : PStep), x.steps[i]? = some p → ∀ j ∈ p.kids, ∃ (n : Nat) (q : PStep), j = n ∧ n < i ∧ x.steps[n]? = some q ∧ q.proved = p.proved
 kl : ∀ p ∈ x.steps, p.kids.length ≤ 4096
structure Mid (B : Int) (x y : PFinder) (M M' : List Nd) (s : Sq) : Prop where
 si : SI B y M'
 ext : TExt M M'
 new : ∃ K, y.steps = x.steps ++ K ∧ ∀ p ∈ K, Below M' p.seq s
 left : y.left ≤ x.left - 1
 cnt : y.visits - y.steps.length = x.visits + 1 - x.steps.length
structure Ps (B : Int) (x y : PFinder) (M M' : List Nd) (s : Sq) (av : Int) : Prop where
 si : SI B y M'
 ext : TExt M M'
 new : ∃ K, y.steps = x.steps ++ K ∧ ∀ p ∈ K, p.seq = s ∨ Below M' p.seq s
 left : y.left ≤ x.left
 cnt : y.visits - y.steps.length = x.visits - x.steps.length
 at_ : ∃ (i : Nat) (p : PStep), av = i ∧ y.steps[i]? = some p ∧ p.seq = s
 last : y.steps = x.steps ∨ av + 1 = (y.steps.length : Int)
structure Er (M : List Nd) (y : PFinder) : Prop where
 ex : ∃ N, y.t = some N ∧ N.take M.length = M ∧ N.Nodup ∧ M.length ≤ N.length
def Out (B : Int) (x : PFinder) (M : List Nd) (s : Sq) (r : PFinder × Int × Int) : Prop :=
 (r.2.2 = 0 → ∃ M', Ps B x r.1 M M' s r.2.1) ∧ (r.2.2 ≠ 0 → Er M r.1)
theorem take_of {M N : List Nd} (h : TExt M N) : N.take M.length = M := by
 have hl := h.len
 refine List.ext_getElem (by simp; omega) fun i h1 h2 => ?_
 have hi : inb (i : Int) M.length = true := by rw [inb_nat]; simpa using h2
 have := h.eq i hi
 rw [← nd_at hi, ← nd_at (inb_mono hi hl), rows_take h2, rows_take (by omega)] at this
 rw [List.getElem_take]; exact this
theorem SI.er {B : Int} {y : PFinder} {M M' : List Nd} (h : SI B y M') (e : TExt M M') : Er M y := ⟨M', h.t, take_of e, h.wf.nodup, e.len⟩
theorem Er.mono {M M' : List Nd} {y : PFinder} (h : Er M' y) (e : TExt M M') : Er M y := by
 obtain ⟨N, h1, h2, h3, h4⟩ := h.ex
 refine ⟨N, h1, ?_, h3, Nat.le_trans e.len h4⟩
 have : M'.take M.length = M := take_of e
 rw [← this, ← h2, List.take_take, Nat.min_eq_left e.len]
 simp [Nat.min_eq_left e.len, List.take_take]
theorem SI.next {B : Int} {x y : PFinder} {M N : List Nd} (h : SI B x M) (e : TExt M N) (wN : Wf N) (ht : y.t = some N) (h1 : y.steps = x.steps) (h2 : y.at_ = x.at_) (hl : 0 ≤ y.left ∧ y.left + y.visits = B ∧ x.visits ≤ y.visits) : SI B y N where
 t := ht
 wf := wN
 bud := ⟨hl.1, hl.2.1, h.bud.2.2.1, by rw [h1]; have := h.bud.2.2.2; omega⟩
 c1 := by rw [h1, h2]; exact h.c1
 c2 := by rw [h1, h2]; exact h.c2
 seq := by rw [h1]; exact fun p hp => ⟨(h.seq p hp).1, e.look (h.seq p hp).2⟩
 sem := by
  rw [h1]
  intro p hp
  have hq := (h.seq p hp).2
  exact ⟨fun q => (e.valid h.wf hq).2 ((h.sem p hp).1 q), fun q => (e.refd h.wf hq).2 ((h.sem p hp).2 q)⟩
 kids := by rw [h1]; exact h.kids
 kl := by rw [h1]; exact h.kl
theorem end_some {B : Int} {x y : PFinder} {M M' : List Nd} {s : Sq} {p : PStep} (hx : SI B x M) (hs : Gw.look s x.at_ = none) (h : Mid B x y M M' s) (hb : s.left.okB = true) (hl : lookV M s = true) (hp : p.seq = s)
  (hsem : (p.proved = true → Valid M' s) ∧ (p.proved = false → Refd M' s)) (hk : ∀ j ∈ p.kids, ∃ (n : Nat) (q : PStep), j = n ∧ y.steps[n]? = some q ∧ q.proved = p.proved) (hkl : p.kids.length ≤ 4096) :
  ∃ r, search_finder_end.f y p = some r ∧ r.2.2 = 0 ∧ Ps B x r.1 M M' s r.2.1 := by
 have hbud := h.si.bud
 have hxb := hx.bud
 have hcnt := h.cnt
 have hnone : Gw.look s y.at_ = none := by
  cases hv : Gw.look s y.at_ with
  | none => rfl
  | some v =>
   exfalso
   obtain ⟨i, q, _, h1, h2⟩ := h.si.c2 s v hv
   obtain ⟨K, hK, hbK⟩ := h.new
   rw [hK] at h1
   by_cases hi : i < x.steps.length
   ·rw [List.getElem?_append_left hi] at h1
    have := hx.c1 i q h1
    rw [h2, hs] at this; cases this
   ·rw [List.getElem?_append_right (by omega)] at h1
    have := hbK q (List.mem_of_getElem? h1)
    rw [h2] at this; exact this.irr
 have hchk : decide ((y.steps.length + 1) * 184 ≤ 140737488355328) = true := decide_eq_true (by omega)
 have hlen : ((y.steps ++ [p]).length : Int) = y.steps.length + 1 := by simp
 refine ⟨_, by unfold search_finder_end.f; exact chk_t hchk, rfl, ?_⟩
 have hget : ∀ (i : Nat) (q : PStep), (y.steps ++ [p])[i]? = some q → (y.steps[i]? = some q ∧ i < y.steps.length) ∨ (i = y.steps.length ∧ q = p) := fun i q hq => by
  by_cases hi : i < y.steps.length
  ·rw [List.getElem?_append_left hi] at hq; exact .inl ⟨hq, hi⟩
  ·rw [List.getElem?_append_right (by omega)] at hq
   have : i - y.steps.length = 0 := by
    have := (List.getElem?_eq_some_iff.1 hq).1; simp at this; omega
   rw [this] at hq
   simp at hq
   exact .inr ⟨by omega, hq.symm⟩
 have hold : ∀ (i : Nat) (q : PStep), y.steps[i]? = some q → (y.steps ++ [p])[i]? = some q := fun i q hq => by
  rw [List.getElem?_append_left (List.getElem?_eq_some_iff.1 hq).1]; exact hq
 have hne : ∀ (i : Nat) (q : PStep), y.steps[i]? = some q → q.seq ≠ s := fun i q hq e => by
  have := h.si.c1 i q hq
  rw [e, hnone] at this; cases this
 have hwr : IntKind.i64.wrap (((y.steps ++ [p]).length : Int) - 1) = y.steps.length := by rw [hlen, wrap_small (by omega)]; omega
 refine ⟨⟨h.si.t, h.si.wf, ⟨hbud.1, hbud.2.1, hbud.2.2.1, ?_⟩, ?_, ?_, ?_, ?_, ?_, ?_⟩, h.ext, ?_, ?_, ?_, ?_, .inr ?_⟩
 ·show ((y.steps ++ [p]).length : Int) ≤ y.visits
  omega
 ·intro i q hq
  show Gw.look q.seq (Gw.ins p.seq (y.steps.length : Int) y.at_) = _
  rw [look_ins]
  rcases hget i q hq with ⟨h1, h2⟩ | ⟨rfl, rfl⟩
  ·rw [if_neg (by rw [hp]; exact hne i q h1)]; exact h.si.c1 i q h1
  ·rw [if_pos rfl]
 ·intro q v hv
  change Gw.look q (Gw.ins p.seq (y.steps.length : Int) y.at_) = _ at hv
  rw [look_ins] at hv
  by_cases e : q = p.seq
  ·rw [if_pos e] at hv
   exact ⟨y.steps.length, p, (Option.some.inj hv).symm, by simp, e.symm⟩
  ·rw [if_neg e] at hv
   obtain ⟨i, q', h1, h2, h3⟩ := h.si.c2 q v hv
   exact ⟨i, q', h1, hold i q' h2, h3⟩
 ·intro q hq
  rcases List.mem_append.1 hq with hq | hq
  ·exact h.si.seq q hq
  ·rw [List.mem_singleton.1 hq, hp]; exact ⟨hb, h.ext.look hl⟩
 ·intro q hq
  rcases List.mem_append.1 hq with hq | hq
  ·exact h.si.sem q hq
  ·rw [List.mem_singleton.1 hq, hp]; exact hsem
 ·intro i q hq j hj
  rcases hget i q hq with ⟨h1, h2⟩ | ⟨rfl, rfl⟩
  ·obtain ⟨n, q', e1, e2, e3, e4⟩ := h.si.kids i q h1 j hj
   exact ⟨n, q', e1, e2, hold n q' e3, e4⟩
  ·obtain ⟨n, q', e1, e3, e4⟩ := hk j hj
   exact ⟨n, q', e1, (List.getElem?_eq_some_iff.1 e3).1, hold n q' e3, e4⟩
 ·intro q hq
  rcases List.mem_append.1 hq with hq | hq
  ·exact h.si.kl q hq
  ·rw [List.mem_singleton.1 hq]; exact hkl
 ·obtain ⟨K, hK, hbK⟩ := h.new
  refine ⟨K ++ [p], by show y.steps ++ [p] = _; rw [hK, List.append_assoc], fun q hq => ?_⟩
  rcases List.mem_append.1 hq with hq | hq
  ·exact .inr (hbK q hq)
  ·rw [List.mem_singleton.1 hq]; exact .inl hp
 ·show y.left ≤ x.left
  have := h.left; omega
 ·show y.visits - ((y.steps ++ [p]).length : Int) = _
  omega
 ·exact ⟨y.steps.length, p, hwr, by simp, hp⟩
 ·show IntKind.i64.wrap (((y.steps ++ [p]).length : Int) - 1) + 1 = ((y.steps ++ [p]).length : Int)
  omega
theorem mid_step {B : Int} {x y z : PFinder} {M M' M2 : List Nd} {s p : Sq} {v : Int} (h : Mid B x y M M' s) (hs : lookV M s = true) (hp : lookV M' p = true) (hb : Below M' p s) (k : Ps B y z M' M2 p v) : Mid B x z M M2 s := by
 obtain ⟨K, hK, hbK⟩ := h.new
 obtain ⟨J, hJ, hbJ⟩ := k.new
 have hsM' := h.ext.look hs
 have hps : Below M2 p s := hb.ext h.si.wf k.ext hp hsM'
 refine ⟨k.si, h.ext.trans k.ext, ⟨K ++ J, by rw [hJ, hK, List.append_assoc], fun q hq => ?_⟩, by have := h.left; have := k.left; omega, by have := h.cnt; have := k.cnt; omega⟩
 rcases List.mem_append.1 hq with hq | hq
 ·exact (hbK q hq).ext h.si.wf k.ext ((h.si.seq q (by rw [hK]; exact List.mem_append_right _ hq)).2) hsM'
 ·rcases hbJ q hq with e | e
  ·rw [e]; exact hps
  ·exact e.trans hps
theorem at_of {l : List PStep} {i : Nat} {p : PStep} (h : l[i]? = some p) : at_ PStep.z l (i : Int) = p ∧ inb (i : Int) l.length = true := by
 have hl := (List.getElem?_eq_some_iff.1 h).1
 refine ⟨?_, by rw [inb_nat]; simpa using hl⟩
 unfold at_
 rw [Int.toNat_natCast, List.getD_eq_getElem?_getD, h]; rfl
def RecOk (B : Int) (n : Nat) (rec : PFinder → Sq → Option (PFinder × Int × Int)) : Prop :=
 ∀ (x : PFinder) (M : List Nd) (s : Sq), SI B x M → s.left.okB = true → lookV M s = true → x.left.toNat < n → ∃ r, rec x s = some r ∧ Out B x M s r
theorem Premises_err {M : List Nd} {s : Sq} {r i : Int} {N : List Nd} {L : List Sq} {e : Int} (hw : Wf M) (hl : lookV M s = true) (hb : s.left.okB = true) (h : rule_Premises.f (some M) s r i = some (some N, L, e)) (he : e ≠ 0) : N = M := by
 unfold rule_Premises.f at h
 rw [look_some hb, hl, fits_some hb] at h
 simp only [if_true, ne_eq, not_true_eq_false, decide_false, Bool.false_eq_true, if_false, Option.bind_some] at h
 cases hf : fitsV M s r i with
 | false => simp [hf] at h; exact h.1.symm
 | true =>
  simp only [hf, Bool.not_true, Bool.false_eq_true, if_false] at h
  obtain ⟨n, h1, h⟩ := bind_ex h
  have hn : n = (M.length : Int) := by simpa [formula_Table_Len.f] using h1.symm
  obtain ⟨⟨T, L', e'⟩, h2, h⟩ := bind_ex h
  by_cases he' : e' = 0
  ·simp [he'] at h; exact absurd h.2.2.symm he
  ·simp only [he', not_false_eq_true, decide_true, if_true] at h
   obtain ⟨⟨T2, c⟩, h3, h4⟩ := bind_ex h
   simp only [Option.some.injEq, Prod.mk.injEq] at h4
   have key : ∃ N', T = some N' ∧ N'.take M.length = M ∧ N'.Nodup ∧ M.length ≤ N'.length := by
    obtain ⟨hi, hc⟩ := fits_cases hf
    have k345 : (nd M i).kind = 3 ∨ (nd M i).kind = 4 ∨ (nd M i).kind = 5 → (0 ≤ (nd M i).l ∧ (nd M i).l < 1024) ∧ (0 ≤ (nd M i).r ∧ (nd M i).r < 1024) := fun k => ⟨in1024 hw.len (hw.left hi k), in1024 hw.len (hw.right hi k)⟩
    rcases hc with rfl | ⟨rfl, k⟩ | ⟨rfl, k⟩ | ⟨hr, k⟩ | ⟨rfl, k⟩ | ⟨rfl, k⟩ | ⟨rfl, k⟩ | ⟨k, hc⟩
    ·simp -implicitDefEqProofs [rule_premises.f, node_some, bits_Drop.f, chk, hb] at h2; exact absurd h2.2.2.symm he'
    ·obtain ⟨hx, hy⟩ := k345 (.inr (.inr k))
     simp -implicitDefEqProofs [rule_premises.f, node_some, bits_Drop.f, chk, hb, withP1 hb hx, rule_to.f] at h2; exact absurd h2.2.2.symm he'
    ·simp -implicitDefEqProofs [rule_premises.f, node_some, bits_Drop.f, chk, hb, rule_to.f] at h2; exact absurd h2.2.2.symm he'
    ·rcases hr with rfl | rfl
     ·simp -implicitDefEqProofs [rule_premises.f, node_some, bits_Drop.f, chk, hb, rule_to.f] at h2; exact absurd h2.2.2.symm he'
     ·simp -implicitDefEqProofs [rule_premises.f, node_some, bits_Drop.f, chk, hb, rule_to.f] at h2; exact absurd h2.2.2.symm he'
    ·simp -implicitDefEqProofs [rule_premises.f, node_some, bits_Drop.f, chk, hb] at h2; exact absurd h2.2.2.symm he'
    ·obtain ⟨hx, hy⟩ := k345 (.inl k)
     simp -implicitDefEqProofs [rule_premises.f, node_some, bits_Drop.f, chk, hb, withP2m (okB_del i) hx hy] at h2; exact absurd h2.2.2.symm he'
    ·obtain ⟨hx, hy⟩ := k345 (.inr (.inl k))
     simp -implicitDefEqProofs [rule_premises.f, node_some, bits_Drop.f, chk, hb, withP1m (okB_del i) hx, withP1m (okB_del i) hy] at h2; exact absurd h2.2.2.symm he'
    ·obtain ⟨hx, hy⟩ := k345 (.inr (.inr k))
     rcases hc with ⟨rfl, c⟩ | ⟨rfl, c⟩ | ⟨rfl, c⟩ | ⟨rfl, c⟩ | ⟨rfl, c⟩
     ·simp -implicitDefEqProofs [rule_premises.f, node_some, bits_Drop.f, chk, hb, withP1m (okB_del i) hy] at h2; exact absurd h2.2.2.symm he'
     ·simp -implicitDefEqProofs [rule_premises.f, node_some, bits_Drop.f, chk, hb] at h2; exact absurd h2.2.2.symm he'
     ·have q1 := put_props (n := impN (nd M (nd M i).l).r (nd M i).r) hw.len hw.nodup
      generalize hA : putS M (impN (nd M (nd M i).l).r (nd M i).r) = A1 at q1
      have q2 := put_props (n := impN (nd M (nd M i).l).l A1.2.1) q1.2.2.2.2.1 q1.2.2.2.1
      generalize hB : putS A1.1 (impN (nd M (nd M i).l).l A1.2.1) = A2 at q2
      by_cases e1 : A1.2.2 = 0
      ·by_cases e2 : A2.2.2 = 0
       ·simp -implicitDefEqProofs [rule_premises.f, node_some, bits_Drop.f, chk, hb, rule_pair.f, rule_imps__rule_pair_1__rule_premises_1.f, rule_pair_1.f, rule_premises_1.f, impP, at_, inb, hA, hB, e1, e2, withP1m (okB_del i) (q2.2.1 e2)] at h2; exact absurd h2.2.2.symm he'
       ·simp -implicitDefEqProofs [rule_premises.f, node_some, bits_Drop.f, chk, hb, rule_pair.f, rule_imps__rule_pair_1__rule_premises_1.f, rule_pair_1.f, rule_premises_1.f, impP, at_, inb, hA, hB, e1, e2] at h2
        have := q2.1 e2
        exact ⟨A2.1, h2.1.symm, by rw [this]; exact q1.2.2.1, q2.2.2.2.1, by rw [this]; exact q1.2.2.2.2.2⟩
      ·simp -implicitDefEqProofs [rule_premises.f, node_some, bits_Drop.f, chk, hb, rule_pair.f, rule_imps__rule_pair_1__rule_premises_1.f, rule_pair_1.f, rule_premises_1.f, impP, at_, inb, hA, e1] at h2
       exact ⟨A1.1, h2.1.symm, q1.2.2.1, q1.2.2.2.1, q1.2.2.2.2.2⟩
     ·have q1 := put_props (n := impN (nd M (nd M i).l).l (nd M i).r) hw.len hw.nodup
      generalize hA : putS M (impN (nd M (nd M i).l).l (nd M i).r) = A1 at q1
      have q2 := put_props (n := impN (nd M (nd M i).l).r (nd M i).r) q1.2.2.2.2.1 q1.2.2.2.1
      generalize hB : putS A1.1 (impN (nd M (nd M i).l).r (nd M i).r) = A2 at q2
      by_cases e1 : A1.2.2 = 0
      ·by_cases e2 : A2.2.2 = 0
       ·simp -implicitDefEqProofs [rule_premises.f, node_some, bits_Drop.f, chk, hb, rule_pair.f, rule_imps__rule_pair_1__rule_pair_1.f, rule_pair_1.f, rule_premises_1.f, impP, at_, inb, hA, hB, e1, e2, withP2m (okB_del i) (q1.2.1 e1) (q2.2.1 e2)] at h2; exact absurd h2.2.2.symm he'
       ·simp -implicitDefEqProofs [rule_premises.f, node_some, bits_Drop.f, chk, hb, rule_pair.f, rule_imps__rule_pair_1__rule_pair_1.f, rule_pair_1.f, rule_premises_1.f, impP, at_, inb, hA, hB, e1, e2] at h2
        have := q2.1 e2
        exact ⟨A2.1, h2.1.symm, by rw [this]; exact q1.2.2.1, q2.2.2.2.1, by rw [this]; exact q1.2.2.2.2.2⟩
      ·simp -implicitDefEqProofs [rule_premises.f, node_some, bits_Drop.f, chk, hb, rule_pair.f, rule_imps__rule_pair_1__rule_pair_1.f, rule_pair_1.f, rule_premises_1.f, impP, at_, inb, hA, e1] at h2
       exact ⟨A1.1, h2.1.symm, q1.2.2.1, q1.2.2.2.1, q1.2.2.2.2.2⟩
     ·have q1 := put_props (n := impN (nd M (nd M i).l).r (nd M i).r) hw.len hw.nodup
      generalize hA : putS M (impN (nd M (nd M i).l).r (nd M i).r) = A1 at q1
      by_cases e1 : A1.2.2 = 0
      ·simp -implicitDefEqProofs [rule_premises.f, node_some, bits_Drop.f, chk, hb, rule_pair.f, rule_imps__rule_pair_1.f, rule_pair_1.f, impP, hA, e1, withP1m (okB_del i) (q1.2.1 e1), withP1m (okB_del i) hy, rule_to.f] at h2; exact absurd h2.2.2.symm he'
      ·simp -implicitDefEqProofs [rule_premises.f, node_some, bits_Drop.f, chk, hb, rule_pair.f, rule_imps__rule_pair_1.f, rule_pair_1.f, impP, hA, e1] at h2
       exact ⟨A1.1, h2.1.symm, q1.2.2.1, q1.2.2.2.1, q1.2.2.2.2.2⟩
   obtain ⟨N', rfl, h5, h6, h7⟩ := key
   rw [hn, cutP h5 h6 h7] at h3
   simp only [Option.some.injEq, Prod.mk.injEq] at h3
   have := h4.1
   rw [← h3.1] at this
   exact (Option.some.inj this).symm
end Go.Proofs.YtjjkhjieegmphaaDoor
end
